/- DERIVED. Texts put together: M20, S1, S2, S3, S4, S5. -/
import Derived.RunIn
import Derived.Scope
import Derived.Test.YtpdeidlkeplegaaZ10
set_option maxRecDepth 1000000
set_option maxHeartbeats 32000000
namespace Go.Proofs.Ytpdeidlkeplegaa
open Go.RowKit
theorem stepR_scope' {P : Program} {b : Frame} {a : Act} {k : List Item} {cs : List Frame} {w : World} {c : Code} : Go.step P (lone (b.atR a (.code (.scope c) :: k)) cs w) = .next (lone (b.atR a (.code c :: .inScope c :: k)) cs w) :=
 step_lone_go (by simp [stepG, stepG.exec, Frame.atR])
theorem stepR_inScope' {P : Program} {b : Frame} {a : Act} {k : List Item} {cs : List Frame} {w : World} {c : Code} : Go.step P (lone (b.atR a (.inScope c :: k)) cs w) = .next (lone (b.atR a k) cs w) :=
 step_lone_go (by simp [stepG, stepG.exec, Frame.atR])
theorem zEe {F : Fence} {n : Nat} {P : Program} {Q : Exit → Act → World → Prop} {a : Act} {w : World} {c : Code} (h : c.wpIn F n P (Exit.noGoto Q) a w) : (Code.scope c).wpIn F n P Q a w := by
 intro b k cs hro hb hr
 have h0 : (lone (b.atR a (.code (.scope c) :: k)) cs w).fenced P F := fenced_calm hb hr rfl
 obtain ⟨e, a₁, w₁, hq, harr⟩ := h b (.inScope c :: k) cs hro hb hr
 cases e with
 | normal => exact ⟨.normal, a₁, w₁, hq, .head h0 stepR_scope' (StepsIn.trans harr (.one (fenced_calm hb hr rfl) stepR_inScope'))⟩
 | exit id =>
  have hx : exitTo id (.inScope c :: k) = exitTo id k := by simp [exitTo]
  exact ⟨.exit id, a₁, w₁, hq, fun k' hk => .head h0 stepR_scope' (harr.1 k' (by rw [hx]; exact hk)),
   fun hr' hk => let ⟨k₁, h1, h2⟩ := harr.2 hr' (by rw [hx]; exact hk); ⟨k₁, h1, .head h0 stepR_scope' h2⟩⟩
 | goto l => exact hq.elim
 | ret => exact ⟨_, a₁, w₁, hq, .of_steps (.one h0 stepR_scope') harr⟩
 | panic ch => exact ⟨_, a₁, w₁, hq, .of_steps (.one h0 stepR_scope') harr⟩
 | outgrown => exact ⟨_, a₁, w₁, hq, .of_steps (.one h0 stepR_scope') harr⟩
section
variable {P : Program} {g0 : Nat} {rec : Task → Fs → Res}
theorem zNb (hm : P.follows .mixedOrders = true) (hrec : ∀ t s, TOK P g0 t s (rec t s)) {rd : Option Nat} {nt id : Nat} {ops : Array Oper} {s0 s' : Fs} {x : Ex} {l : List Nat} (hreg : regOk ops (preAll ops.toList []) = true)
  (hr : zEl P g0 rec nt rd ops (preAll ops.toList []) l 0 [] s0 = .code x s') : CodeOK P g0 nt rd (.region id ops true) s0 x s' := by
 have h0 : CI P g0 rd nt ops s0 [] 0 s0 := ⟨trivial, fun t => rfl, fun k _ => rfl, Nat.le_refl _, (fun r hr => by cases hr), (fun k => ⟨fun h => by omega, fun ⟨r, hr, _⟩ => by cases hr⟩), (fun j => ⟨fun h => by simp at h, fun ⟨r, hr, _⟩ => by cases hr⟩), fun h => h, ⟨(fun r hr => by cases hr), fun k hk => hk⟩, rfl⟩
 obtain ⟨rfl, L, hci, hlen⟩ := zEy (s0 := s0) hrec l 0 [] s0 x s' hr h0
 refine ⟨⟨⟨hci.n, fun k hk hkw => ?_, hci.low⟩, hci.wr.2⟩, fun E0 w0 E a w hf hfree => ?_⟩
 ·rw [hci.h k (Nat.lt_of_lt_of_le hk hci.n)]
  refine GD_out (fun r hr hin => ?_)
  rcases zBm.1 hin with h | h
  ·exact hkw (hci.wr.1 r hr k h)
  ·have := (hci.tile k).2 ⟨r, hr, h⟩; omega
 ·have hall : ∀ i, i < ops.size → ∃ r ∈ L, r.i = i := fun i hi => (hci.bits i).1 (by rw [Nat.testBit_two_pow_sub_one]; simpa using hi)
  have hlg : ∀ j, (Array.replicate ops.size false).getD j false = false := fun j => by
   rw [Array.getD_eq_getD_getElem?, Array.getElem?_replicate]; split <;> rfl
  have hD0 : ∀ r ∈ L, ¬ (Array.replicate ops.size false).getD r.i false = true := fun r _ => by rw [hlg]; simp
  refine wpIn_region_any hm ?_
  refine draw_walk hci.good hall hreg hf.lw (Es := E) (ws := { w with drawn := w.drawn + 1 }) (nE := s'.n) hfree hci.hi hf.gl hf.rd (a0 := a) (allW := s'.wr) hci.wr.1 ?_ ops.size (Array.replicate ops.size false) a { w with drawn := w.drawn + 1 } (by simp) ?_ ?_ ?_
  ·intro E1 a1 w1 hx hd hst hsz hdf hT hH
   refine ⟨E1, hx, fun k => ?_, ⟨⟨hsz, fun t => by rw [hci.t t]; exact hT t⟩, hH.sub (fun k ob h => ?_), hci.low hf.lw, ?_, ?_, fun g hg => ⟨hx.n g (hf.gl g hg).1, by rw [hx.ρ g (hf.gl g hg).1, hx.sh g (hf.gl g hg).1]; exact (hf.gl g hg).2⟩, fun l hl => hx.n l (hf.rd l hl)⟩, trivial⟩
   ·rw [hd k, hci.tile k]
   ·have hlt := (hci.low hf.lw).lt (k := k) (by rw [h]; simp)
    rw [← hci.h k hlt]; exact h
   ·have h2 : Stp E E1 s'.wr w w1 := ⟨hst.ext, hst.os, hst.tape, hst.output, hst.size, hst.block, hst.fresh, hst.fz⟩
    exact hf.stp.trans' h2 (fun y hy => hy.elim (fun h => h) (fun h => hci.wr.2 y h))
   ·rw [hdf, hci.df]; exact hf.df.ext hx
  ·unfold cnt
   exact Nat.le_trans List.countP_le_length (Nat.le_of_eq hlen)
  ·intro j o _ h; rw [hlg] at h; cases h
  ·refine ⟨E, .refl E, fun k => ⟨.inl, fun h => h.elim (fun h => h) (fun ⟨r, _, h, _⟩ => by rw [hlg] at h; cases h)⟩, (Stp.refl E { w with drawn := w.drawn + 1 }).sub (fun x hx => by cases hx), hf.tr.1, rfl, fun t => ?_, ?_⟩
   ·have := zOf (ops := ops) (D := fun i => (Array.replicate ops.size false).getD i false = true) (f0 := fun t => (s0.T.get t).getD undef) (t := t) (A := L) (B := []) hD0
    rw [List.append_nil] at this
    rw [this]; exact hf.tr.2 t
   ·have : GD (fun i => (Array.replicate ops.size false).getD i false = true) s0.H.get L = s0.H.get := funext fun k => by
     have := zOe (D := fun i => (Array.replicate ops.size false).getD i false = true) (G0 := s0.H.get) (k := k) (A := L) (B := []) hD0
     rw [List.append_nil] at this; exact this
    rw [this]
    exact ⟨hf.hr.lt, hf.hr.dom, hf.hr.obj, hf.hr.inj, hf.hr.ro, hf.hr.fz, hf.hr.fn, hf.hr.pos⟩
theorem CodeOK.same {nt : Nat} {rd : Option Nat} {c : Code} {s : Fs} {x : Ex} (e : Exit) (he : ∀ E, exR E x e) (hw : ∀ (E : Env) (Q : Exit → Act → World → Prop) (a : Act) (w : World), Q e a w → c.wpIn (rdF E rd) 0 P Q a w) : CodeOK P g0 nt rd c s x s :=
 ⟨⟨Grw.refl _ _ _, fun _ hk => hk⟩, fun _ _ E a w hf _ => hw E _ a w ⟨E, .refl E, .refl E _, hf, he E⟩⟩
theorem zCx (hm : P.follows .mixedOrders = true) (hrec : ∀ t s, TOK P g0 t s (rec t s)) {nt : Nat} {rd : Option Nat} {c : Code} {s s' : Fs} {x : Ex} (hr : zBj P g0 rec nt rd c s = .code x s') : CodeOK P g0 nt rd c s x s' := by
 cases c with
 | skip =>
  simp only [zBj, Res.code.injEq] at hr; obtain ⟨rfl, rfl⟩ := hr
  exact .same .normal (fun _ => trivial) (fun E Q a w h => wpIn_skip h)
 | label l =>
  simp only [zBj, Res.code.injEq] at hr; obtain ⟨rfl, rfl⟩ := hr
  exact .same .normal (fun _ => trivial) (fun E Q a w h => wpIn_label h)
 | exit id =>
  simp only [zBj, Res.code.injEq] at hr; obtain ⟨rfl, rfl⟩ := hr
  exact .same (.exit id) (fun _ => rfl) (fun E Q a w h => wpIn_exit h)
 | ret =>
  simp only [zBj, Res.code.injEq] at hr; obtain ⟨rfl, rfl⟩ := hr
  exact .same .ret (fun _ => trivial) (fun E Q a w h => wpIn_ret h)
 | goto l => simp [zBj] at hr
 | refuse m => simp [zBj] at hr
 | rangeFunc g ps asg b => exact zRz hrec hr
 | region id ops draw =>
  cases draw with
  | false => simp only [zBj, cond_false] at hr; exact zIv hrec hr
  | true =>
   simp only [zBj, cond_true] at hr
   cases hreg : regOk ops (preAll ops.toList []) with
   | false => simp [hreg] at hr
   | true => simp only [hreg, cond_true] at hr; exact zNb hm hrec hreg hr
 | loop b =>
  simp only [zBj] at hr
  have h := hrec (.loop nt rd b) s
  rw [hr] at h
  exact ⟨h.1, fun E0 w0 E a w hf hfree => zFs (h.2 E0 w0 E a w hf hfree)⟩
 | seq a b =>
  simp only [zBj] at hr
  have h1 := hrec (.code nt rd a) s
  generalize rec (.code nt rd a) s = R at hr h1
  cases R with
  | bad m tr => simp at hr
  | ret _ _ _ _ => simp at hr
  | pan _ _ _ _ => simp at hr
  | code x1 s1 =>
   obtain ⟨⟨g1, g1'⟩, w1⟩ := h1
   by_cases hx1 : x1 = .normal
   ·subst hx1
    simp only [] at hr
    have h2 := hrec (.code nt rd b) s1
    rw [hr] at h2
    obtain ⟨⟨g2, g2'⟩, w2⟩ := h2
    refine ⟨⟨g1.trans g2 g2', fun k hk => g2' k (g1' k hk)⟩, fun E0 w0 E ac w hf hfree => wpIn_seq (wpIn_mono (w1 E0 w0 E ac w hf (hfree.left g2.le)) ?_)⟩
    rintro e a1 wd1 ⟨E1, hx, ht, hf1, he⟩
    cases zFa he
    have := w2 E0 w0 E1 a1 wd1 hf1 (hfree.right ht g1.le)
    rw [hf.next hx] at this
    exact wpIn_mono this (fun e a' w' hq => CPost.trans hx ht g1.le g2.le hq)
   ·have hr' : Res.code x1 s1 = .code x s' := by cases x1 <;> first | exact absurd rfl hx1 | exact hr
    simp only [Res.code.injEq] at hr'
    obtain ⟨rfl, rfl⟩ := hr'
    refine ⟨⟨g1, g1'⟩, fun E0 w0 E ac w hf hfree => wpIn_seq (wpIn_mono (w1 E0 w0 E ac w hf hfree) ?_)⟩
    rintro e a1 wd1 hp
    obtain ⟨E1, hx, ht, hf1, he⟩ := id hp
    exact zMp hx1 he hp
 | cond v a b =>
  simp only [zBj] at hr
  cases hv : aev s.T v with
  | bool t =>
   simp only [hv] at hr
   cases hok : okX g0 v with
   | false => simp [hok] at hr
   | true =>
    simp only [hok, cond_true] at hr
    have h1 := hrec (.code nt rd (bif t then a else b)) s
    rw [hr] at h1
    refine ⟨h1.1, fun E0 w0 E ac w hf hfree => ?_⟩
    have hev : ac.eval v = .bool t := ((zBg hf.tr hf.gl hok).isBool t).2 hv
    have := h1.2 E0 w0 E ac w hf hfree
    cases t
    ·exact wpIn_cond_false hev this
    ·exact wpIn_cond_true hev this
  | _ => simp [hv] at hr
 | block id b =>
  simp only [zBj] at hr
  have h1 := hrec (.code nt rd b) s
  generalize rec (.code nt rd b) s = R at hr h1
  cases R with
  | bad m tr => simp at hr
  | ret _ _ _ _ => simp at hr
  | pan _ _ _ _ => simp at hr
  | code x1 s1 =>
   obtain ⟨⟨g1, g1'⟩, w1⟩ := h1
   have main : ∀ x : Ex, (∀ (E : Env) (e : Exit), exR E x1 e → ∀ (Q : Exit → Act → World → Prop) (a : Act) (w : World), (∀ e', exR E x e' → Q e' a w) → Exit.inBlock id Q e a w) → CodeOK P g0 nt rd (.block id b) s x s1 := by
    intro x hx
    refine ⟨⟨g1, g1'⟩, fun E0 w0 E ac w hf hfree => wpIn_block (wpIn_mono (w1 E0 w0 E ac w hf hfree) ?_)⟩
    rintro e a1 wd1 ⟨E1, hx1, ht, hf1, he⟩
    exact hx E1 e he _ a1 wd1 (fun e' he' => ⟨E1, hx1, ht, hf1, he'⟩)
   cases x1 with
   | exit id' =>
    simp only [] at hr
    cases hid : id'.beq id with
    | true =>
     simp only [hid, cond_true, Res.code.injEq] at hr
     obtain ⟨rfl, rfl⟩ := hr
     refine main .normal (fun E e he Q a w h => ?_)
     cases e <;> first | exact False.elim he | skip
     have : id' = id := Nat.eq_of_beq_eq_true hid
     rename_i j
     have hj : j = id' := he
     simp only [Exit.inBlock, hj, this, if_true]
     exact h .normal trivial
    | false =>
     simp only [hid, cond_false, Res.code.injEq] at hr
     obtain ⟨rfl, rfl⟩ := hr
     refine main _ (fun E e he Q a w h => ?_)
     cases e <;> first | exact False.elim he | skip
     have hne : id' ≠ id := fun e => by rw [e] at hid; simp at hid
     rename_i j
     have hj : j = id' := he
     simp only [Exit.inBlock, hj, hne, if_false]
     exact h _ rfl
   | normal =>
    simp only [Res.code.injEq] at hr; obtain ⟨rfl, rfl⟩ := hr
    refine main _ (fun E e he Q a w h => ?_)
    cases e <;> first | exact False.elim he | exact h _ he
   | ret =>
    simp only [Res.code.injEq] at hr; obtain ⟨rfl, rfl⟩ := hr
    refine main _ (fun E e he Q a w h => ?_)
    cases e <;> first | exact False.elim he | exact h _ he
   | goto l =>
    simp only [Res.code.injEq] at hr; obtain ⟨rfl, rfl⟩ := hr
    refine main _ (fun E e he Q a w h => ?_)
    cases e <;> first | exact False.elim he | exact h _ he
   | pan ch =>
    simp only [Res.code.injEq] at hr; obtain ⟨rfl, rfl⟩ := hr
    refine main _ (fun E e he Q a w h => ?_)
    cases e <;> first | exact False.elim he | exact h _ he
 | scope b =>
  simp only [zBj] at hr
  have h1 := hrec (.code nt rd b) s
  generalize rec (.code nt rd b) s = R at hr h1
  cases R with
  | bad m tr => simp at hr
  | ret _ _ _ _ => simp at hr
  | pan _ _ _ _ => simp at hr
  | code x1 s1 =>
   obtain ⟨⟨g1, g1'⟩, w1⟩ := h1
   have hng : ∀ l, x1 ≠ .goto l := fun l e => by subst e; simp at hr
   have hr' : Res.code x1 s1 = .code x s' := by cases x1 <;> first | exact absurd rfl (hng _) | exact hr
   simp only [Res.code.injEq] at hr'
   obtain ⟨rfl, rfl⟩ := hr'
   refine ⟨⟨g1, g1'⟩, fun E0 w0 E ac w hf hfree => ?_⟩
   have := w1 E0 w0 E ac w hf hfree
   exact zEe (wpIn_mono this (fun e a' w' hp => by
    obtain ⟨E1, q1, q2, q3, q4⟩ := id hp
    cases e with
    | goto l => cases x1 <;> first | exact absurd rfl (hng _) | exact False.elim q4
    | _ => exact hp))
theorem zJv (hm : P.follows .mixedOrders = true) (hrec : ∀ t s, TOK P g0 t s (rec t s)) : ∀ t s, TOK P g0 t s (step P g0 rec t s) := by
 intro t s
 match t with
 | .code nt rd c =>
  cases hr : step P g0 rec (.code nt rd c) s with
  | code x s' => exact zCx hm hrec hr
  | _ => trivial
 | .loop nt rd c =>
  cases hr : step P g0 rec (.loop nt rd c) s with
  | code x s' => exact zNc hrec hr
  | _ => trivial
 | .call f args =>
  cases hr : step P g0 rec (.call f args) s with
  | ret v H n wr => exact zLw hrec hr (by simp)
  | pan ch H n wr => exact zLw hrec hr (by simp)
  | _ => trivial
 | .dcall f args u =>
  cases hr : step P g0 rec (.dcall f args u) s with
  | ret v H n wr => exact zKq hrec hr (by simp)
  | pan ch H n wr => exact zKq hrec hr (by simp)
  | _ => trivial
end
theorem ev_ok {P : Program} (hm : P.follows .mixedOrders = true) (g0 : Nat) : ∀ (f : Nat) (t : Task) (s : Fs), TOK P g0 t s (ev P g0 f t s)
 | 0, t, s => by rw [ev_zero]; cases t <;> trivial
 | f + 1, t, s => by rw [ev_succ]; exact zJv hm (ev_ok hm g0 f) t s
def fs0 : Fs := ⟨.e, .e, 0, [], []⟩
def env0 : Env := ⟨fun _ => False, fun _ => 0, fun _ => 0, fun _ => 0, fun _ => 0, fun _ => False, fun _ => none⟩
end Go.Proofs.Ytpdeidlkeplegaa
namespace Go.Proofs.Ytpdeidlkeplegaa
open Go.RowKit
abbrev brK (b : Bool) (A B : Prop) : Prop := @Bool.rec (fun _ => Prop) B A b
theorem ifK {b : Bool} {A B : Prop} (h1 : b = true → A) (h2 : b = false → B) : @Bool.rec (fun _ => Prop) B A b := by cases b; exact h2 rfl; exact h1 rfl
theorem zEu {b : Bool} {p : Prop} (h : bif b then p else False) : b = true ∧ p := by cases b; exact h.elim; exact ⟨rfl, h⟩
def atS (s : ByteArray) (i : Int) : UInt8 := s.data.toList.getD i.toNat 0
def subS (s : ByteArray) (l h : Nat) : ByteArray := ⟨((s.data.toList.take h).drop l).toArray⟩
def inI (i : Int) (n : Nat) : Bool := decide (0 ≤ i) && decide (i < n)
def inLH (lo hi : Int) (n : Nat) : Bool := decide (0 ≤ lo) && decide (lo ≤ hi) && decide (hi ≤ n)
def loI (v : Option Value) (d : Int) : Option Int := match v with | none => some d | some (.int _ i) => some i | _ => none
section
variable (P : Program) (sy : List Nat)
def exL : List Value → (List Value → Prop) → Prop
 | [], F => F []
 | .string _ :: z, F => ∃ s : ByteArray, exL z fun l => F (.string s :: l)
 | .int k _ :: z, F => ∃ i : Int, exL z fun l => F (.int k i :: l)
 | .bool _ :: z, F => ∃ b : Bool, exL z fun l => F (.bool b :: l)
 | _ :: z, F => ∃ u : Value, exL z fun l => F (u :: l)
theorem zLy : ∀ (z : List Value) (F : List Value → Prop), exL z F → ∃ l, F l
 | [], F, h => ⟨[], h⟩
 | v :: z, F, h => by
  cases v <;> (obtain ⟨u, hu⟩ := h; obtain ⟨l, hl⟩ := zLy z _ hu; exact ⟨_, hl⟩)
def sLoad (t : TypeId) (a : Value) (G : Gh) (K : ORes → Prop) : Prop :=
 match a with
 | .pointer (some ⟨b, o, none⟩) =>
  bif sy.elem b then
   (match (G b).bind AObj.look with
   | some c =>
    (match aggT P t, P.info? t with
    | some false, some i => exL [i.zero.getD .nilFunc] fun l => (match l with | [u] => c[o]? = some u ∧ K (.val u [] 0) | _ => False)
    | some true, some i => exL (i.zero.getD .nilFunc).cells.toList fun l => (o + i.size ≤ c.length ∧ (c.drop o).take i.size = l) ∧ K (.val (.agg l.toArray) [] 0)
    | _, _ => False)
   | _ => False)
  else K (zKc P t a G)
 | _ => K (zKc P t a G)
theorem sLoad_imp {t : TypeId} {a : Value} {G : Gh} {K : ORes → Prop} (h : sLoad P sy t a G K) : K (zKc P t a G) := by
 unfold sLoad at h
 split at h
 ·rename_i b o
  cases hb : sy.elem b with
  | false => rw [hb] at h; exact h
  | true =>
   rw [hb] at h
   simp only [cond_true] at h
   unfold zKc
   split at h
   ·rename_i c hg
    simp only [hg]
    split at h
    ·rename_i i ha hi
     obtain ⟨l, hl⟩ := zLy _ _ h
     split at hl
     ·rename_i u
      obtain ⟨hu, hk⟩ := hl
      simp only [ha, hu]; exact hk
     ·exact hl.elim
    ·rename_i i ha hi
     obtain ⟨l, ⟨h1, rfl⟩, hk⟩ := zLy _ _ h
     simp only [ha, hi]
     rw [Nat.ble_eq_true_of_le h1]; exact hk
    ·exact h.elim
   ·exact h.elim
 ·exact h
def zHk (t : TypeId) (v i : Value) (K : ORes → Prop) : Prop :=
 match P.underlying t, v, i with
 | some (.slice e), .slice (some ⟨b, o, none⟩) n _, .int _ i =>
  (match P.info? e with
  | some inf => brK (inI i n) (K (.val (.pointer (some ⟨b, o + i.toNat * inf.size, none⟩)) [] 0)) (K (zGt P))
  | none => False)
 | some (.slice e), .func (.via z _ n false) _ ⟨cs⟩, .int _ i =>
  (match P.info? e with
  | some inf => bif z.beq inf.size then brK (inI i n) (match inf.zero with
   | some zv => exL zv.cells.toList fun l => (cs.drop (i.toNat * z)).take z = l ∧ K (.val (refV l) [] 0)
   | none => False) (K (zGt P)) else False
  | none => False)
 | _, _, _ => K (zBy P t v i)
theorem zKf {t : TypeId} {v i : Value} {K : ORes → Prop} (h : zHk P t v i K) : K (zBy P t v i) := by
 unfold zHk at h
 split at h
 ·rename_i e b o n c k i hu
  split at h
  ·rename_i inf hi
   unfold zBy
   simp only [hu, hi]
   cases hb : inI i n with
   | true => rw [hb] at h; unfold inI at hb; rw [hb]; exact h
   | false => rw [hb] at h; unfold inI at hb; rw [hb]; exact h
  ·exact h.elim
 ·rename_i e z p n f cs k i hu
  split at h
  ·rename_i inf hi
   obtain ⟨hz, h⟩ := zEu h
   unfold zBy
   simp only [hu, hi, hz, cond_true]
   cases hb : inI i n with
   | true =>
    rw [hb] at h
    unfold inI at hb
    rw [hb]
    have h : (match inf.zero with
     | some zv => exL zv.cells.toList fun l => (cs.drop (i.toNat * z)).take z = l ∧ K (.val (refV l) [] 0)
     | none => False) := h
    split at h
    ·obtain ⟨l, rfl, h⟩ := zLy _ _ h; exact h
    ·exact h.elim
   | false => rw [hb] at h; unfold inI at hb; rw [hb]; exact h
  ·exact h.elim
 ·exact h
def sStr (o : Oper) (ev : Operand → Value) (K : ORes → Prop) (D : Prop) : Prop :=
 match o.op with
 | .index t x y => (match P.underlying t, ev x, ev y with
  | some .string, .string s, .int _ i => inI i s.data.size = true ∧ K (.val (.int .u8 (atS s i).toNat) [] 0)
  | _, _, _ => D)
 | .slice t x lo hi none => (match P.underlying t, ev x with
  | some .string, .string s => (match loI (lo.map ev) 0, loI (hi.map ev) s.data.size with
   | some l, some h => inLH l h s.data.size = true ∧ K (.val (.string (subS s l.toNat h.toNat)) [] 0)
   | _, _ => False)
  | _, _ => D)
 | _ => D
theorem sStr_imp {o : Oper} {ev : Operand → Value} {K : ORes → Prop} {D : Prop} (h : sStr P o ev K D) : D ∨ (∃ v, aStr P o ev = .val v [] 0 ∧ K (.val v [] 0)) := by
 unfold sStr at h
 split at h
 ·rename_i t x y ho
  split at h
  ·rename_i s k i hu h1 h2
   obtain ⟨hi, hk⟩ := h
   refine .inr ⟨_, ?_, hk⟩
   unfold aStr
   simp only [ho, hu, h1, h2]
   simp only [inI, Bool.and_eq_true, decide_eq_true_eq] at hi
   have hl : i.toNat < s.data.toList.length := by rw [Array.length_toList]; omega
   rw [decide_eq_true hi.1]
   simp only [cond_true, List.getElem?_eq_getElem hl]
   simp [atS, List.getD_eq_getElem?_getD, List.getElem?_eq_getElem hl, -Array.getElem_toList, -Array.getElem?_toList, -Array.length_toList]
  ·exact .inl h
 ·rename_i t x lo hi ho
  split at h
  ·rename_i s hu h1
   split at h
   ·rename_i l hh hlo hhi
    obtain ⟨hb, hk⟩ := h
    refine .inr ⟨_, ?_, hk⟩
    unfold aStr
    simp only [ho, hu, h1]
    simp only [inLH, Bool.and_eq_true, decide_eq_true_eq] at hb
    obtain ⟨⟨b1, b2⟩, b3⟩ := hb
    have e2 : sbound (hi.map ev) s.data.size s.data.size = some hh.toNat := by
     unfold loI at hhi
     cases hm : hi.map ev with
     | none => rw [hm] at hhi; simp at hhi; subst hhi; simp [sbound]
     | some u =>
      rw [hm] at hhi
      cases u <;> simp only [] at hhi <;> first | (cases hhi; done) | skip
      cases hhi
      exact zAy.2 ⟨by omega, b3, rfl⟩
    have e1 : sbound (lo.map ev) hh.toNat 0 = some l.toNat := by
     unfold loI at hlo
     cases hm : lo.map ev with
     | none => rw [hm] at hlo; simp at hlo; subst hlo; simp [sbound]
     | some u =>
      rw [hm] at hlo
      cases u <;> simp only [] at hlo <;> first | (cases hlo; done) | skip
      cases hlo
      exact zAy.2 ⟨b1, by omega, rfl⟩
    simp only [e2, e1]; rfl
   ·exact h.elim
  ·exact .inl h
 ·exact .inl h
def catS (s t : ByteArray) : ByteArray := ⟨(s.data.toList ++ t.data.toList).toArray⟩
def catOk (s t : ByteArray) : Bool := Nat.ble (s.data.size + t.data.size) 9223372036854775807
def ltS (s t : ByteArray) : Bool := Op.bytesLess s.data.toList t.data.toList
def bitsI (op : BinOp) (k : IntKind) (a b : Int) : Int :=
 k.wrap (match op with | .and => BitVec.ofInt k.bits a &&& BitVec.ofInt k.bits b | .or => BitVec.ofInt k.bits a ||| BitVec.ofInt k.bits b | .xor => BitVec.ofInt k.bits a ^^^ BitVec.ofInt k.bits b | _ => BitVec.ofInt k.bits a &&& ~~~(BitVec.ofInt k.bits b)).toNat
def shlI (k : IntKind) (a b : Int) : Int := k.wrap (a * 2 ^ (min b.toNat k.bits))
def shrI (k : IntKind) (a b : Int) : Int := a.fdiv (2 ^ (min b.toNat k.bits))
def sBin (o : Oper) (ev : Operand → Value) (K : ORes → Prop) (D : Prop) : Prop :=
 match o.op with
 | .binOp op _ x y _ => (match ev x, ev y with
  | .int k a, .int k' b => (match op with
   | .rem => bif decide (k = k') then brK (b == 0) False (K (.val (.int k (a.tmod b)) [] 0)) else False
   | .quo => bif decide (k = k') then brK (b == 0) False (K (.val (.int k (k.wrap (a.tdiv b))) [] 0)) else False
   | .mul => bif decide (k = k') then K (.val (.int k (k.wrap (a * b))) [] 0) else False
   | .and => bif decide (k = k') then K (.val (.int k (bitsI .and k a b)) [] 0) else False
   | .or => bif decide (k = k') then K (.val (.int k (bitsI .or k a b)) [] 0) else False
   | .xor => bif decide (k = k') then K (.val (.int k (bitsI .xor k a b)) [] 0) else False
   | .andNot => bif decide (k = k') then K (.val (.int k (bitsI .andNot k a b)) [] 0) else False
   | .shl => brK (decide (b < 0)) False (K (.val (.int k (shlI k a b)) [] 0))
   | .shr => brK (decide (b < 0)) False (K (.val (.int k (shrI k a b)) [] 0))
   | _ => D)
  | .string s, .string t => (match op with
   | .add => catOk s t = true ∧ K (.val (.string (catS s t)) [] 0)
   | .lss => K (.val (.bool (ltS s t)) [] 0)
   | .leq => K (.val (.bool (ltS s t || s.data.toList == t.data.toList)) [] 0)
   | .gtr => K (.val (.bool !(ltS s t || s.data.toList == t.data.toList)) [] 0)
   | .geq => K (.val (.bool !(ltS s t)) [] 0)
   | _ => D)
  | _, _ => D)
 | _ => D
theorem brK_no {b : Bool} {A : Prop} (h : brK b False A) : b = false ∧ A := by cases b; exact ⟨rfl, h⟩; exact h.elim
theorem sBin_imp {o : Oper} {ev : Operand → Value} {K : ORes → Prop} {D : Prop} (h : sBin o ev K D) : D ∨ (∃ v op t x y u, zEg P ev o = .val v [] 0 ∧ K (.val v [] 0) ∧ o.op = .binOp op t x y u ∧ aStr P o ev = .bad "string" ∧ ∀ G, (aBin P op t (ev x) (ev y)).or (aPtr P op t (ev x) (ev y) G) = .bad "binOp") := by
 unfold sBin at h
 split at h
 ·rename_i op t x y u ho
  have fin : ∀ v, pureR P (execOp ev o) = .ok (.value v) → plainV 8 (ev x) = true → plainV 8 (ev y) = true → plainV 8 v = true → zEg P ev o = .val v [] 0 := fun v h3 hx hy hv => by
   unfold zEg
   rw [show plainOps ev o = true by simp [plainOps, ho, Op.operands, hx, hy], show noSel o = true by simp [noSel, ho]]
   simp only [Bool.and_self, cond_true, h3, hv]
  split at h
  ·rename_i k a k' b h1 h2
   have px : plainV 8 (ev x) = true := by rw [h1]; rfl
   have py : plainV 8 (ev y) = true := by rw [h2]; rfl
   split at h
   ·cases hk : decide (k = k') with
    | false => rw [hk] at h; exact h.elim
    | true =>
     rw [hk] at h
     have hk := of_decide_eq_true hk
     subst hk
     obtain ⟨hb, h⟩ := brK_no h
     have hb : b ≠ 0 := by simpa using hb
     exact .inr ⟨_, _, _, _, _, _, fin _ (by simp [execOp, ho, h1, h2, eqGuard, binOp, Op.intDiv, hb]) px py rfl, h, ho, by simp [aStr, ho], fun G => by rw [h1, h2]; unfold aBin zLi aEq aPtr; simp; rfl⟩
   ·cases hk : decide (k = k') with
    | false => rw [hk] at h; exact h.elim
    | true =>
     rw [hk] at h
     have hk := of_decide_eq_true hk
     subst hk
     obtain ⟨hb, h⟩ := brK_no h
     have hb : b ≠ 0 := by simpa using hb
     exact .inr ⟨_, _, _, _, _, _, fin _ (by simp [execOp, ho, h1, h2, eqGuard, binOp, Op.intDiv, hb]) px py rfl, h, ho, by simp [aStr, ho], fun G => by rw [h1, h2]; unfold aBin zLi aEq aPtr; simp; rfl⟩
   ·cases hk : decide (k = k') with
    | false => rw [hk] at h; exact h.elim
    | true =>
     rw [hk] at h
     have hk := of_decide_eq_true hk
     subst hk
     exact .inr ⟨_, _, _, _, _, _, fin _ (by simp [execOp, ho, h1, h2, eqGuard, binOp, Op.intArith]) px py rfl, h, ho, by simp [aStr, ho], fun G => by rw [h1, h2]; unfold aBin zLi aEq aPtr; simp; rfl⟩
   all_goals first
    | (cases hk : decide (k = k') with
     | false => rw [hk] at h; exact h.elim
     | true =>
      rw [hk] at h
      have hk := of_decide_eq_true hk
      subst hk
      exact .inr ⟨_, _, _, _, _, _, fin _ (by simp [execOp, ho, h1, h2, eqGuard, binOp, Op.intBits, bitsI]) px py rfl, h, ho, by simp [aStr, ho], fun G => by rw [h1, h2]; unfold aBin zLi aEq aPtr; simp; rfl⟩)
    | (obtain ⟨hb, h⟩ := brK_no h
       have hb : ¬ b < 0 := by simpa using hb
       exact .inr ⟨_, _, _, _, _, _, fin _ (by simp [execOp, ho, h1, h2, eqGuard, binOp, Op.shift, hb, shlI, shrI]) px py rfl, h, ho, by simp [aStr, ho], fun G => by rw [h1, h2]; unfold aBin zLi aEq aPtr; first | rfl | (simp; done) | (simp; rfl) | (cases decide (k = k') <;> rfl)⟩)
    | exact .inl h
  ·rename_i s t' h1 h2
   have px : plainV 8 (ev x) = true := by rw [h1]; rfl
   have py : plainV 8 (ev y) = true := by rw [h2]; rfl
   split at h
   ·obtain ⟨hc, h⟩ := h
    have hc : s.data.size + t'.data.size ≤ 9223372036854775807 := Nat.le_of_ble_eq_true hc
    have hcat : s ++ t' = catS s t' := by apply ByteArray.ext; simp [catS]
    have hmax : ¬ (((s.size + t'.size : Nat) : Int) > IntKind.i64.max) := by
     have : IntKind.i64.max = 9223372036854775807 := by decide
     rw [this]
     have : s.size = s.data.size := rfl
     have : t'.size = t'.data.size := rfl
     omega
    exact .inr ⟨_, _, _, _, _, _, fin _ (by simp only [execOp, ho, h1, h2, eqGuard, binOp, Op.stringOp, hmax, if_false, hcat]; rfl) px py rfl, h, ho, by simp [aStr, ho], fun G => by rw [h1, h2]; rfl⟩
   all_goals first
    | (refine .inr ⟨_, _, _, _, _, _, fin _ (by simp only [execOp, ho, h1, h2, eqGuard, binOp, Op.stringOp, zEk, ltS]; rfl) px py rfl, h, ho, by simp [aStr, ho], fun G => by rw [h1, h2]; rfl⟩; done)
    | exact .inl h
  ·exact .inl h
 ·exact .inl h
def noKey (b : Int) (es : List MapEntry) : Bool := es.all fun e => match e.key with | .int _ b' => !(b == b') | _ => false
def sFind (a : Int) : List MapEntry → (Option Value → Prop) → Prop
 | [], K => K none
 | e :: es, K => match e.key with | .int _ b => brK (a == b) (bif noKey b es then K (some e.val) else False) (sFind a es K) | _ => False
def zMd (k : IntKind) (es : List MapEntry) : Bool := es.all fun e => match e.key with | .int k' _ => decide (k' = k) | _ => false
theorem eqK_int {kt : TypeId} {ik : IntKind} (hd : P.underlying kt = some (.int ik)) {a b : Int} {e : MapEntry} (he : e.key = .int ik b) : eqK P kt (.int ik a) e = some (a == b) := by
 have heq : pureR P (Op.equal kt (.int ik a) (.int ik b)) = .ok (a == b) := by
  unfold Op.equal Op.maxDepth Op.equalIn
  refine (pureR_bind' P (Go.underlying kt) _).trans ?_
  rw [zBc hd]
  simp only [PRes.bind, if_true]
  rfl
 unfold eqK
 rw [he, heq]
theorem zNx {kt : TypeId} {ik : IntKind} (hd : P.underlying kt = some (.int ik)) {a : Int} : ∀ {es : List MapEntry} {K : Option Value → Prop} (i : Nat), zMd ik es = true → sFind a es K → ∃ q, zCj P kt (.int ik a) es i = some q ∧ K (q.map (·.2))
 | [], K, i, _, h => ⟨none, rfl, h⟩
 | e :: es, K, i, hk, h => by
  simp only [zMd, List.all_cons, Bool.and_eq_true] at hk
  unfold sFind at h
  unfold zCj
  cases hke : e.key with
  | int k' b =>
   rw [hke] at h hk
   have hk1 : k' = ik := of_decide_eq_true hk.1
   subst hk1
   rw [eqK_int P hd hke]
   simp only [] at h
   cases hb : (a == b) with
   | true =>
    rw [hb] at h
    have hab : a = b := by simpa using hb
    subst hab
    have h : (bif noKey a es then K (some e.val) else False) := h
    cases hn : noKey a es with
    | false => rw [hn] at h; exact h.elim
    | true =>
     rw [hn] at h
     have hall : (es.all fun x => match eqK P kt (.int k' a) x with | some false => true | _ => false) = true := by
      refine List.all_eq_true.2 fun x hx => ?_
      have h1 := List.all_eq_true.1 hk.2 x hx
      have h2 := List.all_eq_true.1 hn x hx
      cases hx' : x.key with
      | int k2 b2 =>
       rw [hx'] at h1 h2
       have hk2 : k2 = k' := of_decide_eq_true h1
       subst hk2
       rw [eqK_int P hd hx']
       simp only [Bool.not_eq_true'] at h2
       rw [h2]
      | _ => rw [hx'] at h1; cases h1
     refine ⟨some (i, e.val), ?_, h⟩
     show (bif (es.all fun x => match eqK P kt (.int k' a) x with | some false => true | _ => false) then some (some (i, e.val)) else none) = _
     rw [hall]; rfl
   | false => rw [hb] at h; exact zNx hd (i + 1) hk.2 h
  | _ => rw [hke] at h; exact h.elim
def zPj (t : TypeId) (m k : Value) (ok : Bool) (G : Gh) (K : ORes → Prop) (D : Prop) : Prop :=
 match P.underlying t, m, k with
 | some (.map kt et), .map (some r), .int ik a =>
  (match G r, P.underlying kt with
  | some (.map es _), some (.int ik') =>
   bif decide (ik' = ik) && zAe es && keyOk P kt es.isEmpty (.int ik a) && zMd ik es then
    (match (P.info? et).bind (·.zero) with
    | some z => bif plainV 8 z then sFind a es fun q => (match q with
     | some v => K (.val (bif ok then .tuple #[v, .bool true] else v) [] 0)
     | none => K (.val (bif ok then .tuple #[z, .bool false] else z) [] 0)) else False
    | none => False)
   else D
  | _, _ => D)
 | _, _, _ => D
theorem zPk {t : TypeId} {m k : Value} {ok : Bool} {G : Gh} {K : ORes → Prop} {D : Prop} (h : zPj P t m k ok G K D) : D ∨ ∃ v, zFn P t m k ok G = .val v [] 0 ∧ K (.val v [] 0) := by
 unfold zPj at h
 split at h
 ·rename_i kt et r ik a hu
  split at h
  ·rename_i es ck ik' hg hd
   cases hc : (decide (ik' = ik) && zAe es && keyOk P kt es.isEmpty (.int ik a) && zMd ik es) with
   | false => rw [hc] at h; exact .inl h
   | true =>
    rw [hc] at h
    simp only [Bool.and_eq_true] at hc
    obtain ⟨⟨⟨h1, h2⟩, h3⟩, h4⟩ := hc
    have h1 := of_decide_eq_true h1
    subst h1
    simp only [cond_true] at h
    cases hz : (P.info? et).bind (·.zero) with
    | none => rw [hz] at h; exact h.elim
    | some z =>
     rw [hz] at h
     simp only [] at h
     cases hp : plainV 8 z with
     | false => rw [hp] at h; exact h.elim
     | true =>
      rw [hp] at h
      simp only [cond_true] at h
      obtain ⟨q, hq, hk⟩ := zNx P hd 0 h4 h
      obtain ⟨inf, hi, hz'⟩ := Option.bind_eq_some_iff.1 hz
      right
      unfold zFn
      simp only [hu, hg, hd, h2, h3, Bool.and_self, cond_true, hq]
      cases q with
      | none => simp only [hi, hz', hp, cond_true]; exact ⟨_, rfl, hk⟩
      | some iv => exact ⟨_, rfl, hk⟩
  ·exact .inl h
 ·exact .inl h
def zKp (d : TypeDesc) (x y : Value) : Option Bool :=
 match d, x, y with
 | .bool, .bool a, .bool b => some (a == b)
 | .int _, .int k a, .int k' b => bif decide (k = k') then some (a == b) else none
 | .string, .string a, .string b => some (a.data.toList == b.data.toList)
 | _, _, _ => none
def eqFs (P : Program) : List Field → List Value → List Value → Option Bool
 | [], _, _ => some true
 | f :: fs, xs, ys => match P.underlying f.type, xs[f.offset]?, ys[f.offset]? with
  | some d, some u, some v => (match zKp d u v, eqFs P fs xs ys with | some a, some b => some (a && b) | _, _ => none)
  | _, _, _ => none
def structOk (P : Program) (t : TypeId) : Bool :=
 match P.underlying t with
 | some (.struct fs) => (fs.toList.all fun f => f.name != "_") && !(P.stoodInHeld t) && !(P.eqGuardType P.depth t)
 | _ => false
theorem zRx {P : Program} {t : TypeId} {d : TypeDesc} {n : Nat} {x y : Value} {b : Bool} (hd : P.underlying t = some d) (h : zKp d x y = some b) : pureR P (Op.equalIn (n + 1) t x y) = .ok b := by
 unfold Op.equalIn
 refine (pureR_bind' P (Go.underlying t) _).trans ?_
 rw [zBc hd]
 unfold zKp at h
 split at h
 ·cases h; rfl
 ·rename_i k0 k a k' b'
  cases hk : decide (k = k') with
  | false => rw [hk] at h; cases h
  | true =>
   rw [hk] at h
   have hk := of_decide_eq_true hk
   subst hk
   cases h
   simp only [PRes.bind, if_true]; rfl
 ·rename_i a b'
  cases h
  have : (a == b') = (a.data.toList == b'.data.toList) := by
   have e1 : (a == b') = (a.data == b'.data) := by cases a; cases b'; rfl
   rw [e1, Bool.eq_iff_iff]
   simp only [beq_iff_eq]
   exact ⟨fun e => by rw [e], fun e => Array.toList_inj.1 e⟩
  simp only [PRes.bind, this]; rfl
 ·cases h
theorem zRb {P : Program} {t : TypeId} {d : TypeDesc} {xs : Array Value} {o : Nat} {u : Value} (hd : P.underlying t = some d) (hb : ∃ x y b, zKp d x y = some b) (hu : xs[o]? = some u) : pureR P (part t xs o) = .ok u := by
 unfold part
 refine (pureR_bind' P (isAgg t) _).trans ?_
 have : pureR P (isAgg t) = .ok false := by
  unfold isAgg
  refine (pureR_bind' P (Go.underlying t) _).trans ?_
  rw [zBc hd]
  obtain ⟨x, y, b, hb⟩ := hb
  unfold zKp at hb
  split at hb <;> first | (cases hb; done) | rfl
 rw [this]
 simp only [PRes.bind, hu]; rfl
theorem zQg {P : Program} {xs ys : Array Value} (g : Field → Option Bool × Unit → Sem (ForInStep (Option Bool × Unit)))
  (hg : ∀ f a s d u v, f.name ≠ "_" → P.underlying f.type = some d → xs[f.offset]? = some u → ys[f.offset]? = some v → zKp d u v = some a → pureR P (g f s) = .ok (bif a then .yield (none, ()) else .done (some false, ()))) :
  ∀ (fs : List Field) (b : Bool), (fs.all fun f => f.name != "_") = true → eqFs P fs xs.toList ys.toList = some b → pureR P (forIn fs ((none : Option Bool), ()) g) = .ok (bif b then (none, ()) else (some false, ()))
 | [], b, _, h => by simp only [eqFs, Option.some.injEq] at h; subst h; rfl
 | f :: fs, b, ha, h => by
  simp only [List.all_cons, Bool.and_eq_true] at ha
  simp only [eqFs] at h
  split at h
  ·rename_i d u v hd hu hv
   split at h
   ·rename_i a c h1 h2
    cases h
    have ih := zQg g hg fs c ha.2 h2
    have hne : f.name ≠ "_" := by simpa using ha.1
    rw [Array.getElem?_toList] at hu hv
    have h3 := hg f a (none, ()) d u v hne hd hu hv h1
    rw [List.forIn_cons, pureR_bind, h3]
    cases a with
    | false => rfl
    | true => simpa [PRes.bind] using ih
   ·cases h
  ·cases h
theorem zHs {P : Program} {t : TypeId} {fs : Array Field} {xs ys : Array Value} {b : Bool} (hu : P.underlying t = some (.struct fs)) (ho : structOk P t = true) (h : eqFs P fs.toList xs.toList ys.toList = some b) : pureR P (Op.equal t (.agg xs) (.agg ys)) = .ok b := by
 unfold structOk at ho
 rw [hu] at ho
 simp only [Bool.and_eq_true, Bool.not_eq_true'] at ho
 unfold Op.equal Op.maxDepth Op.equalIn
 refine (pureR_bind' P (Go.underlying t) _).trans ?_
 rw [zBc hu]
 simp only [PRes.bind]
 simp only [pureR_bind, pureR_program, PRes.bind, ho.1.2, if_false, Bool.false_eq_true]
 rw [← Array.forIn_toList, zQg (xs := xs) (ys := ys) _ ?_ fs.toList b ho.1.1 h]
 ·cases b <;> rfl
 ·intro f a s d u v hne hd hu' hv h1
  simp only [if_pos hne, pureR_bind, zRb hd ⟨u, v, a, h1⟩ hu', zRb hd ⟨u, v, a, h1⟩ hv, zRx (n := 9998) hd h1, PRes.bind]
  cases a <;> rfl
def basicV (v : Value) : Bool := match v with | .bool _ | .int _ _ | .string _ => true | _ => false
theorem zIq {a : Array Value} (h : a.toList.all basicV = true) : plainV 8 (.agg a) = true := by
 show (a.toList.all (plainV 7)) = true
 refine List.all_eq_true.2 fun v hv => ?_
 have := List.all_eq_true.1 h v hv
 cases v <;> first | rfl | cases this
def sEqA (o : Oper) (ev : Operand → Value) (K : ORes → Prop) (D : Prop) : Prop :=
 match o.op with
 | .binOp op t x y _ => (match ev x, ev y with
  | .agg a, .agg b => bif a.toList.all basicV && b.toList.all basicV then (match P.underlying t with
   | some (.struct fs) => (match op with
    | .eql => structOk P t = true ∧ (match eqFs P fs.toList a.toList b.toList with | some r => K (.val (.bool r) [] 0) | none => False)
    | .neq => structOk P t = true ∧ (match eqFs P fs.toList a.toList b.toList with | some r => K (.val (.bool !r) [] 0) | none => False)
    | _ => D)
   | _ => D) else D
  | _, _ => D)
 | _ => D
theorem zFj {t : TypeId} {op : BinOp} {x y : Operand} {a b : Array Value} (h : P.eqGuardType P.depth t = false) : pureR P (eqGuard op t x y (.agg a) (.agg b)) = .ok () := by
 unfold eqGuard
 cases op <;> simp [h, PRes.bind]
theorem sEqA_imp {o : Oper} {ev : Operand → Value} {K : ORes → Prop} {D : Prop} (h : sEqA P o ev K D) : D ∨ (∃ v op t x y u, zEg P ev o = .val v [] 0 ∧ K (.val v [] 0) ∧ o.op = .binOp op t x y u ∧ aStr P o ev = .bad "string" ∧ ∀ G, ∃ m, (aBin P op t (ev x) (ev y)).or (aPtr P op t (ev x) (ev y) G) = .bad m) := by
 unfold sEqA at h
 split at h
 ·rename_i op t x y u ho
  split at h
  ·rename_i a b hx hy
   cases hp : (a.toList.all basicV && b.toList.all basicV) with
   | false => rw [hp] at h; exact .inl h
   | true =>
   rw [hp] at h
   simp only [cond_true] at h
   simp only [Bool.and_eq_true] at hp
   have px : plainV 8 (ev x) = true := by rw [hx]; exact zIq hp.1
   have py : plainV 8 (ev y) = true := by rw [hy]; exact zIq hp.2
   split at h
   ·rename_i fs hu
    have hbin : ∀ op : BinOp, op = .eql ∨ op = .neq → ∀ G, ∃ m, (aBin P op t (ev x) (ev y)).or (aPtr P op t (ev x) (ev y) G) = .bad m := by
     rintro op (rfl | rfl) G
     ·rw [hx, hy]; unfold aBin zLi aEq aPtr zEp; simp only [hu]; exact ⟨_, rfl⟩
     ·rw [hx, hy]; unfold aBin zLi aEq aPtr zEp; simp only [hu]; exact ⟨_, rfl⟩
    have fin : ∀ v, pureR P (execOp ev o) = .ok (.value v) → plainV 8 v = true → zEg P ev o = .val v [] 0 := fun v h3 hv => by
     unfold zEg
     rw [show plainOps ev o = true by simp [plainOps, ho, Op.operands, px, py], show noSel o = true by simp [noSel, ho]]
     simp only [Bool.and_self, cond_true, h3, hv]
    split at h
    ·obtain ⟨h1, h2⟩ := h
     split at h2
     ·rename_i r hr
      refine .inr ⟨_, _, _, _, _, _, fin _ ?_ rfl, h2, ho, by simp [aStr, ho, hx], hbin _ (.inl rfl)⟩
      have he := zHs hu h1 hr
      have hg : P.eqGuardType P.depth t = false := by
       unfold structOk at h1
       rw [hu] at h1
       simp only [Bool.and_eq_true, Bool.not_eq_true'] at h1
       exact h1.2
      unfold execOp
      simp only [ho, hx, hy, pureR_bind, zFj P hg, PRes.bind, binOp, he]; rfl
     ·exact h2.elim
    ·obtain ⟨h1, h2⟩ := h
     split at h2
     ·rename_i r hr
      refine .inr ⟨_, _, _, _, _, _, fin _ ?_ rfl, h2, ho, by simp [aStr, ho, hx], hbin _ (.inr rfl)⟩
      have he := zHs hu h1 hr
      have hg : P.eqGuardType P.depth t = false := by
       unfold structOk at h1
       rw [hu] at h1
       simp only [Bool.and_eq_true, Bool.not_eq_true'] at h1
       exact h1.2
      unfold execOp
      simp only [ho, hx, hy, pureR_bind, zFj P hg, PRes.bind, binOp, he]; rfl
     ·exact h2.elim
    ·exact .inl h
   ·exact .inl h
  ·exact .inl h
 ·exact .inl h
def sSrc (sz : Nat) (x : Value) (G : Gh) (K : Nat → List Value → Prop) : Prop :=
 match x with
 | .slice (some ⟨b, o, none⟩) n c => bif sy.elem b then ∃ cs, zAk G sz (.slice (some ⟨b, o, none⟩) n c) = some (n, cs) ∧ K n cs else (match zAk G sz (.slice (some ⟨b, o, none⟩) n c) with | some (m, cs) => K m cs | none => False)
 | .string s => bif sz.beq 1 then K s.data.toList.length (s.data.toList.map fun b => .int .u8 b.toNat) else False
 | .func (.via z _ n false) _ ⟨cs⟩ => bif z.beq sz then K n cs else False
 | x => (match zAk G sz x with | some (m, cs) => K m cs | none => False)
theorem zMm {sz : Nat} {x : Value} {G : Gh} {K : Nat → List Value → Prop} (h : sSrc sy sz x G K) : ∃ m cs, zAk G sz x = some (m, cs) ∧ K m cs := by
 unfold sSrc at h
 split at h
 ·rename_i b o n c
  cases hb : sy.elem b with
  | true => rw [hb] at h; obtain ⟨cs, h1, h2⟩ := h; exact ⟨n, cs, h1, h2⟩
  | false =>
   rw [hb] at h
   simp only [cond_false] at h
   split at h
   ·exact ⟨_, _, ‹_›, h⟩
   ·exact h.elim
 ·cases hz : sz.beq 1 with
  | true => rw [hz] at h; exact ⟨_, _, by simp [zAk, hz], h⟩
  | false => rw [hz] at h; exact h.elim
 ·rename_i z _ n _ cs
  cases hz : z.beq sz with
  | true => rw [hz] at h; exact ⟨_, _, by simp [zAk, hz], h⟩
  | false => rw [hz] at h; exact h.elim
 ·split at h
  ·exact ⟨_, _, ‹_›, h⟩
  ·exact h.elim
def zPh (sT xT : TypeId) (s x : Value) (G : Gh) (n : Nat) (K : ORes → Prop) (D : Prop) : Prop :=
 match s with
 | .slice (some ⟨b, o, none⟩) l c =>
  bif c.beq U then
   (match P.underlying sT with
   | some (.slice e) => (match P.info? e with
    | some i => (match i.zero with
     | some z => bif notInt P xT && !(i.size.beq 0) && z.cells.size.beq i.size then
       sSrc sy i.size x G fun m news => brK (m.beq 0) (K (.val (.slice (some ⟨b, o, none⟩) l c) [] 0))
        (match G b with
        | some (.cells cc e') => (o.beq 0 && e'.beq e && (l * i.size).ble cc.length && oneL news && decide ((l + m) * i.bytes ≤ 140737488355328) && decide (l + m ≤ 9223372036854775807) && Nat.blt cc.length (o + l * i.size + news.length)) = true ∧ K (.val (.slice (some ⟨n, 0, none⟩) (l + m) U) [(b, none), (n, some (.cells (cc.take (l * i.size) ++ news) e))] 1)
        | _ => False)
      else False
     | none => False)
    | none => False)
   | _ => False)
  else D
 | _ => D
theorem zPi {sT xT : TypeId} {s x : Value} {G : Gh} {n : Nat} {K : ORes → Prop} {D : Prop} (h : zPh P sy sT xT s x G n K D) : D ∨ ∃ v us k, zEf P sT xT s x G n = .val v us k ∧ K (.val v us k) := by
 unfold zPh at h
 split at h
 ·rename_i b o l c
  cases hc : c.beq U with
  | false => rw [hc] at h; exact .inl h
  | true =>
   rw [hc] at h
   simp only [cond_true] at h
   split at h
   ·rename_i e hu
    split at h
    ·rename_i i hi
     split at h
     ·rename_i z hz
      cases hq : (notInt P xT && !(i.size.beq 0) && z.cells.size.beq i.size) with
      | false => rw [hq] at h; exact h.elim
      | true =>
       rw [hq] at h
       simp only [Bool.and_eq_true, Bool.not_eq_true'] at hq
       obtain ⟨m, news, h1, h2⟩ := zMm sy h
       right
       unfold zEf
       simp only [hu, hq.1.1, hi, hq.1.2, hz, hq.2, h1, cond_true, cond_false, hc, Bool.true_or]
       cases hm : m.beq 0 with
       | true => rw [hm] at h2; exact ⟨_, _, _, rfl, h2⟩
       | false =>
        rw [hm] at h2
        simp only [cond_false]
        cases hg : G b with
        | none => rw [hg] at h2; exact h2.elim
        | some ob =>
         cases ob with
         | cells cc e' =>
          rw [hg] at h2
          obtain ⟨h3, h4⟩ := h2
          rw [Bool.and_eq_true] at h3
          have hlt : cc.length + 1 ≤ o + l * i.size + news.length := Nat.le_of_ble_eq_true h3.2
          have hr : roomy G b (o + l * i.size) news e i.size = false := by
           unfold roomy
           rw [hg]
           have : (o + l * i.size + news.length).ble cc.length = false := by cases hq : (o + l * i.size + news.length).ble cc.length; rfl; exact absurd (Nat.le_of_ble_eq_true hq) (by omega)
           simp only [this, Bool.false_and]
          simp only [hr, Bool.and_false, cond_false, h3.1, cond_true]
          exact ⟨_, _, _, rfl, h4⟩
         | _ => rw [hg] at h2; exact h2.elim
     ·exact h.elim
    ·exact h.elim
   ·exact h.elim
 ·exact .inl h
def symS (x : Value) : Bool := match x with | .slice (some ⟨b, _, _⟩) _ _ => sy.elem b | .string _ => true | .func (.via _ _ _ false) _ _ => true | _ => false
def zMl (sT xT : TypeId) (s x : Value) (G : Gh) (n : Nat) (K : ORes → Prop) (D : Prop) : Prop :=
 match P.underlying sT with
 | some (.slice e) => (match P.info? e with
  | some i => (match i.zero with
   | some z => (match s with
    | .slice none l c => bif symS sy x && (notInt P xT && !(i.size.beq 0) && z.cells.size.beq i.size && (l.beq 0 && c.beq 0)) then
      sSrc sy i.size x G fun m news => brK (m.beq 0) (K (.val (.slice none l c) [] 0))
       ((decide (m * i.bytes ≤ 140737488355328) && decide (m ≤ 9223372036854775807)) = true ∧ K (zBo n news e (.slice (some ⟨n, 0, none⟩) m U)))
     else D
    | .slice (some ⟨b, o, none⟩) l c => bif symS sy x && (notInt P xT && !(i.size.beq 0) && z.cells.size.beq i.size && (l.beq 0 && c.beq 0)) then
      sSrc sy i.size x G fun m news => brK (m.beq 0) (K (.val (.slice (some ⟨b, o, none⟩) l c) [] 0))
       ((decide ((l + m) * i.bytes ≤ 140737488355328) && decide (l + m ≤ 9223372036854775807)) = true ∧ K (zBo n ([] ++ news) e (.slice (some ⟨n, 0, none⟩) (l + m) U)))
     else D
    | _ => D)
   | none => D)
  | none => D)
 | _ => D
theorem zNw {sT xT : TypeId} {s x : Value} {G : Gh} {n : Nat} {K : ORes → Prop} {D : Prop} (h : zMl P sy sT xT s x G n K D) : D ∨ ∃ v us k, zEf P sT xT s x G n = .val v us k ∧ K (.val v us k) := by
 unfold zMl at h
 split at h
 ·rename_i e hu
  split at h
  ·rename_i i hi
   split at h
   ·rename_i z hz
    split at h
    ·rename_i l c
     cases hq : (symS sy x && (notInt P xT && !(i.size.beq 0) && z.cells.size.beq i.size && (l.beq 0 && c.beq 0))) with
     | false => rw [hq] at h; exact .inl h
     | true =>
      rw [hq] at h
      simp only [cond_true] at h
      obtain ⟨⟨⟨hq1, hq2⟩, hq3⟩, hq4⟩ : ((notInt P xT = true ∧ (!(i.size.beq 0)) = true) ∧ z.cells.size.beq i.size = true) ∧ (l.beq 0 && c.beq 0) = true := by simp only [Bool.and_eq_true] at hq ⊢; exact hq.2
      obtain ⟨m, news, h1, h2⟩ := zMm sy h
      right
      unfold zEf
      rw [Bool.not_eq_true'] at hq2
      simp only [hu, hq1, hi, hq2, hz, hq3, h1, cond_true, cond_false, hq4]
      cases hm : m.beq 0 with
      | true => rw [hm] at h2; exact ⟨_, _, _, rfl, h2⟩
      | false =>
       rw [hm] at h2
       obtain ⟨h3, h4⟩ := h2
       simp only [h3, cond_true, cond_false]
       exact ⟨_, _, _, rfl, h4⟩
    ·rename_i b o l c
     cases hq : (symS sy x && (notInt P xT && !(i.size.beq 0) && z.cells.size.beq i.size && (l.beq 0 && c.beq 0))) with
     | false => rw [hq] at h; exact .inl h
     | true =>
      rw [hq] at h
      simp only [cond_true] at h
      obtain ⟨⟨⟨hq1, hq2⟩, hq3⟩, hq4⟩ : ((notInt P xT = true ∧ (!(i.size.beq 0)) = true) ∧ z.cells.size.beq i.size = true) ∧ (l.beq 0 && c.beq 0) = true := by simp only [Bool.and_eq_true] at hq ⊢; exact hq.2
      simp only [Bool.and_eq_true] at hq4
      have hl := Nat.eq_of_beq_eq_true hq4.1
      have hc := Nat.eq_of_beq_eq_true hq4.2
      subst hl; subst hc
      obtain ⟨m, news, h1, h2⟩ := zMm sy h
      right
      unfold zEf
      rw [Bool.not_eq_true'] at hq2
      have hU : Nat.beq 0 U = false := by decide
      have hle : Nat.ble 0 0 = true := rfl
      simp only [hu, hq1, hi, hq2, hz, hq3, h1, cond_true, cond_false, hU, hle, Bool.or_true, Bool.false_and]
      cases hm : m.beq 0 with
      | true => rw [hm] at h2; exact ⟨_, _, _, rfl, h2⟩
      | false =>
       rw [hm] at h2
       obtain ⟨h3, h4⟩ := h2
       have hb : (0 + m).ble 0 = false := by
        cases hb : (0 + m).ble 0 with
        | false => rfl
        | true =>
         have := Nat.le_of_ble_eq_true hb
         have : m = 0 := by omega
         subst this; simp at hm
       have hs : zAk G i.size (.slice (some ⟨b, o, none⟩) 0 0) = some (0, []) := rfl
       simp only [hb, cond_false, hs, Nat.beq_refl, Bool.true_and, h3, cond_true]
       exact ⟨_, _, _, rfl, h4⟩
    ·exact .inl h
   ·exact .inl h
  ·exact .inl h
 ·exact .inl h
def zPl (o : Oper) (ev : Operand → Value) (G : Gh) (K : ORes → Prop) (D : Prop) : Prop :=
 match o.op with
 | .slice t x lo hi mx => (match P.underlying t, ev x with
  | some (.slice e), .slice (some ⟨b, off, none⟩) n c => (match P.info? e, loI (lo.map ev) 0 with
   | some i, some l => (match mx with
    | none => (match loI (hi.map ev) n with
     | some h => brK (c.beq U) (match G b with
       | some (.cells _ e') => bif e'.beq e then (inLH l h n = true ∧ K (.val (.slice (some ⟨b, off + l.toNat * i.size, none⟩) (h.toNat - l.toNat) U) [] 0)) else False
       | some (.win _ z) => bif z.beq i.size then (inLH l h n = true ∧ K (.val (.slice (some ⟨b, off + l.toNat * i.size, none⟩) (h.toNat - l.toNat) U) [] 0)) else False
       | _ => False)
      ((inLH l h c && Nat.ble n c && Nat.blt (c - l.toNat) 1180591620717411303424) = true ∧ K (.val (sliceTo b off i.size l.toNat h.toNat c) [] 0))
     | none => False)
    | some mo => (match hi, loI (hi.map ev) 0, ev mo with
     | some _, some h, .int _ mv => brK (c.beq U) ((inLH l h mv.toNat && (decide (0 ≤ mv) && decide (mv ≤ n)) && Nat.blt (mv.toNat - l.toNat) 1180591620717411303424) = true ∧ K (.val (sliceTo b off i.size l.toNat h.toNat mv.toNat) [] 0))
       ((inLH l h mv.toNat && (decide (0 ≤ mv) && decide (mv ≤ c)) && Nat.blt (mv.toNat - l.toNat) 1180591620717411303424) = true ∧ K (.val (sliceTo b off i.size l.toNat h.toNat mv.toNat) [] 0))
     | _, _, _ => False))
   | _, _ => False)
  | some (.slice e), .func (.via z _ n false) _ ⟨cs⟩ => (match P.info? e, loI (lo.map ev) 0 with
   | some i, some l => bif z.beq i.size then (match mx with
    | none => (match loI (hi.map ev) n with
     | some h => inLH l h n = true ∧ ∃ m cs', (h.toNat - l.toNat = m ∧ (cs.drop (l.toNat * z)).take (m * z) = cs') ∧ K (.val (treeV z m cs') [] 0)
     | none => False)
    | some mo => (match hi, loI (hi.map ev) 0, ev mo with
     | some _, some h, .int _ mv => (inLH l h mv.toNat && (decide (0 ≤ mv) && decide (mv ≤ n))) = true ∧ ∃ m cs', (h.toNat - l.toNat = m ∧ (cs.drop (l.toNat * z)).take (m * z) = cs') ∧ K (.val (treeV z m cs') [] 0)
     | _, _, _ => False)) else False
   | _, _ => False)
  | _, _ => D)
 | _ => D
theorem zAp {v : Option Value} {d y : Nat} {r : Int} (h : loI v (d : Int) = some r) (h0 : 0 ≤ r) (hy : v ≠ none → r ≤ y) : sbound v y d = some r.toNat := by
 unfold loI at h
 cases v with
 | none => simp at h; subst h; simp [sbound]
 | some u =>
  cases u <;> simp only [] at h <;> first | (cases h; done) | skip
  cases h
  exact zAy.2 ⟨h0, hy (by simp), rfl⟩
theorem zPm {o : Oper} {ev : Operand → Value} {G : Gh} {K : ORes → Prop} {D : Prop} (h : zPl P o ev G K D) : D ∨ ∃ v t x lo hi mx, o.op = .slice t x lo hi mx ∧ aStr P o ev = .bad "string" ∧ zEh P t (ev x) (lo.map ev) (hi.map ev) (mx.map ev) G = .val v [] 0 ∧ K (.val v [] 0) := by
 unfold zPl at h
 split at h
 ·rename_i t x lo hi mx ho
  split at h
  ·rename_i e b off n c hu hx
   split at h
   ·rename_i i l hi' hl
    have hstr : aStr P o ev = .bad "string" := by
     unfold aStr
     rw [ho]
     cases mx with
     | none => simp only [hu]
     | some m => rfl
    split at h
    ·split at h
     ·rename_i hh hhi
      cases hc : c.beq U with
      | true =>
       rw [hc] at h
       split at h
       case h_2 cc z hg =>
        obtain ⟨he, h⟩ := zEu h
        obtain ⟨hb, hk⟩ := h
        simp only [inLH, Bool.and_eq_true, decide_eq_true_eq] at hb
        obtain ⟨⟨b1, b2⟩, b3⟩ := hb
        refine .inr ⟨_, t, x, lo, hi, none, ho, hstr, ?_, hk⟩
        unfold zEh
        have e1 : sbound (hi.map ev) n n = some hh.toNat := zAp hhi (by omega) (fun _ => b3)
        have e2 : sbound (lo.map ev) hh.toNat 0 = some l.toNat := zAp (d := 0) hl b1 (fun _ => by omega)
        simp only [Option.map_none, Option.isSome_none, Bool.false_and, cond_false, hu, hx, hi', hc, cond_true, e1, e2, hg, he]
       ·rename_i cc e' hg
        obtain ⟨he, h⟩ := zEu h
        obtain ⟨hb, hk⟩ := h
        simp only [inLH, Bool.and_eq_true, decide_eq_true_eq] at hb
        obtain ⟨⟨b1, b2⟩, b3⟩ := hb
        refine .inr ⟨_, t, x, lo, hi, none, ho, hstr, ?_, hk⟩
        unfold zEh
        have e1 : sbound (hi.map ev) n n = some hh.toNat := zAp hhi (by omega) (fun _ => b3)
        have e2 : sbound (lo.map ev) hh.toNat 0 = some l.toNat := zAp (d := 0) hl b1 (fun _ => by omega)
        simp only [Option.map_none, Option.isSome_none, Bool.false_and, cond_false, hu, hx, hi', hc, cond_true, e1, e2, hg, he]
       ·exact h.elim
      | false =>
       rw [hc] at h
       obtain ⟨hb, hk⟩ := h
       simp only [inLH, Bool.and_eq_true, decide_eq_true_eq] at hb
       obtain ⟨⟨⟨⟨b1, b2⟩, b3⟩, b5⟩, b4⟩ := hb
       have b5 := Nat.le_of_ble_eq_true b5
       refine .inr ⟨_, t, x, lo, hi, none, ho, hstr, ?_, hk⟩
       unfold zEh
       have e0 : sbound (none : Option Value) c c = some c := rfl
       have e1 : sbound (hi.map ev) c n = some hh.toNat := zAp hhi (by omega) (fun _ => b3)
       have e2 : sbound (lo.map ev) hh.toNat 0 = some l.toNat := zAp (d := 0) hl b1 (fun _ => by omega)
       simp only [Option.map_none, Option.isSome_none, Bool.false_and, cond_false, hu, hx, hi', hc, e0, e1, e2, b4, cond_true]
     ·exact h.elim
    ·rename_i mo
     split at h
     ·rename_i ho2 hh k mv hmv hhi
      have e3 : (some mo : Option Operand).map ev = some (.int k mv) := by simp [hmv]
      cases hc : c.beq U with
      | true =>
       rw [hc] at h
       obtain ⟨hb, hk⟩ := h
       simp only [inLH, Bool.and_eq_true, decide_eq_true_eq] at hb
       obtain ⟨⟨⟨⟨b1, b2⟩, b3⟩, b5, b6⟩, b4⟩ := hb
       refine .inr ⟨_, t, x, lo, some ho2, some mo, ho, hstr, ?_, hk⟩
       unfold zEh
       have e0 : sbound (some (.int k mv)) n n = some mv.toNat := zAy.2 ⟨b5, b6, rfl⟩
       have e1 : sbound ((some ho2 : Option Operand).map ev) mv.toNat n = some hh.toNat := by
        have := zAp (d := 0) (y := mv.toNat) hhi (by omega) (fun _ => by omega)
        cases hq : ev ho2 <;> rw [Option.map_some, hq] at this <;> simp only [sbound] at this <;> first | (cases this; done) | skip
        rw [Option.map_some, hq]; exact this
       have e2 : sbound (lo.map ev) hh.toNat 0 = some l.toNat := zAp (d := 0) hl b1 (fun _ => by omega)
       rw [e3]
       simp only [Option.map_some, Option.isSome_some, Bool.not_true, Bool.and_false, cond_false, hu, hx, hi', hc, cond_true, e0]
       rw [Option.map_some] at e1
       simp only [e1, e2, b4, cond_true]
      | false =>
       rw [hc] at h
       obtain ⟨hb, hk⟩ := h
       simp only [inLH, Bool.and_eq_true, decide_eq_true_eq] at hb
       obtain ⟨⟨⟨⟨b1, b2⟩, b3⟩, b5, b6⟩, b4⟩ := hb
       refine .inr ⟨_, t, x, lo, some ho2, some mo, ho, hstr, ?_, hk⟩
       unfold zEh
       have e0 : sbound (some (.int k mv)) c c = some mv.toNat := zAy.2 ⟨b5, b6, rfl⟩
       have e1 : sbound ((some ho2 : Option Operand).map ev) mv.toNat n = some hh.toNat := by
        have := zAp (d := 0) (y := mv.toNat) hhi (by omega) (fun _ => by omega)
        cases hq : ev ho2 <;> rw [Option.map_some, hq] at this <;> simp only [sbound] at this <;> first | (cases this; done) | skip
        rw [Option.map_some, hq]; exact this
       have e2 : sbound (lo.map ev) hh.toNat 0 = some l.toNat := zAp (d := 0) hl b1 (fun _ => by omega)
       rw [e3]
       simp only [Option.map_some, Option.isSome_some, Bool.not_true, Bool.and_false, cond_false, hu, hx, hi', hc, e0]
       rw [Option.map_some] at e1
       simp only [e1, e2, b4, cond_true]
     ·exact h.elim
   ·exact h.elim
  ·rename_i e z p n f cs hu hx
   split at h
   ·rename_i i l hi' hl
    have hstr : aStr P o ev = .bad "string" := by
     unfold aStr
     rw [ho]
     cases mx with
     | none => simp only [hu]
     | some m => rfl
    replace h := zEu h
    have hz := h.1
    replace h := h.2
    split at h
    ·split at h
     ·rename_i hh hhi
      obtain ⟨hb, m, cs', ⟨rfl, rfl⟩, hk⟩ := h
      simp only [inLH, Bool.and_eq_true, decide_eq_true_eq] at hb
      obtain ⟨⟨b1, b2⟩, b3⟩ := hb
      refine .inr ⟨_, t, x, lo, hi, none, ho, hstr, ?_, hk⟩
      unfold zEh
      have e0 : sbound (none : Option Value) n n = some n := rfl
      have e1 : sbound (hi.map ev) n n = some hh.toNat := zAp hhi (by omega) (fun _ => b3)
      have e2 : sbound (lo.map ev) hh.toNat 0 = some l.toNat := zAp (d := 0) hl b1 (fun _ => by omega)
      simp only [Option.map_none, Option.isSome_none, Bool.false_and, cond_false, hu, hx, hi', hz, cond_true, e0, e1, e2]
     ·exact h.elim
    ·rename_i mo
     split at h
     ·rename_i ho2 hh k mv hmv hhi
      have e3 : (some mo : Option Operand).map ev = some (.int k mv) := by simp [hmv]
      obtain ⟨hb, m, cs', ⟨rfl, rfl⟩, hk⟩ := h
      simp only [inLH, Bool.and_eq_true, decide_eq_true_eq] at hb
      obtain ⟨⟨⟨b1, b2⟩, b3⟩, b5, b6⟩ := hb
      refine .inr ⟨_, t, x, lo, some ho2, some mo, ho, hstr, ?_, hk⟩
      unfold zEh
      have e0 : sbound (some (.int k mv)) n n = some mv.toNat := zAy.2 ⟨b5, b6, rfl⟩
      have e1 : sbound ((some ho2 : Option Operand).map ev) mv.toNat n = some hh.toNat := by
       have := zAp (d := 0) (y := mv.toNat) hhi (by omega) (fun _ => by omega)
       cases hq : ev ho2 <;> rw [Option.map_some, hq] at this <;> simp only [sbound] at this <;> first | (cases this; done) | skip
       rw [Option.map_some, hq]; exact this
      have e2 : sbound (lo.map ev) hh.toNat 0 = some l.toNat := zAp (d := 0) hl b1 (fun _ => by omega)
      rw [e3]
      simp only [Option.map_some, Option.isSome_some, Bool.not_true, Bool.and_false, cond_false, hu, hx, hi', hz, cond_true, e0]
      rw [Option.map_some] at e1
      simp only [e1, e2]
     ·exact h.elim
   ·exact h.elim
  ·exact .inl h
 ·exact .inl h
theorem zIr : ∀ bs : List UInt8, bytesOf (bs.map fun b => .int .u8 (b.toNat : Int)) = some bs
 | [] => rfl
 | b :: bs => by
  have hb := UInt8.toNat_lt b
  have h1 : byteOf (.int .u8 (b.toNat : Int)) = some b := by
   unfold byteOf
   simp only []
   rw [decide_eq_true (show (0 : Int) ≤ b.toNat by omega), decide_eq_true (show (b.toNat : Int) < 256 by omega)]
   simp
  simp only [List.map_cons, bytesOf, h1, zIr bs]
def sConv (o : Oper) (ev : Operand → Value) (G : Gh) (n : Nat) (K : ORes → Prop) (D : Prop) : Prop :=
 match o.op with
 | .convert src dst x => (match P.underlying src, P.underlying dst, ev x with
  | some .string, some (.slice e), .string s => (match P.underlying e, P.info? e with
   | some (.int .u8), some i => bif i.size.beq 1 then brK (decide (s.data.toList.length ≤ 9223372036854775807)) (K (zBo n (s.data.toList.map fun b => .int .u8 b.toNat) e (.slice (some ⟨n, 0, none⟩) s.data.toList.length U))) False else D
   | _, _ => D)
  | some (.slice e), some .string, .slice (some ⟨b, o, none⟩) l c => (match P.underlying e with
   | some (.int .u8) => bif sy.elem b then ∃ bs : List UInt8, zAk G 1 (.slice (some ⟨b, o, none⟩) l c) = some (l, bs.map fun b => .int .u8 b.toNat) ∧ K (.val (.string ⟨bs.toArray⟩) [] 0) else D
   | _ => D)
  | _, _, _ => D)
 | _ => D
theorem sConv_imp {o : Oper} {ev : Operand → Value} {G : Gh} {n : Nat} {K : ORes → Prop} {D : Prop} (h : sConv P sy o ev G n K D) : D ∨ ∃ src dst x v us k, o.op = .convert src dst x ∧ zEs P src dst (ev x) G n = .val v us k ∧ K (.val v us k) := by
 unfold sConv at h
 split at h
 ·rename_i src dst x ho
  split at h
  ·rename_i e s hs hd hx
   split at h
   ·rename_i i he hi
    cases hz : i.size.beq 1 with
    | false => rw [hz] at h; exact .inl h
    | true =>
     rw [hz] at h
     cases hl : decide (s.data.toList.length ≤ 9223372036854775807) with
     | false => rw [hl] at h; exact h.elim
     | true =>
      rw [hl] at h
      refine .inr ⟨src, dst, x, _, _, _, ho, ?_, h⟩
      unfold zEs zIc
      simp only [hx, hs, hd, he, hi, hz, hl, Bool.and_self, cond_true]; rfl
   ·exact .inl h
  ·rename_i e b o' l c hs hd hx
   split at h
   ·rename_i he
    cases hb : sy.elem b with
    | false => rw [hb] at h; exact .inl h
    | true =>
     rw [hb] at h
     obtain ⟨bs, h1, h2⟩ := h
     refine .inr ⟨src, dst, x, _, _, _, ho, ?_, h2⟩
     unfold zEs zQb
     simp only [hx, hs, hd, he, h1, zIr]
   ·exact .inl h
  ·exact .inl h
 ·exact .inl h
def wrL : List Value → Nat → List Value → List Value
 | c, 0, [] => c
 | [], 0, _ :: _ => []
 | _ :: c, 0, v :: vs => v :: wrL c 0 vs
 | x :: c, o + 1, vs => x :: wrL c o vs
 | [], _ + 1, _ => []
theorem wrL_nil : ∀ (c : List Value) (o : Nat), wrL c o [] = c
 | [], 0 => rfl
 | _ :: _, 0 => rfl
 | [], _ + 1 => rfl
 | x :: c, o + 1 => by rw [wrL, wrL_nil c o]
theorem wrL_set : ∀ (c : List Value) (o : Nat) (v : Value) (vs : List Value), wrL c o (v :: vs) = wrL (c.set o v) (o + 1) vs
 | [], 0, _, _ => rfl
 | _ :: _, 0, _, _ => rfl
 | [], _ + 1, _, _ => rfl
 | x :: c, o + 1, v, vs => by
  show x :: wrL c o (v :: vs) = x :: wrL (c.set o v) (o + 1) vs
  rw [wrL_set c o v vs]
theorem wrL_eq (off : Nat) : ∀ (vs : List Value) (k : Nat) (arr : Array Value), ((vs.zipIdx k).foldl (fun cs (x : Value × Nat) => cs.setIfInBounds (off + x.2) x.1) arr).toList = wrL arr.toList (off + k) vs
 | [], k, arr => (wrL_nil _ _).symm
 | v :: vs, k, arr => by
  simp only [List.zipIdx_cons, List.foldl_cons]
  rw [wrL_eq off vs (k + 1), Array.toList_setIfInBounds, wrL_set]; rfl
def cellsL (v : Value) : List Value := match v with | .agg a => a.toList | v => [v]
theorem zFz (v : Value) : cellsL v = v.cells.toList := by cases v <;> rfl
def fillL (place : Nat → Option (Nat × Nat)) : List Value → List (Nat × Value) → Option (List Value)
 | c, [] => some c
 | c, (i, v) :: rest =>
  match place i with
  | none => none
  | some (off, size) => bif (cellsL v).length.beq size && (off + (cellsL v).length).ble c.length then fillL place (wrL c off (cellsL v)) rest else none
theorem zMa (place : Nat → Option (Nat × Nat)) : ∀ (ps : List (Nat × Value)) (c : Array Value) (l : List Value), fillL place c.toList ps = some l → Instr.fill place c ps = some l.toArray
 | [], c, l, h => by simp only [fillL, Option.some.injEq] at h; subst h; simp [Instr.fill]
 | (i, v) :: rest, c, l, h => by
  unfold fillL at h
  unfold Instr.fill
  cases hp : place i with
  | none => rw [hp] at h; cases h
  | some os =>
   obtain ⟨off, size⟩ := os
   rw [hp] at h
   simp only [] at h ⊢
   cases hb : ((cellsL v).length.beq size && (off + (cellsL v).length).ble c.toList.length) with
   | false => rw [hb] at h; cases h
   | true =>
    rw [hb] at h
    simp only [Bool.and_eq_true] at hb
    have h1 := Nat.eq_of_beq_eq_true hb.1
    have h2 := Nat.le_of_ble_eq_true hb.2
    rw [zFz] at h1 h2
    simp only [Array.length_toList] at h1 h2
    rw [if_neg (by simp [h1]; omega)]
    refine zMa place rest _ l ?_
    rw [← h, zFz]
    simp only [cond_true]
    congr 1
    rw [← Array.foldl_toList, Array.toList_zipIdx, wrL_eq]; rfl
def sBuild (t : TypeId) (ps : List (Nat × Value)) (K : ORes → Prop) : Prop :=
 bif zDg P t then
  (match P.info? t, P.underlying t with
  | some it, some (.struct fields) => (match it.zero, fields.toList.mapM (fun f => (P.info? f.type).map fun i => (f.offset, i.size)) with
   | some z, some places => (match fillL (fun i => places[i]?) (cellsL z) ps with | some l => K (.val (.agg l.toArray) [] 0) | none => False)
   | _, _ => False)
  | _, _ => K (zKh P t ps))
 else False
theorem zSn {t : TypeId} {ps : List (Nat × Value)} {K : ORes → Prop} (h : sBuild P t ps K) : K (zKh P t ps) := by
 unfold sBuild at h
 cases hz : zDg P t with
 | false => rw [hz] at h; exact h.elim
 | true =>
  rw [hz] at h
  simp only [cond_true] at h
  split at h
  ·rename_i it fields hi hu
   split at h
   ·rename_i z places h1 h2
    split at h
    ·rename_i l hl
     unfold zKh Program.built
     simp only [hz, cond_true, hi, hu, h1, h2]
     have : Instr.fill (fun i => places.toArray[i]?) z.cells ps = some l.toArray := by
      refine zMa _ ps z.cells l ?_
      rw [← zFz, ← hl]
      congr 1
      funext i; simp
     rw [this]; exact h
    ·exact h.elim
   ·exact h.elim
  ·exact h
def zerosL (c : List Value) (d : Nat) : Nat → Nat → List Value
 | 0, _ => []
 | n + 1, i => c.getD (i % d) default :: zerosL c d n (i + 1)
theorem zOc (c : List Value) (d : Nat) : ∀ (n i : Nat), zerosL c d n i = (List.range' i n).map fun j => c.getD (j % d) default
 | 0, i => rfl
 | n + 1, i => by simp only [zerosL, List.range'_succ, List.map_cons]; rw [zOc c d n (i + 1)]
theorem zNs (z : Value) (n : Nat) : (zHh z n).toList = zerosL (cellsL z) (cellsL z).length n 0 := by
 rw [zOc, zFz, ← List.range_eq_range']
 simp [zHh, List.getD_eq_getElem?_getD, Array.getElem!_eq_getD]
def zFp (t : TypeId) (len : Nat) (ps : List (Nat × Value)) (n : Nat) (K : ORes → Prop) : Prop :=
 match P.underlying t with
 | some (.slice e) => (match P.info? e with
  | some i => (match i.zero with
   | some z => bif (Nat.ble (len * i.size) 16777216) && (Nat.blt len 1180591620717411303424) then
     (bif plainL (zerosL (cellsL z) (cellsL z).length (len * i.size) 0) then
      (match fillL (fun k => some (k * i.size, i.size)) (zerosL (cellsL z) (cellsL z).length (len * i.size) 0) ps with
      | some l => K (zBo n l e (.slice (some ⟨n, 0, none⟩) len len))
      | none => False) else False)
    else False
   | none => False)
  | none => False)
 | _ => False
theorem zJq {t : TypeId} {len : Nat} {ps : List (Nat × Value)} {n : Nat} {K : ORes → Prop} (h : zFp P t len ps n K) : K (zCi P t len ps n) := by
 unfold zFp at h
 split at h
 ·rename_i e hu
  split at h
  ·rename_i i hi
   split at h
   ·rename_i z hz
    cases hb : ((Nat.ble (len * i.size) 16777216) && (Nat.blt len 1180591620717411303424)) with
    | false => rw [hb] at h; exact h.elim
    | true =>
     rw [hb] at h
     simp only [cond_true] at h
     cases hp : plainL (zerosL (cellsL z) (cellsL z).length (len * i.size) 0) with
     | false => rw [hp] at h; exact h.elim
     | true =>
      rw [hp] at h
      simp only [cond_true] at h
      split at h
      ·rename_i l hl
       rw [← zNs] at hp hl
       unfold zCi
       simp only [hu, hi, hz, hb, cond_true, hp, zMa _ ps _ l hl]
       exact h
      ·exact h.elim
   ·exact h.elim
  ·exact h.elim
 ·exact h.elim
end
end Go.Proofs.Ytpdeidlkeplegaa
namespace Go.Proofs.Ytpdeidlkeplegaa
open Go.RowKit
def frcV0 (v : Value) (K : Value → Prop) : Prop :=
 match v with
 | .bool b => K (.bool b)
 | .int k n => K (.int k n)
 | .float k b => K (.float k b)
 | .complex k a b => K (.complex k a b)
 | .string s => K (.string s)
 | .pointer a => K (.pointer a)
 | .slice a n c => K (.slice a n c)
 | .map r => K (.map r)
 | .chan r => K (.chan r)
 | .func f a c => K (.func f a c)
 | .nilFunc => K .nilFunc
 | .iface t v => K (.iface t v)
 | .nilIface => K .nilIface
 | .agg a => K (.agg a)
 | .tuple a => K (.tuple a)
theorem zQl (v : Value) (K : Value → Prop) : frcV0 v K = K v := by cases v <;> rfl
def frcL0 (l : List Value) (K : List Value → Prop) : Prop :=
 match l with
 | [] => K []
 | v :: l => frcV0 v fun v => frcL0 l fun l => K (v :: l)
theorem zQk : ∀ (l : List Value) (K : List Value → Prop), frcL0 l K = K l
 | [], K => rfl
 | v :: l, K => by simp only [frcL0, zQl]; exact zQk l _
def frcV (v : Value) (K : Value → Prop) : Prop :=
 frcV0 v fun v => match v with
 | .agg a => frcL0 a.toList fun l => K (.agg l.toArray)
 | .tuple a => frcL0 a.toList fun l => K (.tuple l.toArray)
 | v => K v
theorem zOv (v : Value) (K : Value → Prop) : frcV v K = K v := by
 unfold frcV
 rw [zQl]
 cases v <;> simp only [zQk]
def frcL (l : List Value) (K : List Value → Prop) : Prop :=
 match l with
 | [] => K []
 | v :: l => frcV v fun v => frcL l fun l => K (v :: l)
theorem zOu : ∀ (l : List Value) (K : List Value → Prop), frcL l K = K l
 | [], K => rfl
 | v :: l, K => by simp only [frcL, zOv]; exact zOu l _
def frcB (r : ORes) (K : ORes → Prop) : Prop :=
 match r with
 | .val v [(k, some (.cells c e))] j => frcL c fun c => K (.val v [(k, some (.cells c e))] j)
 | r => K r
theorem zMc (r : ORes) (K : ORes → Prop) : frcB r K = K r := by
 unfold frcB
 split
 ·rw [zOu]
 ·rfl
section
variable (P : Program) (sy : List Nat)
def sGen (o : Oper) (ev : Operand → Value) (G : Gh) (n : Nat) (K : ORes → Prop) : Prop := ∃ v us k, aop P o ev G n = .val v us k ∧ K (.val v us k)
theorem zCt {o : Oper} {ev : Operand → Value} {G : Gh} {n : Nat} {K : ORes → Prop} (h : sGen P o ev G n K) : K (aop P o ev G n) := by
 obtain ⟨v, us, k, h1, h2⟩ := h; rw [h1]; exact h2
def sop (o : Oper) (ev : Operand → Value) (G : Gh) (n : Nat) (K : ORes → Prop) : Prop :=
 sStr P o ev K (sBin o ev K (sEqA P o ev K (match o.op with
  | .load t a => sLoad P sy t (ev a) G K
  | .indexAddr t x y => zHk P t (ev x) (ev y) K
  | .lookup t x y ok => bif sy.elem 900005 then sGen P o ev G n K else zPj P t (ev x) (ev y) ok G K (K (aop P o ev G n))
  | .build t ps => sBuild P t (pvals ev ps) K
  | .buildSlice t l ps => zFp P t l (pvals ev ps) n fun r => frcB r K
  | .box _ _ | .alloc _ => frcB (aop P o ev G n) K
  | .makeSlice _ _ _ => bif sy.elem 900001 then sGen P o ev G n K else K (aop P o ev G n)
  | .mapUpdate _ _ _ _ => bif sy.elem 900006 then sGen P o ev G n K else K (aop P o ev G n)
  | .call ⟨.builtin .cap, ⟨[a]⟩, ⟨[t]⟩⟩ => (match P.underlying t, ev a with
   | some (.slice _), .slice (some ⟨_, _, none⟩) _ c => c.beq U = false ∧ K (.val (.int .i64 c) [] 0)
   | _, _ => K (aop P o ev G n))
  | .call ⟨.builtin .copy, _, _⟩ => bif sy.elem 900004 then sGen P o ev G n K else K (aop P o ev G n)
  | .call ⟨.builtin .delete, _, _⟩ => bif sy.elem 900007 then sGen P o ev G n K else K (aop P o ev G n)
  | .call ⟨.builtin .clear, _, _⟩ => bif sy.elem 900008 then sGen P o ev G n K else K (aop P o ev G n)
  | .call ⟨.builtin .append, ⟨[a, b]⟩, ⟨[sT, xT]⟩⟩ => bif sy.elem 900002 then sGen P o ev G n K else zPh P sy sT xT (ev a) (ev b) G n K (zMl P sy sT xT (ev a) (ev b) G n K (K (aop P o ev G n)))
  | .slice _ _ _ _ _ => zPl P o ev G K (K (aop P o ev G n))
  | .convert _ _ _ => sConv P sy o ev G n K (K (aop P o ev G n))
  | .store _ a _ => (match ev a with
   | .pointer (some ⟨b, _, _⟩) => bif sy.elem b then (bif sy.elem 900003 then sGen P o ev G n K else K (aop P o ev G n)) else frcB (aop P o ev G n) K
   | _ => K (aop P o ev G n))
  | _ => K (aop P o ev G n))))
theorem sop_imp {o : Oper} {ev : Operand → Value} {G : Gh} {n : Nat} {K : ORes → Prop} (h : sop P sy o ev G n K) : K (aop P o ev G n) := by
 unfold sop at h
 rcases sStr_imp P h with h | ⟨v, h1, h2⟩
 ·rcases sBin_imp P h with h | ⟨v, op, t, x, y, u, h1, h2, ho, hs, hb⟩
  rcases sEqA_imp P h with h | ⟨v, op, t, x, y, u, h1, h2, ho, hs, hb⟩
  ·split at h
   ·rename_i t a ho
    have := sLoad_imp P sy h
    unfold aop aop0 aStr
    simp only [ho, ORes.or]; exact this
   ·rename_i t x y ho
    have := zKf P h
    unfold aop aop0 aStr
    simp only [ho, ORes.or]; exact this
   ·rename_i t x y ok ho
    cases hb : sy.elem 900005 with
    | true => rw [hb] at h; exact zCt P h
    | false =>
    rw [hb] at h
    rcases zPk P h with h | ⟨v, h1, h2⟩
    ·exact h
    ·unfold aop aop0 aStr
     simp only [ho, ORes.or, h1]; exact h2
   ·rename_i t ps ho
    have := zSn P h
    unfold aop aop0 aStr
    simp only [ho, ORes.or]; exact this
   ·rename_i t l ps ho
    have := zJq P h
    rw [zMc] at this
    unfold aop aop0 aStr
    simp only [ho, ORes.or]; exact this
   ·rw [zMc] at h; exact h
   ·rw [zMc] at h; exact h
   ·cases hb : sy.elem 900001 with
    | true => rw [hb] at h; exact zCt P h
    | false => rw [hb] at h; exact h
   ·cases hb : sy.elem 900006 with
    | true => rw [hb] at h; exact zCt P h
    | false => rw [hb] at h; exact h
   ·rename_i a t ho
    split at h
    ·rename_i e b o' n' c hu hx
     obtain ⟨h1, h2⟩ := h
     unfold aop aop0 aStr
     simp only [ho, zCo, List.map_cons, List.map_nil, aCap, hu, hx, h1, cond_false, ORes.or]; exact h2
    ·exact h
   ·cases hb : sy.elem 900004 with
    | true => rw [hb] at h; exact zCt P h
    | false => rw [hb] at h; exact h
   ·cases hb : sy.elem 900007 with
    | true => rw [hb] at h; exact zCt P h
    | false => rw [hb] at h; exact h
   ·cases hb : sy.elem 900008 with
    | true => rw [hb] at h; exact zCt P h
    | false => rw [hb] at h; exact h
   ·rename_i a b sT xT ho
    cases hb : sy.elem 900002 with
    | true => rw [hb] at h; exact zCt P h
    | false =>
    rw [hb] at h
    simp only [cond_false] at h
    rcases zPi P sy h with h | ⟨v, us, k, h1, h2⟩
    ·rcases zNw P sy h with h | ⟨v, us, k, h1, h2⟩
     ·exact h
     ·unfold aop aop0 aStr
      simp only [ho, zCo, List.map_cons, List.map_nil, h1, ORes.or]; exact h2
    ·unfold aop aop0 aStr
     simp only [ho, zCo, List.map_cons, List.map_nil, h1, ORes.or]; exact h2
   ·rcases zPm P h with h | ⟨v, t, x, lo, hi, mx, ho, hs, h1, h2⟩
    ·exact h
    ·unfold aop
     rw [hs]
     unfold aop0
     simp only [ho, ORes.or, h1]; exact h2
   ·rcases sConv_imp P sy h with h | ⟨src, dst, x, v, us, k, ho, h1, h2⟩
    ·exact h
    ·unfold aop aop0 aStr
     simp only [ho, ORes.or, h1]; exact h2
   ·split at h
    ·rename_i b _ _ _
     cases hb : sy.elem b with
     | true =>
      rw [hb] at h
      simp only [cond_true] at h
      cases hs : sy.elem 900003 with
      | true => rw [hs] at h; exact zCt P h
      | false => rw [hs] at h; exact h
     | false => rw [hb] at h; simp only [cond_false, zMc] at h; exact h
    ·exact h
   ·exact h
  ·obtain ⟨m, hb⟩ := hb G
   unfold aop
   rw [hs]
   unfold aop0
   simp only [ho]
   rw [hb]
   simp only [ORes.or, h1]
   exact h2
  ·unfold aop
   rw [hs]
   unfold aop0
   simp only [ho]
   rw [hb G]
   simp only [ORes.or, h1]
   exact h2
 ·unfold aop; rw [h1]; exact h2
end
def frcN (n : Nat) (K : Nat → Prop) : Prop :=
 match n with
 | 0 => K 0
 | m + 1 => K (m + 1)
theorem zAs (n : Nat) (K : Nat → Prop) : frcN n K = K n := by cases n <;> rfl
def frcLN (l : List Nat) (K : List Nat → Prop) : Prop :=
 match l with
 | [] => K []
 | v :: l => frcN v fun v => frcLN l fun l => K (v :: l)
theorem zCp : ∀ (l : List Nat) (K : List Nat → Prop), frcLN l K = K l
 | [], K => rfl
 | v :: l, K => by simp only [frcLN, zAs]; exact zCp l _
def setK {α : Type} (x : Option α) : Nat → Tr α → Nat → (Tr α → Prop) → Prop
 | 0, t, _, K => K t
 | f + 1, t, k, K =>
  match t with
  | .e => bif k.beq 0 then K (.n .e x .e) else bif (k % 2).beq 1 then setK x f .e (k / 2) (fun l => K (.n l none .e)) else setK x f .e (k / 2 - 1) (fun r => K (.n .e none r))
  | .n l v r => bif k.beq 0 then K (.n l x r) else bif (k % 2).beq 1 then setK x f l (k / 2) (fun l => K (.n l v r)) else setK x f r (k / 2 - 1) (fun r => K (.n l v r))
theorem zJt {α : Type} (x : Option α) : ∀ (f : Nat) (t : Tr α) (k : Nat) (K : Tr α → Prop), setK x f t k K = K (Tr.setF x f t k)
 | 0, t, k, K => rfl
 | f + 1, t, k, K => by
  cases t with
  | e =>
   simp only [setK, Tr.setF, Tr.left, Tr.right, Tr.top]
   cases k.beq 0 <;> cases (k % 2).beq 1 <;> simp only [cond_true, cond_false] <;> first | rfl | exact zJt x f _ _ _
  | n l v r =>
   simp only [setK, Tr.setF, Tr.left, Tr.right, Tr.top]
   cases k.beq 0 <;> cases (k % 2).beq 1 <;> simp only [cond_true, cond_false] <;> first | rfl | exact zJt x f _ _ _
theorem zJs {α : Type} (v : α) : ∀ (f : Nat) (t : Tr α) (k : Nat), k + 1 < 2 ^ f → t.get k = some v → Tr.setF (some v) f t k = t
 | 0, t, k, h, _ => by simp at h
 | f + 1, t, k, h, hg => by
  have hp : 2 ^ (f + 1) = 2 * 2 ^ f := by rw [Nat.pow_succ]; omega
  cases t with
  | e => simp [Tr.get_e] at hg
  | n l x r =>
   rw [Tr.get_n] at hg
   simp only [Tr.setF, Tr.left, Tr.right, Tr.top]
   by_cases h0 : k = 0
   ·subst h0; simp at hg; simp [hg]
   ·have hb : k.beq 0 = false := by cases hb : k.beq 0; rfl; exact absurd (Nat.eq_of_beq_eq_true hb) h0
    rw [hb]
    by_cases h2 : k % 2 = 1
    ·have h3 : (k % 2).beq 1 = true := by rw [h2]; rfl
     rw [h3]
     simp only [h0, h2, if_true, if_false] at hg
     simp only [cond_true, cond_false]
     rw [zJs v f l (k / 2) (by omega) hg]
    ·have h3 : (k % 2).beq 1 = false := by cases hb : (k % 2).beq 1; rfl; exact absurd (Nat.eq_of_beq_eq_true hb) h2
     rw [h3]
     simp only [h0, h2, if_false] at hg
     simp only [cond_false]
     rw [zJs v f r (k / 2 - 1) (by omega) hg]
theorem zRh {α : Type} {t : Tr α} {k : Nat} {v : α} (h : t.get k = some v) : Tr.setF (some v) (k.log2 + 2) t k = t := by
 refine zJs v _ t k ?_ h
 have h1 : k < 2 ^ (k.log2 + 1) := Nat.lt_log2_self
 have hp : 2 ^ (k.log2 + 2) = 2 * 2 ^ (k.log2 + 1) := by rw [Nat.pow_succ 2 (k.log2 + 1)]; omega
 omega
def askB (T : Tr Value) (t : Tmp) (A B : Tr Value → Prop) (D : Prop) : Prop :=
 match T.get t with
 | some (.bool b) => brK b (setK (some (.bool true)) (t.log2 + 2) T t A) (setK (some (.bool false)) (t.log2 + 2) T t B)
 | _ => D
theorem zLm {T : Tr Value} {t : Tmp} {A B : Tr Value → Prop} {D : Prop} (h : askB T t A B D) : (T.get t = some (.bool true) ∧ A T) ∨ (T.get t = some (.bool false) ∧ B T) ∨ ((∀ b, T.get t ≠ some (.bool b)) ∧ D) := by
 unfold askB at h
 split at h
 ·rename_i b hb
  simp only [zJt] at h
  cases b with
  | true => rw [zRh hb] at h; exact .inl ⟨hb, h⟩
  | false => rw [zRh hb] at h; exact .inr (.inl ⟨hb, h⟩)
 ·rename_i hb
  exact .inr (.inr ⟨fun b e => hb b e, h⟩)
def zMo (ops : Array Oper) (T : Tr Value) (o : Oper) (A B : Tr Value → Prop) : Prop :=
 match o.guard with
 | none => A T
 | some (j, want) => match (ops[j]?).bind (·.dst) with
  | some t => askB T t (fun T => bif want then A T else B T) (fun T => bif want then B T else A T) (B T)
  | none => B T
theorem zJx {ops : Array Oper} {T : Tr Value} {o : Oper} {A B : Tr Value → Prop} (h : zMo ops T o A B) : (guardOk ops T o = true ∧ A T) ∨ (guardOk ops T o = false ∧ B T) := by
 unfold zMo at h
 unfold guardOk
 cases hg : o.guard with
 | none => rw [hg] at h; exact .inl ⟨rfl, h⟩
 | some jw =>
  obtain ⟨j, want⟩ := jw
  rw [hg] at h
  simp only [] at h ⊢
  cases hd : (ops[j]?).bind (·.dst) with
  | none => rw [hd] at h; exact .inr ⟨rfl, h⟩
  | some t =>
   rw [hd] at h
   simp only [] at h ⊢
   rcases zLm h with ⟨h1, h2⟩ | ⟨h1, h2⟩ | ⟨h1, h2⟩
   ·rw [h1]; cases want
    ·exact .inr ⟨rfl, h2⟩
    ·exact .inl ⟨rfl, h2⟩
   ·rw [h1]; cases want
    ·exact .inl ⟨rfl, h2⟩
    ·exact .inr ⟨rfl, h2⟩
   ·refine .inr ⟨?_, h2⟩
    split
    ·rename_i b e; exact absurd e (h1 b)
    ·rfl
def sxPut (nt : Nat) (T : Tr Value) (dst : Option Tmp) (v : Value) (K : Tr Value → Prop) : Prop :=
 match dst with
 | none => K T
 | some d => bif Nat.blt d nt then frcV v fun v => setK (some v) (d.log2 + 2) T d K else False
theorem zDe {nt : Nat} {T : Tr Value} {dst : Option Tmp} {v : Value} {K : Tr Value → Prop} (h : sxPut nt T dst v K) : ∃ T', putT nt T dst v = some T' ∧ K T' := by
 unfold sxPut at h
 cases dst with
 | none => exact ⟨T, rfl, h⟩
 | some d =>
  simp only [] at h
  cases hb : Nat.blt d nt with
  | false => rw [hb] at h; exact h.elim
  | true =>
   rw [hb] at h
   simp only [cond_true, zOv, zJt] at h
   exact ⟨_, by simp [putT, hb]; rfl, h⟩
def sxUs (H : Tr AObj) (us : List (Nat × Option AObj)) (K : Tr AObj → Prop) : Prop :=
 match us with
 | [] => K H
 | (k, x) :: us => setK x (k.log2 + 2) H k fun H => sxUs H us K
theorem zPs : ∀ (us : List (Nat × Option AObj)) (H : Tr AObj) (K : Tr AObj → Prop), sxUs H us K = K (applyUs H us)
 | [], H, K => rfl
 | (k, x) :: us, H, K => by
  simp only [sxUs, zJt]
  exact zPs us _ K
def allP (p : Nat → Bool) : List (Nat × Option AObj) → Bool
 | [] => true
 | (k, _) :: us => p k && allP p us
def anyP (p : Nat → Bool) : List (Nat × Option AObj) → Bool
 | [] => false
 | (k, _) :: us => p k || anyP p us
theorem allP_eq (p : Nat → Bool) : ∀ us, allP p us = us.all fun u => p u.1
 | [] => rfl
 | (k, _) :: us => by simp only [allP, List.all_cons, allP_eq p us]
theorem anyP_eq (p : Nat → Bool) : ∀ us, anyP p us = us.any fun u => p u.1
 | [] => rfl
 | (k, _) :: us => by simp only [anyP, List.any_cons, anyP_eq p us]
def keysP (n k : Nat) (us : List (Nat × Option AObj)) (G : Gh) : Bool := k.ble 1 && allP (fun j => (G j).isSome || (j.beq n && k.beq 1)) us && (k.beq 0 || anyP (fun j => j.beq n) us)
theorem zQu (n k : Nat) (us : List (Nat × Option AObj)) (G : Gh) : keysP n k us G = keysOk n k us G := by
 simp only [keysP, keysOk, allP_eq, anyP_eq]
def wrOf : List (Nat × Option AObj) → List Nat → List Nat
 | [], wr => wr
 | (k, _) :: us, wr => k :: wrOf us wr
theorem zPv : ∀ (us : List (Nat × Option AObj)) (wr : List Nat), wrOf us wr = us.map (·.1) ++ wr
 | [], wr => rfl
 | (k, _) :: us, wr => by simp [wrOf, zPv us wr]
structure Tb (P : Program) (g0 : Nat) where
 km : Bool
 res : FuncId → List Value → Tr AObj → Nat → Res
 k : FuncId → List Value → Tr AObj → Nat → (Res → Prop) → Prop
 ok : ∀ f args H n, TOK P g0 (.call f args) ⟨.e, H, n, [], []⟩ (res f args H n)
 imp : ∀ f args H n (K : Res → Prop), k f args H n K → K (res f args H n)
noncomputable def Tb.go {P : Program} {g0 : Nat} (tb : Tb P g0) (t : Task) (s : Fs) : Res :=
 match t with
 | .call f args => tb.res f args s.H s.n
 | .dcall f args u => ev P g0 100 (.dcall f args u) s
 | _ => .bad "" []
theorem Tb.go_ok {P : Program} (hm : P.follows .mixedOrders = true) {g0 : Nat} (tb : Tb P g0) (t : Task) (s : Fs) : TOK P g0 t s (tb.go t s) := by
 match t with
 | .call f args =>
  have := tb.ok f args s.H s.n
  unfold Tb.go
  simp only []
  generalize tb.res f args s.H s.n = r at this ⊢
  cases r <;> exact this
 | .code nt rd c => trivial
 | .loop nt rd c => trivial
 | .dcall f args u => exact ev_ok hm g0 100 (.dcall f args u) s
section
variable {P : Program} {g0 : Nat} (tb : Tb P g0) (sy : List Nat)
def zRi (c : CallTo) (H : Tr AObj) (n : Nat) (K : Res → Prop) : Prop :=
 match c with
 | .fn f args => bif callable P f then frcL args fun args => tb.k f args H n K else False
 | _ => False
theorem zLb {c : CallTo} {H : Tr AObj} {n : Nat} {K : Res → Prop} (h : zRi tb c H n K) : K (zFk P tb.go c H n) := by
 unfold zRi at h
 cases c with
 | fn f args =>
  simp only [] at h
  cases hc : callable P f with
  | false => rw [hc] at h; exact h.elim
  | true =>
   rw [hc] at h
   simp only [cond_true, zOu] at h
   unfold zFk
   simp only [hc, cond_true]
   exact tb.imp f args H n K h
 | yield l args => exact h.elim
 | no => exact h.elim
def sxOp (nt : Nat) (rd : Option Nat) (o : Oper) (s : Fs) (K : Ex → Fs → Prop) : Prop :=
 match s with
 | ⟨T0, H0, n0, wr0, df0⟩ =>
 bif okOps g0 o then
  match zCd o with
  | some c => zRi tb (callTo P (aev T0) c) H0 n0 fun r =>
   (match r with
   | .ret v H n wr => sxPut nt T0 o.dst v fun T => K .normal ⟨T, H, n, wr ++ wr0, df0⟩
   | .pan ch H n wr => K (.pan ch) ⟨T0, H, n, wr ++ wr0, df0⟩
   | _ => False)
  | none =>
   bif zBp o then (match zIu nt rd o ⟨T0, H0, n0, wr0, df0⟩ with | .code x s' => K x s' | _ => False) else
    sop P sy o (aev T0) H0.get n0 fun r =>
    (match r with
    | .val v us k => bif keysP n0 k us H0.get then sxPut nt T0 o.dst v fun T => sxUs H0 us fun H => frcN (n0 + k) fun n => K .normal ⟨T, H, n, wrOf us wr0, df0⟩ else False
    | .pan v => K (.pan [(v, false)]) ⟨T0, H0, n0, wr0, df0⟩
    | .bad _ => False)
 else False
theorem sxOp_imp {nt : Nat} {rd : Option Nat} {o : Oper} {s : Fs} {K : Ex → Fs → Prop} (h : sxOp tb sy nt rd o s K) : ∃ x s', evOp P g0 tb.go nt rd o s = .code x s' ∧ K x s' := by
 obtain ⟨T0, H0, n0, wr0, df0⟩ := s
 unfold sxOp at h
 unfold evOp
 simp only [] at h ⊢
 cases hok : okOps g0 o with
 | false => rw [hok] at h; exact h.elim
 | true =>
  rw [hok] at h
  simp only [cond_true] at h ⊢
  cases hc : zCd o with
  | some c =>
   rw [hc] at h
   simp only [] at h ⊢
   have := zLb tb h
   generalize zFk P tb.go (callTo P (aev T0) c) H0 n0 = r at this ⊢
   cases r with
   | ret v H n wr =>
    simp only [] at this ⊢
    obtain ⟨T, h1, h2⟩ := zDe this
    rw [h1]; exact ⟨_, _, rfl, h2⟩
   | pan ch H n wr => exact ⟨_, _, rfl, this⟩
   | code _ _ => exact this.elim
   | bad _ _ => exact this.elim
  | none =>
   rw [hc] at h
   simp only [] at h ⊢
   cases hd : zBp o with
   | true =>
    rw [hd] at h
    simp only [cond_true] at h ⊢
    generalize zIu nt rd o ⟨T0, H0, n0, wr0, df0⟩ = r at h ⊢
    cases r with
    | code x s' => exact ⟨_, _, rfl, h⟩
    | _ => exact h.elim
   | false =>
    rw [hd] at h
    simp only [cond_false] at h ⊢
    have := sop_imp P sy h
    generalize aop P o (aev T0) H0.get n0 = r at this ⊢
    cases r with
    | bad m => exact this.elim
    | pan v => exact ⟨_, _, rfl, this⟩
    | val v us k =>
     simp only [] at this ⊢
     rw [zQu] at this
     cases hk : keysOk n0 k us H0.get with
     | false => rw [hk] at this; exact this.elim
     | true =>
      rw [hk] at this
      simp only [cond_true] at this ⊢
      obtain ⟨T, h1, h2⟩ := zDe this
      rw [zPs, zAs, zPv] at h2
      rw [h1]; exact ⟨_, _, rfl, h2⟩
def sxOpsS (nt : Nat) (rd : Option Nat) (ops : Array Oper) (i : Nat) (ih : Fs → (Ex → Fs → Prop) → Prop) : Fs → (Ex → Fs → Prop) → Prop
 | ⟨T0, H0, n0, wr0, df0⟩, K =>
  match ops[i]? with
  | none => ih ⟨T0, H0, n0, wr0, df0⟩ K
  | some o =>
   zMo ops T0 o
    (fun T0 => sxOp tb sy nt rd o ⟨T0, H0, n0, wr0, df0⟩ fun x s' => (match x with | .normal => ih s' K | x => K x s'))
    (fun T0 => sxPut nt T0 o.dst undef fun T => ih ⟨T, H0, n0, wr0, df0⟩ K)
noncomputable def sxOps (nt : Nat) (rd : Option Nat) (ops : Array Oper) (l : List Nat) : Fs → (Ex → Fs → Prop) → Prop :=
 @List.rec Nat (fun _ => Fs → (Ex → Fs → Prop) → Prop) (fun s K => K .normal s) (fun i _ ih => sxOpsS tb sy nt rd ops i ih) l
theorem zSu {nt : Nat} {rd : Option Nat} {ops : Array Oper} {i : Nat} {l : List Nat} : sxOps tb sy nt rd ops (i :: l) = sxOpsS tb sy nt rd ops i (sxOps tb sy nt rd ops l) := rfl
theorem zEr {nt : Nat} {rd : Option Nat} {ops : Array Oper} : ∀ (l : List Nat) (s : Fs) (K : Ex → Fs → Prop), sxOps tb sy nt rd ops l s K → ∃ x s', evOps P g0 tb.go nt rd ops l s = .code x s' ∧ K x s'
 | [], s, K, h => ⟨_, _, rfl, h⟩
 | i :: l, ⟨T0, H0, n0, wr0, df0⟩, K, h => by
  rw [zSu] at h
  unfold sxOpsS at h
  unfold evOps
  simp only [] at h ⊢
  cases ho : ops[i]? with
  | none => rw [ho] at h; exact zEr l _ K h
  | some o =>
   rw [ho] at h
   simp only [] at h ⊢
   rcases zJx h with ⟨hg, h⟩ | ⟨hg, h⟩
   rotate_left
   ·rw [hg]
    simp only [cond_false] at h ⊢
    obtain ⟨T, h1, h2⟩ := zDe h
    rw [h1]; exact zEr l _ K h2
   ·rw [hg]
    simp only [cond_true] at h ⊢
    obtain ⟨x, s', h1, h2⟩ := sxOp_imp tb sy h
    rw [h1]
    cases x with
    | normal => exact zEr l s' K h2
    | exit id => exact ⟨_, _, rfl, h2⟩
    | goto l => exact ⟨_, _, rfl, h2⟩
    | ret => exact ⟨_, _, rfl, h2⟩
    | pan ch => exact ⟨_, _, rfl, h2⟩
def still (r : Rec) : Bool := r.W.isEmpty && r.lo.beq r.hi && r.ids.isSome
theorem zLa {r : Rec} (h : still r = true) : (∀ k, inK r k = false) ∧ ∃ l, r.ids = some l := by
 simp only [still, Bool.and_eq_true, List.isEmpty_iff] at h
 obtain ⟨⟨h1, h2⟩, h3⟩ := h
 have h2 := Nat.eq_of_beq_eq_true h2
 refine ⟨fun k => ?_, Option.isSome_iff_exists.1 h3⟩
 cases hk : inK r k with
 | false => rfl
 | true =>
  rcases zBm.1 hk with h | h
  ·rw [h1] at h; cases h
  ·omega
theorem zHz {r r' : Rec} (h : still r = true) (h' : still r' = true) : apartR r r' = true := by
 obtain ⟨h1, _⟩ := zLa h
 obtain ⟨_, l, hl⟩ := zLa h'
 unfold apartR
 rw [hl]
 simp only [h1, Bool.not_false, List.all_eq_true]
 exact fun _ _ => trivial
theorem zOa {r r' : Rec} (h : still r = true) (h' : still r' = true) (hle : r'.hi ≤ r.lo) : apartW r r' = true := by
 have h0 := h
 have h0' := h'
 simp only [still, Bool.and_eq_true, List.isEmpty_iff] at h0 h0'
 unfold apartW
 rw [h0.1.1, h0'.1.1, Nat.ble_eq_true_of_le hle]
 simp
def inKv (W : List Nat) (lo hi k : Nat) : Bool := W.elem k || (lo.ble k && Nat.blt k hi)
def apartRv (W : List Nat) (lo hi : Nat) (ids : Option (List Nat)) (ids' : Option (List Nat)) (Hin' : Tr AObj) : Bool :=
 match ids' with
 | some l => l.all fun k => !inKv W lo hi k
 | none => (W.all fun k => (Hin'.get k).isNone) && (match ids with | some _ => (seqL lo (hi - lo)).all fun k => (Hin'.get k).isNone | none => false)
def apartWv (W : List Nat) (lo hi : Nat) (W' : List Nat) (lo' hi' : Nat) : Bool := (W.all fun k => !inKv W' lo' hi' k) && (W'.all fun k => !inKv W lo hi k) && (hi.ble lo' || hi'.ble lo)
def fitK (pre : List Nat) (i lo hi : Nat) (W : List Nat) (ids : Option (List Nat)) (Hin : Tr AObj) : List Rec → Bool
 | [] => true
 | ⟨i', _, lo', hi', W', ids', Hin', _⟩ :: rs => (!(freeOf pre i i') || (apartRv W lo hi ids ids' Hin' && apartRv W' lo' hi' ids' ids Hin && apartWv W lo hi W' lo' hi')) && fitK pre i lo hi W ids Hin rs
theorem fitK_eq (pre : List Nat) (r : Rec) : ∀ rs : List Rec, fitK pre r.i r.lo r.hi r.W r.ids r.Hin rs = fits pre r rs
 | [] => rfl
 | r' :: rs => by
  unfold fitK fits
  rw [List.all_cons]
  rw [fitK_eq pre r rs]
  rfl
def fitsQ (q : Bool) (pre : List Nat) (r : Rec) (rs : List Rec) : Bool :=
 match r with
 | ⟨i, _, lo, hi, W, ids, Hin, _⟩ => bif q && (W.isEmpty && lo.beq hi && ids.isSome) then true else fitK pre i lo hi W ids Hin rs
theorem zGz {q : Bool} {pre : List Nat} {r : Rec} {rs : List Rec} (hq : q = true → ∀ r' ∈ rs, still r' = true ∧ r'.hi ≤ r.lo) (h : fitsQ q pre r rs = true) : fits pre r rs = true := by
 have h : (bif q && still r then true else fitK pre r.i r.lo r.hi r.W r.ids r.Hin rs) = true := h
 rw [fitK_eq] at h
 cases hs : (q && still r) with
 | false => rw [hs] at h; exact h
 | true =>
  simp only [Bool.and_eq_true] at hs
  unfold fits
  refine List.all_eq_true.2 fun r' hr' => ?_
  obtain ⟨h1, h2⟩ := hq hs.1 r' hr'
  rw [zHz hs.2 h1, zHz h1 hs.2, zOa hs.2 h1 h2]
  simp
def hideP (pre : List Nat) (i : Nat) (H : Tr AObj) : List Rec → Tr AObj
 | [] => H
 | ⟨i', _, lo, hi, _, _, _, _⟩ :: rs => hideP pre i (bif freeOf pre i i' then (seqL lo (hi - lo)).foldl (fun H k => H.set k none) H else H) rs
theorem zQp (pre : List Nat) (i : Nat) : ∀ (rs : List Rec) (H : Tr AObj), hideP pre i H rs = hide pre i H rs
 | [], _ => rfl
 | ⟨_, _, _, _, _, _, _, _⟩ :: rs, _ => zQp pre i rs _
def unhideP (pre : List Nat) (i : Nat) (H0 H : Tr AObj) : List Rec → Tr AObj
 | [] => H
 | ⟨i', _, lo, hi, _, _, _, _⟩ :: rs => unhideP pre i H0 (bif freeOf pre i i' then (seqL lo (hi - lo)).foldl (fun H k => H.set k (H0.get k)) H else H) rs
theorem zLf (pre : List Nat) (i : Nat) (H0 : Tr AObj) : ∀ (rs : List Rec) (H : Tr AObj), unhideP pre i H0 H rs = unhide pre i H0 H rs
 | [], _ => rfl
 | ⟨_, _, _, _, _, _, _, _⟩ :: rs, _ => zLf pre i H0 rs _
def zPq (nt : Nat) (rd : Option Nat) (ops : Array Oper) (pre : List Nat) (i : Nat) (ih : Nat → Bool → List Rec → Fs → (Fs → Prop) → Prop) : Nat → Bool → List Rec → Fs → (Fs → Prop) → Prop
 | done, q, rs, ⟨T0, H0, n0, wr0, df0⟩, K =>
  bif !(done.testBit i) && (pre.getD i 0 &&& done).beq (pre.getD i 0) then
   match ops[i]? with
   | none => False
   | some o =>
    zMo ops T0 o
     (fun T0 => bif okOps g0 o then
     match zCd o with
     | some c =>
      let Hin := hideP pre i H0 rs
      zRi tb (callTo P (aev T0) c) Hin n0 fun r =>
      (match r with
      | .ret v H n wr => sxPut nt T0 o.dst v fun T =>
        let r : Rec := ⟨i, v, n0, n, wr, none, Hin, H⟩
        bif fitsQ q pre r rs && (wr.all fun k => (Hin.get k).isSome) then frcN (done ||| 2 ^ i) fun done => ih done (q && still r) (r :: rs) ⟨T, unhideP pre i H0 H rs, n, wr ++ wr0, df0⟩ K else False
      | _ => False)
     | none =>
      bif zBp o then False else
       frcLN (idsOf (aev T0) o) fun ids =>
       sop P sy o (aev T0) (restr ids H0.get) n0 fun r =>
       (match r with
       | .val v us k => bif keysP n0 k us (restr ids H0.get) && ids.all (fun j => Nat.blt j n0) then (sxPut nt T0 o.dst v fun T => sxUs H0 us fun H => frcN (n0 + k) fun n => frcLN ((us.map (fun u => u.1)).filter (fun j => !(n0.ble j && Nat.blt j n))) fun W =>
         let r : Rec := ⟨i, v, n0, n, W, some ids, .e, H⟩
         bif fitsQ q pre r rs then frcN (done ||| 2 ^ i) fun done => ih done (q && (W.isEmpty && n0.beq n)) (r :: rs) ⟨T, H, n, wrOf us wr0, df0⟩ K else False) else False
       | _ => False)
     else False)
     (fun T0 => sxPut nt T0 o.dst undef fun T =>
      let r : Rec := ⟨i, undef, n0, n0, [], some [], .e, H0⟩
      bif fitsQ q pre r rs then frcN (done ||| 2 ^ i) fun done => ih done (q && still r) (r :: rs) ⟨T, H0, n0, wr0, df0⟩ K else False)
  else False
noncomputable def zLc (nt : Nat) (rd : Option Nat) (ops : Array Oper) (pre : List Nat) (l : List Nat) : Nat → Bool → List Rec → Fs → (Fs → Prop) → Prop :=
 @List.rec Nat (fun _ => Nat → Bool → List Rec → Fs → (Fs → Prop) → Prop) (fun done _ rs s K => bif done.beq (2 ^ ops.size - 1) && rs.length.beq ops.size then K s else False) (fun i _ ih => zPq tb sy nt rd ops pre i ih) l
theorem zSt {nt : Nat} {rd : Option Nat} {ops : Array Oper} {pre : List Nat} {done : Nat} {q : Bool} {rs : List Rec} {s : Fs} {K : Fs → Prop} : zLc tb sy nt rd ops pre [] done q rs s K = (bif done.beq (2 ^ ops.size - 1) && rs.length.beq ops.size then K s else False) := rfl
theorem zPr {nt : Nat} {rd : Option Nat} {ops : Array Oper} {pre : List Nat} {i : Nat} {l : List Nat} : zLc tb sy nt rd ops pre (i :: l) = zPq tb sy nt rd ops pre i (zLc tb sy nt rd ops pre l) := rfl
theorem zAv {b : Bool} {p : Prop} (h : bif b then p else False) : b = true ∧ p := by cases b; exact h.elim; exact ⟨rfl, h⟩
theorem zKz {q : Bool} {rs : List Rec} {n m : Nat} (hq : q = true → ∀ r' ∈ rs, still r' = true ∧ r'.hi ≤ n) (hn : n ≤ m) {r : Rec} (hr : r.hi = m := by rfl) : (q && still r) = true → ∀ r' ∈ r :: rs, still r' = true ∧ r'.hi ≤ m := by
 intro h r' hm
 simp only [Bool.and_eq_true] at h
 rcases List.mem_cons.1 hm with rfl | hm
 ·exact ⟨h.2, Nat.le_of_eq hr⟩
 ·obtain ⟨h1, h2⟩ := hq h.1 r' hm
  exact ⟨h1, Nat.le_trans h2 hn⟩
theorem zDd {nt : Nat} {rd : Option Nat} {ops : Array Oper} {pre : List Nat} : ∀ (l : List Nat) (done : Nat) (q : Bool) (rs : List Rec) (s : Fs) (K : Fs → Prop), (q = true → ∀ r' ∈ rs, still r' = true ∧ r'.hi ≤ s.n) → zLc tb sy nt rd ops pre l done q rs s K → ∃ s', zEl P g0 tb.go nt rd ops pre l done rs s = .code .normal s' ∧ K s'
 | [], done, q, rs, s, K, hq, h => by
  rw [zSt] at h
  obtain ⟨h1, h2⟩ := zAv h
  unfold zEl
  rw [h1]; exact ⟨_, rfl, h2⟩
 | i :: l, done, q, rs, ⟨T0, H0, n0, wr0, df0⟩, K, hq, h => by
  rw [zPr] at h
  unfold zPq at h
  simp only [] at h
  obtain ⟨h1, h⟩ := zAv h
  unfold zEl
  rw [h1]
  simp only [cond_true]
  cases ho : ops[i]? with
  | none => rw [ho] at h; exact h.elim
  | some o =>
   rw [ho] at h
   simp only [] at h ⊢
   rcases zJx h with ⟨hg, h⟩ | ⟨hg, h⟩
   rotate_left
   ·rw [hg]
    simp only [Bool.not_false, cond_true] at h ⊢
    obtain ⟨T, hp, h⟩ := zDe h
    rw [hp]
    obtain ⟨h2, h3⟩ := zAv h
    rw [zAs] at h3
    simp only [zGz hq h2, cond_true]
    exact zDd l _ _ _ _ K (zKz hq (Nat.le_refl _)) h3
   ·rw [hg]
    simp only [Bool.not_true, cond_false] at h ⊢
    obtain ⟨hok, h⟩ := zAv h
    rw [hok]
    simp only [cond_true]
    cases hc : zCd o with
    | some c =>
     rw [hc] at h
     simp only [zQp, zLf] at h ⊢
     have := zLb tb h
     generalize zFk P tb.go (callTo P (aev T0) c) (hide pre i H0 rs) n0 = r at this ⊢
     cases r with
     | ret v H n wr =>
      simp only [] at this ⊢
      obtain ⟨T, hp, this⟩ := zDe this
      rw [hp]
      obtain ⟨h2, h3⟩ := zAv this
      rw [zAs] at h3
      simp only [Bool.and_eq_true] at h2
      simp only [zGz hq h2.1, h2.2, Bool.and_self, cond_true]
      refine zDd l _ _ _ _ K (fun hs => ?_) h3
      simp [still] at hs
     | pan ch H n wr => exact this.elim
     | code _ _ => exact this.elim
     | bad _ _ => exact this.elim
    | none =>
     rw [hc] at h
     simp only [] at h ⊢
     cases hd : zBp o with
     | true => rw [hd] at h; exact h.elim
     | false =>
      rw [hd] at h
      simp only [cond_false, zCp] at h ⊢
      have := sop_imp P sy h
      generalize aop P o (aev T0) (restr (idsOf (aev T0) o) H0.get) n0 = r at this ⊢
      cases r with
      | bad m => exact this.elim
      | pan v => exact this.elim
      | val v us k =>
       simp only [] at this ⊢
       rw [zQu] at this
       obtain ⟨h2, this⟩ := zAv this
       rw [h2]
       simp only [cond_true]
       obtain ⟨T, hp, this⟩ := zDe this
       rw [zPs, zPv, zAs] at this
       rw [hp]
       obtain ⟨h4, h5⟩ := zAv this
       rw [zAs] at h5
       simp only [zGz hq h4, cond_true]
       exact zDd l _ _ _ _ K (fun hs => zKz hq (Nat.le_add_right _ _) rfl (by simpa [still] using hs)) h5
end
end Go.Proofs.Ytpdeidlkeplegaa
namespace Go.Proofs.Ytpdeidlkeplegaa
open Go.RowKit
def JJ : Nat := 1099511627776
structure FRn (P : Program) (g0 : Nat) (E : Env) (nt : Nat) (rd : Option Nat) (s : Fs) (a : Act) (w : World) : Prop where
 tr : TR E s.T nt a.tmps
 hr : HR P E s.H.get w
 lw : Low s.n s.H
 df : DR E s.df a.defers
 gl : ∀ g, g < g0 → E.dom g ∧ E.ρ g = g ∧ E.sh g = 0
 rd : ∀ l, rd = some l → E.dom l
 top : ∀ k, E.dom k → k < s.n ∨ JJ ≤ k
def Tch (k0 : Nat) (W : List Nat) (E : Env) (i : Nat) : Prop := E.dom i ∧ i < JJ ∧ (i < k0 → i ∈ W ∧ ¬ E.ro i)
structure Kept (k0 : Nat) (W : List Nat) (E E' : Env) (w w' : World) : Prop where
 dom : ∀ i, i < k0 → (E'.dom i ↔ E.dom i)
 ρ : ∀ i, i < k0 → E.dom i → E'.ρ i = E.ρ i
 tot : ∀ i, i < k0 → E.dom i → E'.tot i = E.tot i
 sz : ∀ i, i < k0 → E.dom i → E'.sz i = E.sz i
 sh : ∀ i, i < k0 → E.dom i → E'.sh i = E.sh i
 ro : ∀ i, i < k0 → E.dom i → (E'.ro i ↔ E.ro i)
 nro : (∀ i, k0 ≤ i → i < JJ → E.dom i → ¬ E.ro i) → ∀ i, k0 ≤ i → i < JJ → E'.dom i → ¬ E'.ro i
 os : w'.os = w.os
 tp : w'.tape = w.tape
 output : w'.output = w.output
 size : w.heap.size ≤ w'.heap.size
 block : ∀ b, b < w.heap.size → (∀ i, Tch k0 W E i → E.ρ i ≠ b) → w'.heap[b]? = w.heap[b]?
 fresh : ∀ i, k0 ≤ i → i < JJ → E'.dom i → w.heap.size ≤ E'.ρ i ∨ ∃ j, Tch k0 W E j ∧ E.ρ j = E'.ρ i
 fz : ∀ b ob, E.fz b = some ob → E'.fz b = some ob
 fr : ∀ b ob, E'.fz b = some ob → E.fz b = some ob ∨ w.heap.size ≤ b ∨ ∃ i, Tch k0 W E i ∧ E.ρ i = b
def subW (k0 : Nat) (W W' : List Nat) : Prop := ∀ k ∈ W, k < k0 → k ∈ W'
theorem subW.refl (k0 : Nat) (W : List Nat) : subW k0 W W := fun _ h _ => h
theorem subW.trans {k0 : Nat} {A B C : List Nat} (h : subW k0 A B) (k : subW k0 B C) : subW k0 A C := fun i hi hk => k i (h i hi hk) hk
theorem Kept.refl (k0 : Nat) (W : List Nat) (E : Env) (w : World) : Kept k0 W E E w w :=
 ⟨fun _ _ => Iff.rfl, fun _ _ _ => rfl, fun _ _ _ => rfl, fun _ _ _ => rfl, fun _ _ _ => rfl, fun _ _ _ => Iff.rfl, fun h => h, rfl, rfl, rfl, Nat.le_refl _, fun _ _ _ => rfl, fun i hi hJ hd => .inr ⟨i, ⟨hd, hJ, fun h => by omega⟩, rfl⟩, fun _ _ h => h, fun _ _ h => .inl h⟩
theorem Kept.trans {k0 : Nat} {W V : List Nat} {A B C : Env} {w w1 w2 : World} (h : Kept k0 W A B w w1) (k : Kept k0 V B C w1 w2) (hs : subW k0 W V) : Kept k0 V A C w w2 := by
 have tch : ∀ i, Tch k0 W A i → Tch k0 V A i := fun i hi => ⟨hi.1, hi.2.1, fun hk => ⟨hs i (hi.2.2 hk).1 hk, (hi.2.2 hk).2⟩⟩
 refine ⟨fun i hi => (k.dom i hi).trans (h.dom i hi), fun i hi hd => ?_, fun i hi hd => ?_, fun i hi hd => ?_, fun i hi hd => (k.sh i hi ((h.dom i hi).2 hd)).trans (h.sh i hi hd), fun i hi hd => (k.ro i hi ((h.dom i hi).2 hd)).trans (h.ro i hi hd), fun hn => k.nro (h.nro hn), k.os.trans h.os, k.tp.trans h.tp, k.output.trans h.output, Nat.le_trans h.size k.size, fun b hb hx => ?_, fun i hi hJ hd => ?_, fun b ob hb => k.fz b ob (h.fz b ob hb), fun b ob hb => ?_⟩
 ·rw [k.ρ i hi ((h.dom i hi).2 hd), h.ρ i hi hd]
 ·rw [k.tot i hi ((h.dom i hi).2 hd), h.tot i hi hd]
 ·rw [k.sz i hi ((h.dom i hi).2 hd), h.sz i hi hd]
 ·rw [k.block b (Nat.lt_of_lt_of_le hb h.size) (fun i hi e => ?_), h.block b hb (fun i hi => hx i (tch i hi))]
  by_cases hk : i < k0
  ·have hd := (h.dom i hk).1 hi.1
   rw [h.ρ i hk hd] at e
   exact hx i ⟨hd, hi.2.1, fun hk' => ⟨(hi.2.2 hk').1, fun x => (hi.2.2 hk').2 ((h.ro i hk hd).2 x)⟩⟩ e
  ·rcases h.fresh i (by omega) hi.2.1 hi.1 with h1 | ⟨j, hj, ej⟩
   ·omega
   ·exact hx j (tch j hj) (ej.trans e)
 ·rcases k.fresh i hi hJ hd with h1 | ⟨j, hj, ej⟩
  ·exact .inl (Nat.le_trans h.size h1)
  ·by_cases hk : j < k0
   ·have hd' := (h.dom j hk).1 hj.1
    exact .inr ⟨j, ⟨hd', hj.2.1, fun hk' => ⟨(hj.2.2 hk').1, fun x => (hj.2.2 hk').2 ((h.ro j hk hd').2 x)⟩⟩, by rw [← ej, h.ρ j hk hd']⟩
   ·rcases h.fresh j (by omega) hj.2.1 hj.1 with h1 | ⟨j', hj', ej'⟩
    ·exact .inl (by rw [← ej]; exact h1)
    ·exact .inr ⟨j', tch j' hj', ej'.trans ej⟩
 ·rcases k.fr b ob hb with h1 | h1 | ⟨j, hj, ej⟩
  ·exact (h.fr b ob h1).imp (fun x => x) (fun y => y.imp (fun x => x) (fun ⟨j, hj, e⟩ => ⟨j, tch j hj, e⟩))
  ·exact .inr (.inl (Nat.le_trans h.size h1))
  ·by_cases hk : j < k0
   ·have hd' := (h.dom j hk).1 hj.1
    exact .inr (.inr ⟨j, ⟨hd', hj.2.1, fun hk' => ⟨(hj.2.2 hk').1, fun x => (hj.2.2 hk').2 ((h.ro j hk hd').2 x)⟩⟩, by rw [← ej, h.ρ j hk hd']⟩)
   ·rcases h.fresh j (by omega) hj.2.1 hj.1 with h1 | ⟨j', hj', ej'⟩
    ·exact .inr (.inl (by rw [← ej]; exact h1))
    ·exact .inr (.inr ⟨j', tch j' hj', ej'.trans ej⟩)
theorem Kept.sub {k0 : Nat} {W V : List Nat} {A B : Env} {w w1 : World} (h : Kept k0 W A B w w1) (hs : subW k0 W V) : Kept k0 V A B w w1 := h.trans (.refl k0 V B w1) hs
def SP (P : Program) (g0 k0 : Nat) (E : Env) (w : World) (nt : Nat) (rd : Option Nat) (x : Ex) (s' : Fs) : Exit → Act → World → Prop := fun e a' w' =>
 ∃ E', FRn P g0 E' nt rd s' a' w' ∧ exR E' x e ∧ Kept k0 s'.wr E E' w w'
def Sem (P : Program) (g0 k0 nt : Nat) (rd : Option Nat) (c : Code) (s : Fs) (x : Ex) (s' : Fs) : Prop :=
 k0 ≤ s'.n ∧ subW k0 s.wr s'.wr ∧ ∀ (E : Env) (a : Act) (w : World), FRn P g0 E nt rd s a w → c.wpIn (rdF E rd) 0 P (SP P g0 k0 E w nt rd x s') a w
def LSem (P : Program) (g0 k0 nt : Nat) (rd : Option Nat) (c : Code) (s : Fs) (x : Ex) (s' : Fs) : Prop :=
 k0 ≤ s'.n ∧ subW k0 s.wr s'.wr ∧ ∀ (E : Env) (a : Act) (w : World), FRn P g0 E nt rd s a w → zFc (rdF E rd) 0 P c (SP P g0 k0 E w nt rd x s') a w
def RcM (P : Program) (g0 k0 nt : Nat) (rd : Option Nat) (s s' : Fs) : Prop :=
 k0 ≤ s'.n ∧ subW k0 s.wr s'.wr ∧ ∀ (E : Env) (a : Act) (w : World), FRn P g0 E nt rd s a w → ∃ E', FRn P g0 E' nt rd s' a w ∧ Kept k0 s'.wr E E' w w
def CW (P : Program) (g0 k0 nt : Nat) (rd : Option Nat) (c : Code) (s : Fs) (K : Ex → Fs → Prop) : Prop :=
 (∀ l, rd = some l → l < k0) → k0 ≤ s.n → ∃ x s', Sem P g0 k0 nt rd c s x s' ∧ K x s'
def LW (P : Program) (g0 k0 nt : Nat) (rd : Option Nat) (c : Code) (s : Fs) (K : Ex → Fs → Prop) : Prop :=
 (∀ l, rd = some l → l < k0) → k0 ≤ s.n → ∃ x s', LSem P g0 k0 nt rd c s x s' ∧ K x s'
section
variable {P : Program} {g0 k0 nt : Nat} {rd : Option Nat}
theorem CW.mono {c : Code} {s : Fs} {K K' : Ex → Fs → Prop} (h : CW P g0 k0 nt rd c s K) (hk : ∀ x s', K x s' → K' x s') : CW P g0 k0 nt rd c s K' := fun h1 h2 =>
 let ⟨x, s', h3, h4⟩ := h h1 h2; ⟨x, s', h3, hk _ _ h4⟩
theorem LW.mono {c : Code} {s : Fs} {K K' : Ex → Fs → Prop} (h : LW P g0 k0 nt rd c s K) (hk : ∀ x s', K x s' → K' x s') : LW P g0 k0 nt rd c s K' := fun h1 h2 =>
 let ⟨x, s', h3, h4⟩ := h h1 h2; ⟨x, s', h3, hk _ _ h4⟩
theorem SP.trans {E E1 : Env} {w w1 : World} {s1 s' : Fs} {x : Ex} {e : Exit} {a : Act} {w2 : World} (hk : Kept k0 s1.wr E E1 w w1) (hs : subW k0 s1.wr s'.wr) (h : SP P g0 k0 E1 w1 nt rd x s' e a w2) : SP P g0 k0 E w nt rd x s' e a w2 :=
 let ⟨E', h1, h2, h3⟩ := h; ⟨E', h1, h2, hk.trans h3 hs⟩
theorem zIl {W : List Nat} {E E1 : Env} {w w1 : World} (h : Kept k0 W E E1 w w1) (hrd : ∀ l, rd = some l → l < k0) (hd : ∀ l, rd = some l → E.dom l) : rdF E1 rd = rdF E rd := by
 cases rd with
 | none => rfl
 | some l => simp only [rdF, h.ρ l (hrd l rfl) (hd l rfl)]
theorem zJr {c : Code} {s s' : Fs} {x : Ex} (h : CodeOK P g0 nt rd c s x s') (hJ : s'.n ≤ JJ) (hW : ∀ k ∈ s'.wr, k < JJ) (hk : k0 ≤ s.n) : Sem P g0 k0 nt rd c s x s' := by
 obtain ⟨⟨hg, hwr⟩, hw⟩ := h
 refine ⟨Nat.le_trans hk hg.le, fun i hi _ => hwr i hi, fun E a w hf => ?_⟩
 have hfree : Free E s.n s'.n := fun k h1 h2 hd => by rcases hf.top k hd with h3 | h3 <;> omega
 refine wpIn_mono (hw E w E a w ⟨hf.tr, hf.hr, hf.lw, (Stp.refl E w).sub (fun _ h => by cases h), hf.df, hf.gl, hf.rd⟩ hfree) ?_
 rintro e a' w' ⟨E', hx, ht, hf', he⟩
 have hle := hg.le
 refine ⟨E', ⟨hf'.tr, hf'.hr, hf'.lw, hf'.df, hf'.gl, hf'.rd, fun k hd => ?_⟩, he, ⟨fun i hi => ?_, fun i _ hd => hx.ρ i hd, fun i _ hd => hx.tot i hd, fun i _ hd => hx.sz i hd, fun i _ hd => hx.sh i hd, fun i _ hd => hx.ro i hd, fun hn i hi hiJ hd => ?_, hf'.stp.os, hf'.stp.tape, hf'.stp.output, hf'.stp.size, fun b hb hx' => ?_, fun i hi hiJ hd => ?_, hx.fz, fun b ob hb => (hf'.stp.fz b ob hb).imp (fun h => h) (fun h => h.imp (fun h => h) (fun ⟨o, ho, hd', hr, e⟩ => ⟨o, ⟨hd', hW o ho, fun _ => ⟨ho, hr⟩⟩, e⟩))⟩⟩
 ·rcases (ht k).1 hd with h1 | h1
  ·rcases hf.top k h1 with h2 | h2
   ·exact .inl (by omega)
   ·exact .inr h2
  ·exact .inl h1.2
 ·rw [ht i]; exact ⟨fun h => h.resolve_right (by omega), .inl⟩
 ·by_cases h1 : E.dom i
  ·exact fun x => hn i hi hiJ h1 ((hx.ro i h1).1 x)
  ·exact (hf'.stp.fresh i h1 hd).1
 ·exact hf'.stp.block b hb (fun id hid hd hr => hx' id ⟨hd, hW id hid, fun _ => ⟨hid, hr⟩⟩)
 ·by_cases h1 : E.dom i
  ·exact .inr ⟨i, ⟨h1, hiJ, fun h => by omega⟩, (hx.ρ i h1).symm⟩
  ·exact (hf'.stp.fresh i h1 hd).2.imp (fun h => h) (fun ⟨o, ho, hd', hr, e⟩ => ⟨o, ⟨hd', hW o ho, fun _ => ⟨ho, hr⟩⟩, e.symm⟩)
theorem sem_seq {a b : Code} {s s1 s' : Fs} {x : Ex} (hrd : ∀ l, rd = some l → l < k0) (h : Sem P g0 k0 nt rd a s .normal s1) (k : Sem P g0 k0 nt rd b s1 x s') : Sem P g0 k0 nt rd (.seq a b) s x s' := by
 obtain ⟨a1, a2, a3⟩ := h
 obtain ⟨b1, b2, b3⟩ := k
 refine ⟨b1, a2.trans b2, fun E ac w hf => wpIn_seq (wpIn_mono (a3 E ac w hf) ?_)⟩
 rintro e a1 w1 ⟨E1, h1, h2, h3⟩
 cases zFa h2
 have := b3 E1 a1 w1 h1
 rw [zIl h3 hrd hf.rd] at this
 exact wpIn_mono this (fun e a' w' hq => SP.trans h3 b2 hq)
theorem sem_seqX {a b : Code} {s s1 : Fs} {x : Ex} (hx : x ≠ .normal) (h : Sem P g0 k0 nt rd a s x s1) : Sem P g0 k0 nt rd (.seq a b) s x s1 := by
 obtain ⟨a1, a2, a3⟩ := h
 refine ⟨a1, a2, fun E ac w hf => wpIn_seq (wpIn_mono (a3 E ac w hf) ?_)⟩
 rintro e a1 w1 hp
 obtain ⟨E1, h1, h2, h3⟩ := id hp
 exact zMp hx h2 hp
theorem zRf {v : Operand} {t : Bool} {a b : Code} {s s' : Fs} {x : Ex} (hv : aev s.T v = .bool t) (hok : okX g0 v = true) (h : Sem P g0 k0 nt rd (bif t then a else b) s x s') : Sem P g0 k0 nt rd (.cond v a b) s x s' := by
 obtain ⟨a1, a2, a3⟩ := h
 refine ⟨a1, a2, fun E ac w hf => ?_⟩
 have hev : ac.eval v = .bool t := ((zBg hf.tr hf.gl hok).isBool t).2 hv
 have := a3 E ac w hf
 cases t
 ·exact wpIn_cond_false hev this
 ·exact wpIn_cond_true hev this
theorem sem_block {id : Nat} {b : Code} {s s' : Fs} {x x' : Ex} (hx : x' = match x with | .exit i => bif i.beq id then .normal else .exit i | x => x) (h : Sem P g0 k0 nt rd b s x s') : Sem P g0 k0 nt rd (.block id b) s x' s' := by
 obtain ⟨a1, a2, a3⟩ := h
 refine ⟨a1, a2, fun E ac w hf => wpIn_block (wpIn_mono (a3 E ac w hf) ?_)⟩
 rintro e a1 w1 ⟨E1, h1, h2, h3⟩
 cases x with
 | exit i =>
  cases e <;> first | exact False.elim h2 | skip
  rename_i j
  have hj : j = i := h2
  subst hj
  cases hid : j.beq id with
  | true =>
   have := Nat.eq_of_beq_eq_true hid
   simp only [hid, cond_true] at hx
   subst hx
   simp only [Exit.inBlock, this, if_true]
   exact ⟨E1, h1, trivial, h3⟩
  | false =>
   simp only [hid, cond_false] at hx
   subst hx
   have hne : j ≠ id := fun e => by rw [e] at hid; simp at hid
   simp only [Exit.inBlock, hne, if_false]
   exact ⟨E1, h1, rfl, h3⟩
 | _ =>
  simp only [] at hx
  subst hx
  cases e <;> first | exact False.elim h2 | exact ⟨E1, h1, h2, h3⟩
theorem sem_scope {b : Code} {s s' : Fs} {x : Ex} (hng : ∀ l, x ≠ .goto l) (h : Sem P g0 k0 nt rd b s x s') : Sem P g0 k0 nt rd (.scope b) s x s' := by
 obtain ⟨a1, a2, a3⟩ := h
 refine ⟨a1, a2, fun E ac w hf => zEe (wpIn_mono (a3 E ac w hf) ?_)⟩
 rintro e a1 w1 hp
 obtain ⟨E1, h1, h2, h3⟩ := id hp
 cases e with
 | goto l => cases x <;> first | exact absurd rfl (hng _) | exact False.elim h2
 | _ => exact hp
theorem sem_loop {b : Code} {s s' : Fs} {x : Ex} (h : LSem P g0 k0 nt rd b s x s') : Sem P g0 k0 nt rd (.loop b) s x s' :=
 ⟨h.1, h.2.1, fun E ac w hf => zFs (h.2.2 E ac w hf)⟩
theorem zSh {b : Code} {s s1 s' : Fs} {x : Ex} (hrd : ∀ l, rd = some l → l < k0) (h : Sem P g0 k0 nt rd b s .normal s1) (k : LSem P g0 k0 nt rd b s1 x s') : LSem P g0 k0 nt rd b s x s' := by
 obtain ⟨a1, a2, a3⟩ := h
 obtain ⟨b1, b2, b3⟩ := k
 refine ⟨b1, a2.trans b2, fun E ac w hf => zBk (wpIn_mono (a3 E ac w hf) ?_)⟩
 rintro e a1 w1 ⟨E1, h1, h2, h3⟩
 cases zFa h2
 have := b3 E1 a1 w1 h1
 rw [zIl h3 hrd hf.rd] at this
 intro fb k cs q1 q2 q3
 obtain ⟨e, a', w', hq, harr⟩ := this fb k cs q1 q2 q3
 exact ⟨e, a', w', SP.trans h3 b2 hq, harr⟩
theorem lsem_out {b : Code} {s s1 : Fs} {x : Ex} (hx : x ≠ .normal) (h : Sem P g0 k0 nt rd b s x s1) : LSem P g0 k0 nt rd b s x s1 := by
 obtain ⟨a1, a2, a3⟩ := h
 refine ⟨a1, a2, fun E ac w hf => zBk (wpIn_mono (a3 E ac w hf) ?_)⟩
 rintro e a1 w1 hp
 obtain ⟨E1, h1, h2, h3⟩ := id hp
 exact zMp hx h2 hp
theorem sem_pre {c : Code} {s s1 s' : Fs} {x : Ex} (hrd : ∀ l, rd = some l → l < k0) (h : RcM P g0 k0 nt rd s s1) (k : Sem P g0 k0 nt rd c s1 x s') : Sem P g0 k0 nt rd c s x s' := by
 obtain ⟨a1, a2, a3⟩ := h
 obtain ⟨b1, b2, b3⟩ := k
 refine ⟨b1, a2.trans b2, fun E ac w hf => ?_⟩
 obtain ⟨E1, h1, h3⟩ := a3 E ac w hf
 have := b3 E1 ac w h1
 rw [zIl h3 hrd hf.rd] at this
 exact wpIn_mono this (fun e a' w' hq => SP.trans h3 b2 hq)
theorem lsem_pre {c : Code} {s s1 s' : Fs} {x : Ex} (hrd : ∀ l, rd = some l → l < k0) (h : RcM P g0 k0 nt rd s s1) (k : LSem P g0 k0 nt rd c s1 x s') : LSem P g0 k0 nt rd c s x s' := by
 obtain ⟨a1, a2, a3⟩ := h
 obtain ⟨b1, b2, b3⟩ := k
 refine ⟨b1, a2.trans b2, fun E ac w hf => ?_⟩
 obtain ⟨E1, h1, h3⟩ := a3 E ac w hf
 have := b3 E1 ac w h1
 rw [zIl h3 hrd hf.rd] at this
 intro fb k cs q1 q2 q3
 obtain ⟨e, a', w', hq, harr⟩ := this fb k cs q1 q2 q3
 exact ⟨e, a', w', SP.trans h3 b2 hq, harr⟩
theorem CW.pre {c : Code} {s s1 : Fs} {K : Ex → Fs → Prop} (h : RcM P g0 k0 nt rd s s1) (k : CW P g0 k0 nt rd c s1 K) : CW P g0 k0 nt rd c s K := fun h1 _ =>
 let ⟨x, s', h3, h4⟩ := k h1 h.1; ⟨x, s', sem_pre h1 h h3, h4⟩
theorem LW.pre {c : Code} {s s1 : Fs} {K : Ex → Fs → Prop} (h : RcM P g0 k0 nt rd s s1) (k : LW P g0 k0 nt rd c s1 K) : LW P g0 k0 nt rd c s K := fun h1 _ =>
 let ⟨x, s', h3, h4⟩ := k h1 h.1; ⟨x, s', lsem_pre h1 h h3, h4⟩
theorem LW.round {c : Code} {s : Fs} {K : Ex → Fs → Prop} (h : CW P g0 k0 nt rd c s (fun x s1 => match x with | .normal => LW P g0 k0 nt rd c s1 K | x => K x s1)) : LW P g0 k0 nt rd c s K := fun h1 h2 => by
 obtain ⟨x, s1, h3, h4⟩ := h h1 h2
 by_cases hx : x = .normal
 ·subst hx
  obtain ⟨x', s', h5, h6⟩ := h4 h1 h3.1
  exact ⟨x', s', zSh h1 h3 h5, h6⟩
 ·exact ⟨x, s1, lsem_out hx h3, by cases x <;> first | exact absurd rfl hx | exact h4⟩
end
section
variable {P : Program} {g0 : Nat} (tb : Tb P g0) (sy : List Nat) (k0 nt : Nat) (rd : Option Nat)
def toK (K : Ex → Fs → Prop) (x : Ex) (s : Fs) : Prop := bif s.n.ble JJ && s.wr.all (fun k => Nat.blt k JJ) then K x s else False
theorem zRk {K : Ex → Fs → Prop} {x : Ex} {s : Fs} (h : toK K x s) : s.n ≤ JJ ∧ (∀ k ∈ s.wr, k < JJ) ∧ K x s := by
 obtain ⟨h1, h2⟩ := zAv h
 simp only [Bool.and_eq_true] at h1
 exact ⟨Nat.le_of_ble_eq_true h1.1, fun k hk => Nat.le_of_ble_eq_true (List.all_eq_true.1 h1.2 k hk), h2⟩
def andK (km b : Bool) (A : Prop) : Prop := bif km then (bif b then A else False) else (b = true ∧ A)
theorem zMu {km b : Bool} {A : Prop} (h : andK km b A) : b = true ∧ A := by
 unfold andK at h
 cases km with
 | true => exact zAv h
 | false => exact h
def zJw (ia ib : Fs → (Ex → Fs → Prop) → Prop) : Operand → Fs → (Ex → Fs → Prop) → Prop
 | .tmp t, ⟨T, H, n, wr, df⟩, K => askB T t (fun T => ia ⟨T, H, n, wr, df⟩ K) (fun T => ib ⟨T, H, n, wr, df⟩ K) False
 | v, s, K => (match aev s.T v with | .bool t => bif okX g0 v then brK t (ia s K) (ib s K) else False | _ => False)
theorem zGr {ia ib : Fs → (Ex → Fs → Prop) → Prop} {v : Operand} (hv : ∀ t, v ≠ .tmp t) {s : Fs} {K : Ex → Fs → Prop} : zJw (g0 := g0) ia ib v s K = (match aev s.T v with | .bool t => bif okX g0 v then brK t (ia s K) (ib s K) else False | _ => False) := by
 cases v <;> first | rfl | exact absurd rfl (hv _)
noncomputable def sxRegS (ops : Array Oper) (d : Bool) (s : Fs) (K : Ex → Fs → Prop) : Prop :=
 bif d then (andK tb.km (regOk ops (preAll ops.toList [])) (frcLN (preAll ops.toList []) fun pre => frcLN (planOf ops pre) fun plan => zLc tb sy nt rd ops pre plan 0 true [] s (toK K .normal))) else sxOps tb sy nt rd ops (List.range ops.size) s (toK K)
noncomputable def sx (c : Code) : Fs → (Ex → Fs → Prop) → Prop :=
 @Code.rec (fun _ => Fs → (Ex → Fs → Prop) → Prop)
  (fun s K => K .normal s)
  (fun _ ops d s K => sxRegS tb sy nt rd ops d s K)
  (fun _ _ ia ib s K => ia s fun x s' => (match x with | .normal => ib s' K | x => K x s'))
  (fun v _ _ ia ib s K => zJw (g0 := g0) ia ib v s K)
  (fun id _ ib s K => ib s fun x s' => (match x with | .exit i => bif i.beq id then K .normal s' else K (.exit i) s' | x => K x s'))
  (fun b _ s K => LW P g0 k0 nt rd b s K)
  (fun g ps asg b _ _ s K => CW P g0 k0 nt rd (.rangeFunc g ps asg b) s K)
  (fun id s K => K (.exit id) s)
  (fun _ ib s K => ib s fun x s' => (match x with | .goto _ => False | x => K x s'))
  (fun _ s K => K .normal s)
  (fun _ _ _ => False)
  (fun s K => K .ret s)
  (fun _ _ _ => False) c
theorem zEa (hm : P.follows .mixedOrders = true) : ∀ (c : Code) (s : Fs) (K : Ex → Fs → Prop), sx tb sy k0 nt rd c s K → CW P g0 k0 nt rd c s K := by
 have leaf : ∀ (c : Code) (s : Fs) (x : Ex) (K : Ex → Fs → Prop), (∀ (E : Env) (Q : Exit → Act → World → Prop) (a : Act) (w : World), (∀ e, exR E x e → Q e a w) → c.wpIn (rdF E rd) 0 P Q a w) → K x s → CW P g0 k0 nt rd c s K := fun c s x K h hk _ h2 =>
  ⟨x, s, ⟨h2, .refl _ _, fun E a w hf => h E _ a w (fun e he => ⟨E, hf, he, .refl _ _ _ _⟩)⟩, hk⟩
 intro c
 induction c with
 | skip => intro s K h; exact leaf _ s .normal K (fun E Q a w h => wpIn_skip (h .normal trivial)) h
 | label l => intro s K h; exact leaf _ s .normal K (fun E Q a w h => wpIn_label (h .normal trivial)) h
 | exit id => intro s K h; exact leaf _ s (.exit id) K (fun E Q a w h => wpIn_exit (h (.exit id) rfl)) h
 | ret => intro s K h; exact leaf _ s .ret K (fun E Q a w h => wpIn_ret (h .ret trivial)) h
 | goto l => intro s K h; exact h.elim
 | refuse m => intro s K h; exact h.elim
 | rangeFunc g ps asg b => intro s K h; exact h
 | loop b _ =>
  intro s K h h1 h2
  obtain ⟨x, s', h3, h4⟩ := (show LW P g0 k0 nt rd b s K from h) h1 h2
  exact ⟨x, s', sem_loop h3, h4⟩
 | seq a b iha ihb =>
  intro s K h h1 h2
  obtain ⟨x, s1, h3, h4⟩ := iha s _ h h1 h2
  by_cases hx : x = .normal
  ·subst hx
   obtain ⟨x', s', h5, h6⟩ := ihb s1 K h4 h1 h3.1
   exact ⟨x', s', sem_seq h1 h3 h5, h6⟩
  ·exact ⟨x, s1, sem_seqX hx h3, by cases x <;> first | exact absurd rfl hx | exact h4⟩
 | cond v a b iha ihb =>
  intro s K h h1 h2
  have main : ∀ (s : Fs) (t : Bool), aev s.T v = .bool t → okX g0 v = true → (bif t then CW P g0 k0 nt rd a s K else CW P g0 k0 nt rd b s K) → k0 ≤ s.n → ∃ x s', Sem P g0 k0 nt rd (.cond v a b) s x s' ∧ K x s' := by
   intro s t hv hok h h2
   cases t
   ·obtain ⟨x, s', h3, h4⟩ := h h1 h2
    exact ⟨x, s', zRf hv hok h3, h4⟩
   ·obtain ⟨x, s', h3, h4⟩ := h h1 h2
    exact ⟨x, s', zRf hv hok h3, h4⟩
  have h : zJw (g0 := g0) (sx tb sy k0 nt rd a) (sx tb sy k0 nt rd b) v s K := h
  by_cases ht : ∃ t, v = .tmp t
  ·obtain ⟨t, rfl⟩ := ht
   obtain ⟨T, H, n, wr, df⟩ := s
   have h : askB T t (fun T => sx tb sy k0 nt rd a ⟨T, H, n, wr, df⟩ K) (fun T => sx tb sy k0 nt rd b ⟨T, H, n, wr, df⟩ K) False := h
   rcases zLm h with ⟨h3, h4⟩ | ⟨h3, h4⟩ | ⟨_, h4⟩
   ·exact main _ true (by simp [aev, h3]) rfl (iha _ K h4) h2
   ·exact main _ false (by simp [aev, h3]) rfl (ihb _ K h4) h2
   ·exact h4.elim
  ·rw [zGr (fun t e => ht ⟨t, e⟩)] at h
   split at h
   ·rename_i t hv
    obtain ⟨hok, h⟩ := zAv h
    refine main s t hv hok ?_ h2
    cases t
    ·exact ihb s K h
    ·exact iha s K h
   ·exact h.elim
 | block id b ih =>
  intro s K h h1 h2
  obtain ⟨x, s', h3, h4⟩ := ih s _ h h1 h2
  refine ⟨_, s', sem_block rfl h3, ?_⟩
  cases x with
  | exit i => simp only [] at h4 ⊢; cases hb : i.beq id <;> rw [hb] at h4 <;> exact h4
  | _ => exact h4
 | scope b ih =>
  intro s K h h1 h2
  obtain ⟨x, s', h3, h4⟩ := ih s _ h h1 h2
  refine ⟨x, s', sem_scope (fun l e => by subst e; exact h4) h3, ?_⟩
  cases x <;> first | exact h4 | exact h4.elim
 | region id ops d =>
  intro s K h h1 h2
  have h : sxRegS tb sy nt rd ops d s K := h
  unfold sxRegS at h
  cases d with
  | true =>
   simp only [cond_true] at h
   obtain ⟨hreg, h⟩ := zMu h
   rw [zCp, zCp] at h
   obtain ⟨s', h3, h4⟩ := zDd tb sy _ _ _ _ _ _ (fun _ r hr => by cases hr) h
   obtain ⟨h5, h7, h6⟩ := zRk h4
   exact ⟨.normal, s', zJr (zNb hm (tb.go_ok hm) hreg h3) h5 h7 h2, h6⟩
  | false =>
   simp only [cond_false] at h
   obtain ⟨x, s', h3, h4⟩ := zEr tb sy _ _ _ h
   obtain ⟨h5, h7, h6⟩ := zRk h4
   exact ⟨x, s', zJr (zIv (tb.go_ok hm) h3) h5 h7 h2, h6⟩
end
end Go.Proofs.Ytpdeidlkeplegaa
namespace Go.Proofs.Ytpdeidlkeplegaa
open Go.RowKit
def posN (k : Nat) : List Nat → Nat → Option Nat
 | [], _ => none
 | x :: l, i => bif k.beq x then some i else posN k l (i + 1)
def sg (k0 : Nat) (L : List Nat) (k : Nat) : Nat := bif Nat.blt k k0 then k else match posN k L k0 with | some i => i | none => JJ + k
def sgO (k0 : Nat) (L : List Nat) (k k' : Nat) : Prop := sg k0 L k = k'
def un (k0 : Nat) (L : List Nat) (k : Nat) : Nat := bif Nat.blt k k0 then k else match L[k - k0]? with | some x => x | none => k - JJ
theorem zBx {k : Nat} : ∀ {L : List Nat} {i j : Nat}, posN k L i = some j → i ≤ j ∧ j < i + L.length ∧ L[j - i]? = some k
 | x :: l, i, j, h => by
  unfold posN at h
  cases hb : k.beq x with
  | true =>
   rw [hb] at h
   have := Nat.eq_of_beq_eq_true hb
   simp at h; subst h; subst this
   exact ⟨Nat.le_refl _, by simp, by simp⟩
  | false =>
   rw [hb] at h
   obtain ⟨h1, h2, h3⟩ := zBx (L := l) h
   refine ⟨by omega, by simp; omega, ?_⟩
   rw [show j - i = (j - (i + 1)) + 1 by omega]; simpa using h3
theorem posN_at {k : Nat} : ∀ {L : List Nat} (_ : L.Nodup) {i j : Nat}, L[j]? = some k → posN k L i = some (i + j)
 | x :: l, hn, i, 0, h => by simp at h; subst h; simp [posN]
 | x :: l, hn, i, j + 1, h => by
  simp at h
  have hm : k ∈ l := List.mem_of_getElem? h
  have hne : k ≠ x := fun e => by subst e; exact (List.nodup_cons.1 hn).1 hm
  unfold posN
  have hb : k.beq x = false := by cases hb : k.beq x; rfl; exact absurd (Nat.eq_of_beq_eq_true hb) hne
  rw [hb]
  simp only [cond_false]
  rw [posN_at (List.nodup_cons.1 hn).2 h]
  congr 1; omega
section
variable {k0 : Nat} {L : List Nat}
theorem zKy {k : Nat} (h : k < k0) : sg k0 L k = k := by
 unfold sg; rw [show Nat.blt k k0 = true from Nat.ble_eq_true_of_le h]; rfl
theorem zDf {k : Nat} (h : k < k0) : un k0 L k = k := by
 unfold un; rw [show Nat.blt k k0 = true from Nat.ble_eq_true_of_le h]; rfl
theorem zAw {k k0 : Nat} (h : k0 ≤ k) : Nat.blt k k0 = false := by
 cases hb : Nat.blt k k0 with
 | false => rfl
 | true => have : k + 1 ≤ k0 := Nat.le_of_ble_eq_true hb; omega
theorem un_sg (_ : ∀ x ∈ L, k0 ≤ x) (hJ : k0 + L.length ≤ JJ) (k : Nat) : un k0 L (sg k0 L k) = k := by
 by_cases h : k < k0
 ·rw [zKy h, zDf h]
 ·unfold sg
  rw [zAw (by omega)]
  simp only [cond_false]
  cases hp : posN k L k0 with
  | some i =>
   obtain ⟨h1, h2, h3⟩ := zBx hp
   unfold un
   simp only [zAw h1, cond_false, h3]
  | none =>
   unfold un
   simp only []
   rw [zAw (by omega)]
   have : L[JJ + k - k0]? = none := List.getElem?_eq_none (by omega)
   simp [this]
theorem zGp (hL : ∀ x ∈ L, k0 ≤ x) (hn : L.Nodup) {k : Nat} (hk : k < k0 + L.length) : sg k0 L (un k0 L k) = k := by
 by_cases h : k < k0
 ·rw [zDf h, zKy h]
 ·unfold un
  rw [zAw (by omega)]
  have hl : k - k0 < L.length := by omega
  simp only [cond_false, List.getElem?_eq_getElem hl]
  have hx : k0 ≤ L[k - k0] := hL _ (List.getElem_mem hl)
  unfold sg
  rw [zAw hx]
  simp only [cond_false]
  rw [posN_at hn (j := k - k0) (List.getElem?_eq_getElem hl)]
  simp only []; omega
theorem zGi {k : Nat} (h : sg k0 L (un k0 L k) = k) (hk : k0 ≤ k) : (k < k0 + L.length ∨ JJ ≤ k) ∧ k0 ≤ un k0 L k := by
 have h' := h
 unfold sg at h
 by_cases hb : un k0 L k < k0
 ·rw [zKy hb] at h'; omega
 ·refine ⟨?_, by omega⟩
  rw [zAw (by omega)] at h
  simp only [cond_false] at h
  cases hp : posN (un k0 L k) L k0 with
  | some i => rw [hp] at h; simp only [] at h; subst h; exact .inl (zBx hp).2.1
  | none => rw [hp] at h; simp only [] at h; exact .inr (by omega)
end
mutual
inductive RV (σ : Nat → Nat → Prop) : Value → Value → Prop
 | bool (b : Bool) : RV σ (.bool b) (.bool b)
 | int (k : IntKind) (n : Int) : RV σ (.int k n) (.int k n)
 | float (k : FloatKind) (b : Nat) : RV σ (.float k b) (.float k b)
 | string (s : ByteArray) : RV σ (.string s) (.string s)
 | pnil : RV σ (.pointer none) (.pointer none)
 | ptr (b o b' : Nat) (h : σ b b') : RV σ (.pointer (some ⟨b, o, none⟩)) (.pointer (some ⟨b', o, none⟩))
 | snil (l c : Nat) : RV σ (.slice none l c) (.slice none l c)
 | sl (b o n c b' : Nat) (h : σ b b') : RV σ (.slice (some ⟨b, o, none⟩) n c) (.slice (some ⟨b', o, none⟩) n c)
 | mnil : RV σ (.map none) (.map none)
 | map (b b' : Nat) (h : σ b b') : RV σ (.map (some b)) (.map (some b'))
 | func (fn : Fn) (q q' cs cs' : Array Value) (hf : plainFn fn = true) (ha : RL σ q.toList q'.toList) (hc : RL σ cs.toList cs'.toList) : RV σ (.func fn q cs) (.func fn q' cs')
 | yield (l l' : Nat) (h : σ l l') : RV σ (.func (.yield l) #[] #[]) (.func (.yield l') #[] #[])
 | fnil : RV σ .nilFunc .nilFunc
 | iface (t : TypeId) (v v' : Value) (h : RV σ v v') : RV σ (.iface t v) (.iface t v')
 | inil : RV σ .nilIface .nilIface
 | agg (a a' : Array Value) (h : RL σ a.toList a'.toList) : RV σ (.agg a) (.agg a')
 | tuple (a a' : Array Value) (h : RL σ a.toList a'.toList) : RV σ (.tuple a) (.tuple a')
 | ub (t : TypeId) : RV σ (.chan (some t)) (.chan (some t))
 | any : RV σ (.chan none) (.chan none)
 | deep (t : TypeId) (p : Array FieldStep) (n : FuncId) (q : Bool) (f c : Array Value) : RV σ (.func (.via t p n q) f c) (.func (.via t p n q) f c)
inductive RL (σ : Nat → Nat → Prop) : List Value → List Value → Prop
 | nil : RL σ [] []
 | cons (v v' : Value) (l l' : List Value) (h : RV σ v v') (t : RL σ l l') : RL σ (v :: l) (v' :: l')
end
structure EnvMap (σ : Nat → Nat → Prop) (E E2 : Env) : Prop where
 nm : ∀ b b', σ b b' → E.dom b → E2.dom b' ∧ E2.ρ b' = E.ρ b ∧ E2.tot b' = E.tot b ∧ E2.sz b' = E.sz b ∧ E2.sh b' = E.sh b
 fz : ∀ b ob, E.fz b = some ob → E2.fz b = some ob
def Env.anew (E : Env) (k0 : Nat) (L : List Nat) : Env := ⟨fun k => E.dom (un k0 L k) ∧ sg k0 L (un k0 L k) = k, fun k => E.ρ (un k0 L k), fun k => E.tot (un k0 L k), fun k => E.sz (un k0 L k), fun k => E.sh (un k0 L k), fun k => E.ro (un k0 L k), E.fz⟩
theorem anew_map {E : Env} {k0 : Nat} {L : List Nat} (hu : ∀ k, un k0 L (sg k0 L k) = k) : EnvMap (sgO k0 L) E (E.anew k0 L) := ⟨fun b b' e hd => by
 cases e
 refine ⟨⟨by rw [hu]; exact hd, by rw [hu]⟩, ?_, ?_, ?_, ?_⟩ <;> simp only [Env.anew, hu], fun _ _ h => h⟩
mutual
theorem RV.vr {σ : Nat → Nat → Prop} {E E2 : Env} (m : EnvMap σ E E2) {v v1 x : Value} (h : VR E v x) (r : RV σ v v1) : VR E2 v1 x := by
 cases h with
 | bool b => cases r; exact .bool b
 | int k n => cases r; exact .int k n
 | float k b => cases r; exact .float k b
 | string s => cases r; exact .string s
 | pnil => cases r; exact .pnil
 | ptr b o hb => cases r with | ptr _ _ b' e => obtain ⟨m1, m2, m3, m4, m5⟩ := m.nm b b' e hb; rw [← m2, ← m5]; exact .ptr _ o m1
 | snil l c => cases r; exact .snil l c
 | sl b o n c hb hc => cases r with | sl _ _ _ _ b' e => obtain ⟨m1, m2, m3, m4, m5⟩ := m.nm b b' e hb; rw [← m2, ← m5]; exact .sl _ o n c m1 hc
 | su b o n c hb h1 h2 h3 => cases r with | sl _ _ _ _ b' e => obtain ⟨m1, m2, m3, m4, m5⟩ := m.nm b b' e hb; rw [← m2, ← m5]; exact .su _ o n c m1 h1 h2 (by rw [m4, m3]; exact h3)
 | se b o c a' hb ha hc => cases r with | sl _ _ _ _ b' e => obtain ⟨m1, m2, m3, m4⟩ := m.nm b b' e hb; exact .se _ o c a' m1 ha (by rw [m3]; exact hc)
 | mnil => cases r; exact .mnil
 | map b hb => cases r with | map _ b' e => obtain ⟨m1, m2, m3, m4⟩ := m.nm b b' e hb; rw [← m2]; exact .map _ m1
 | func fn q q' cs cs' hf ha hc =>
  cases r with
  | func _ _ a2 _ c2 _ ra rc => exact .func fn _ _ _ _ hf (RL.vl m ha ra) (RL.vl m hc rc)
  | yield _ _ _ => simp [plainFn] at hf
  | deep => simp [plainFn] at hf
 | yield l hl =>
  cases r with
  | func _ _ _ _ _ hf _ _ => simp [plainFn] at hf
  | yield _ l' e => obtain ⟨m1, m2, m3, m4⟩ := m.nm l l' e hl; rw [← m2]; exact .yield _ m1
 | fnil => cases r; exact .fnil
 | iface t v v' h => cases r with | iface _ _ v2 hr => exact .iface t _ _ (RV.vr m h hr)
 | inil => cases r; exact .inil
 | agg a a' h => cases r with | agg _ a2 hr => exact .agg _ _ (RL.vl m h hr)
 | tuple a a' h => cases r with | tuple _ a2 hr => exact .tuple _ _ (RL.vl m h hr)
 | ub t a => cases r; exact .ub t a
 | any _ h => cases r; exact .any _ h
 | deep t p n q f c v' h =>
  cases r with
  | func _ _ _ _ _ hf _ _ => simp [plainFn] at hf
  | deep => exact .deep t p n q f c _ (h.mono m.fz)
theorem RL.vl {σ : Nat → Nat → Prop} {E E2 : Env} (m : EnvMap σ E E2) {l l1 x : List Value} (h : VL E l x) (r : RL σ l l1) : VL E2 l1 x := by
 cases h with
 | nil => cases r; exact .nil
 | cons v v' l l' h t => cases r with | cons _ v2 _ l2 rv rl => exact .cons _ _ _ _ (RV.vr m h rv) (RL.vl m t rl)
end
mutual
theorem VR.ren {E : Env} (k0 : Nat) (L : List Nat) {v x : Value} (h : VR E v x) : ∃ v1, RV (sgO k0 L) v v1 := by
 cases h with
 | bool b => exact ⟨_, .bool b⟩
 | int k n => exact ⟨_, .int k n⟩
 | float k b => exact ⟨_, .float k b⟩
 | string s => exact ⟨_, .string s⟩
 | pnil => exact ⟨_, .pnil⟩
 | ptr b o hb => exact ⟨_, .ptr b o _ rfl⟩
 | snil l c => exact ⟨_, .snil l c⟩
 | sl b o n c hb hc => exact ⟨_, .sl b o n c _ rfl⟩
 | su b o n c hb h1 h2 h3 => exact ⟨_, .sl b o n _ _ rfl⟩
 | se b o c a' hb ha hc => exact ⟨_, .sl b o 0 c _ rfl⟩
 | mnil => exact ⟨_, .mnil⟩
 | map b hb => exact ⟨_, .map b _ rfl⟩
 | func fn q q' cs cs' hf ha hc =>
  obtain ⟨a2, h2⟩ := VL.ren k0 L ha
  obtain ⟨c2, h3⟩ := VL.ren k0 L hc
  exact ⟨_, .func fn q a2.toArray cs c2.toArray hf h2 h3⟩
 | yield l hl => exact ⟨_, .yield l _ rfl⟩
 | fnil => exact ⟨_, .fnil⟩
 | iface t v v' h => obtain ⟨v2, h2⟩ := VR.ren k0 L h; exact ⟨_, .iface t v v2 h2⟩
 | inil => exact ⟨_, .inil⟩
 | agg a a' h => obtain ⟨a2, h2⟩ := VL.ren k0 L h; exact ⟨_, .agg a a2.toArray h2⟩
 | tuple a a' h => obtain ⟨a2, h2⟩ := VL.ren k0 L h; exact ⟨_, .tuple a a2.toArray h2⟩
 | ub t a => exact ⟨_, .ub t⟩
 | any _ h => exact ⟨_, .any⟩
 | deep t p n q f c v' h => exact ⟨_, .deep t p n q f c⟩
theorem VL.ren {E : Env} (k0 : Nat) (L : List Nat) {l x : List Value} (h : VL E l x) : ∃ l1, RL (sgO k0 L) l l1 := by
 cases h with
 | nil => exact ⟨[], .nil⟩
 | cons v v' l l' h t =>
  obtain ⟨v2, h2⟩ := VR.ren k0 L h
  obtain ⟨l2, h3⟩ := VL.ren k0 L t
  exact ⟨v2 :: l2, .cons _ _ _ _ h2 h3⟩
end
open Classical in
noncomputable def renC (k0 : Nat) (L : List Nat) (v : Value) : Value := if h : ∃ v1, RV (sgO k0 L) v v1 then h.choose else v
theorem zJp {E : Env} {k0 : Nat} {L : List Nat} {v x : Value} (h : VR E v x) : RV (sgO k0 L) v (renC k0 L v) := by
 have := VR.ren k0 L h
 unfold renC
 rw [dif_pos this]; exact this.choose_spec
theorem zBf {σ : Nat → Nat → Prop} : ∀ (n : Nat) {v : Value}, plainV n v = true → RV σ v v := by
 intro n
 induction n with
 | zero =>
  intro v hp
  cases v with
  | bool b => exact .bool b
  | int k n => exact .int k n
  | float k b => exact .float k b
  | string s => exact .string s
  | pointer a => cases a with | none => exact .pnil | some a => simp [plainV] at hp
  | slice a l c => cases a with | none => exact .snil l c | some a => simp [plainV] at hp
  | map r => cases r with | none => exact .mnil | some a => simp [plainV] at hp
  | nilFunc => exact .fnil
  | nilIface => exact .inil
  | _ => simp [plainV] at hp
 | succ n ih =>
  have key : ∀ {l : List Value}, l.all (plainV n) = true → RL σ l l := by
   intro l
   induction l with
   | nil => intro _; exact .nil
   | cons v l ihl => intro hp; simp only [List.all_cons, Bool.and_eq_true] at hp; exact .cons _ _ _ _ (ih hp.1) (ihl hp.2)
  intro v hp
  cases v with
  | bool b => exact .bool b
  | int k n => exact .int k n
  | float k b => exact .float k b
  | string s => exact .string s
  | pointer a => cases a with | none => exact .pnil | some a => simp [plainV] at hp
  | slice a l c => cases a with | none => exact .snil l c | some a => simp [plainV] at hp
  | map r => cases r with | none => exact .mnil | some a => simp [plainV] at hp
  | nilFunc => exact .fnil
  | nilIface => exact .inil
  | iface t v => simp only [plainV] at hp; exact .iface _ _ _ (ih hp)
  | agg a => simp only [plainV] at hp; exact .agg _ _ (key hp)
  | tuple a => simp only [plainV] at hp; exact .tuple _ _ (key hp)
  | _ => simp [plainV] at hp
theorem zIj {σ : Nat → Nat → Prop} {l : List Value} (h : plainL l = true) : RL σ l l := by
 induction l with
 | nil => exact .nil
 | cons v l ih => simp only [plainL, List.all_cons, Bool.and_eq_true] at h; exact .cons _ _ _ _ (zBf 8 h.1) (ih h.2)
mutual
theorem RV.det {σ : Nat → Nat → Prop} (hf : ∀ b x y, σ b x → σ b y → x = y) {u v v2 : Value} (h : RV σ u v) (k : RV σ u v2) : v = v2 := by
 cases h with
 | bool b => cases k; rfl
 | int k n => cases k; rfl
 | float k b => cases k; rfl
 | string s => cases k; rfl
 | pnil => cases k; rfl
 | ptr b o b' e => cases k with | ptr _ _ b2 e2 => rw [hf _ _ _ e e2]
 | snil l c => cases k; rfl
 | sl b o n c b' e => cases k with | sl _ _ _ _ b2 e2 => rw [hf _ _ _ e e2]
 | mnil => cases k; rfl
 | map b b' e => cases k with | map _ b2 e2 => rw [hf _ _ _ e e2]
 | func fn q q' cs cs' hff ha hc =>
  cases k with
  | func _ _ a2 _ c2 _ ra rc => rw [Array.ext' (RL.det hf ha ra), Array.ext' (RL.det hf hc rc)]
  | yield _ _ _ => first | (simp [plainFn] at hff; done) | (rename_i hx _ _; simp [plainFn] at hx; done) | simp_all [plainFn]
  | deep => simp [plainFn] at hff
 | yield l l' e =>
  cases k with
  | func _ _ _ _ _ hf _ _ => first | (simp [plainFn] at hff; done) | (rename_i hx _ _; simp [plainFn] at hx; done) | simp_all [plainFn]
  | yield _ l2 e2 => rw [hf _ _ _ e e2]
 | fnil => cases k; rfl
 | iface t v v' h => cases k with | iface _ _ v2 hr => rw [RV.det hf h hr]
 | inil => cases k; rfl
 | agg a a' h => cases k with | agg _ a2 hr => rw [Array.ext' (RL.det hf h hr)]
 | tuple a a' h => cases k with | tuple _ a2 hr => rw [Array.ext' (RL.det hf h hr)]
 | ub t => cases k; rfl
 | any => cases k; rfl
 | deep => 
  cases k with
  | func _ _ _ _ _ hf _ _ => simp [plainFn] at hf
  | deep => rfl
theorem RL.det {σ : Nat → Nat → Prop} (hf : ∀ b x y, σ b x → σ b y → x = y) {u v v2 : List Value} (h : RL σ u v) (k : RL σ u v2) : v = v2 := by
 cases h with
 | nil => cases k; rfl
 | cons a b l l' h t => cases k with | cons _ b2 _ l2 hr rt => rw [RV.det hf h hr, RL.det hf t rt]
end
def Tr.map {α β : Type} (f : α → β) : Tr α → Tr β
 | .e => .e
 | .n l v r => .n (l.map f) (v.map f) (r.map f)
theorem Tr.get_map {α β : Type} (f : α → β) : ∀ (t : Tr α) (k : Nat), (t.map f).get k = (t.get k).map f
 | .e, _ => rfl
 | .n l v r, k => by
  simp only [Tr.map, Tr.get_n]
  by_cases h : k = 0
  ·simp [h]
  ·by_cases h2 : k % 2 = 1
   ·simp only [h, h2, if_true, if_false]; exact Tr.get_map f l _
   ·simp only [h, h2, if_false]; exact Tr.get_map f r _
def over {α : Type} : Tr α → List (Nat × α) → Tr α
 | J, [] => J
 | J, (t, v) :: l => over (J.set t (some v)) l
theorem zIi {α : Type} : ∀ (l : List (Nat × α)) (J : Tr α) (t : Nat), (∃ v, (t, v) ∈ l ∧ (over J l).get t = some v) ∨ (over J l).get t = J.get t
 | [], J, t => .inr rfl
 | (s, v) :: l, J, t => by
  rcases zIi l (J.set s (some v)) t with ⟨u, h1, h2⟩ | h
  ·exact .inl ⟨u, by simp [h1], h2⟩
  ·by_cases e : t = s
   ·subst e; rw [Tr.get_set_self] at h; exact .inl ⟨v, by simp, h⟩
   ·rw [Tr.get_set_ne _ _ e] at h; exact .inr h
def Slots (σ : Nat → Nat → Prop) (T : Tr Value) : List (Nat × Value) → Prop
 | [] => True
 | (t, v) :: l => (∃ u, T.get t = some u ∧ RV σ u v) ∧ Slots σ T l
theorem Slots.mem {σ : Nat → Nat → Prop} {T : Tr Value} : ∀ {l : List (Nat × Value)}, Slots σ T l → ∀ t v, (t, v) ∈ l → ∃ u, T.get t = some u ∧ RV σ u v
 | (s, u) :: l, h, t, v, hm => by
  rcases List.mem_cons.1 hm with e | e
  ·cases e; exact h.1
  ·exact Slots.mem h.2 t v e
inductive RM (σ : Nat → Nat → Prop) : List MapEntry → List MapEntry → Prop
 | nil : RM σ [] []
 | cons (e e' : MapEntry) (l l' : List MapEntry) (hk : RV σ e.key e'.key) (hv : RV σ e.val e'.val) (t : RM σ l l') : RM σ (e :: l) (e' :: l')
theorem RM.ml {σ : Nat → Nat → Prop} {E E2 : Env} (m : EnvMap σ E E2) {l x : List MapEntry} (h : ML E l x) {l1 : List MapEntry} (r : RM σ l l1) : ML E2 l1 x := by
 induction h generalizing l1 with
 | nil => cases r; exact .nil
 | cons e e' l l' hk hv t ih => cases r with | cons _ e2 _ l2 rk rv rt => exact .cons _ _ _ _ (RV.vr m hk rk) (RV.vr m hv rv) (ih rt)
inductive RO (P : Program) (σ : Nat → Nat → Prop) : AObj → AObj → Prop
 | cells (c : List Value) (d : List Empty) (c' : List Value) (e : TypeId) (h : RL σ c c') : RO P σ (.cells c e) (.cells c' e)
 | map (es es' : List MapEntry) (k : Nat) (h : RM σ es es') : RO P σ (.map es k) (.map es' k)
 | loop (r : ALoop) (lv : List (Nat × Value)) (d k0 : Nat) (L : List Nat) (hs : σ = sgO k0 L) (hd : σ r.defs d) (h : Slots σ r.T lv) : RO P σ (.loop r) (.loop { r with T := over (r.T.map (renC k0 L)) lv, defs := d })
 | defs : RO P σ .defs .defs
 | it (s : ByteArray) (p : Nat) : RO P σ (.it s p) (.it s p)
 | win (c d c' : List Value) (z : Nat) (h : RL σ c c') : RO P σ (.win (c ++ d) z) (.win c' z)
 | view (c d c' : List Value) (e : TypeId) (z : Nat) (h : RL σ c c') (hz : (P.info? e).map (·.size) = some z) : RO P σ (.cells (c ++ d) e) (.win c' z)
theorem RO.no {P : Program} {σ : Nat → Nat → Prop} {o o1 : AObj} (r : RO P σ o o1) (h : ¬ o1.isWin) : ¬ o.isWin := by
 cases r <;> first | exact fun x => x | exact (h trivial).elim
theorem RO.yes {P : Program} {σ : Nat → Nat → Prop} {o o1 : AObj} (r : RO P σ o o1) (h : o.isWin) : o1.isWin := by
 cases r <;> first | exact trivial | exact h.elim
theorem RO.same {P : Program} {σ : Nat → Nat → Prop} {c : List Value} {e : TypeId} (h : plainL c = true) : RO P σ (.cells c e) (.cells c e) := RO.cells c [] c e (zIj h)
theorem RO.sameW {P : Program} {σ : Nat → Nat → Prop} {c : List Value} {z : Nat} (h : plainL c = true) : RO P σ (.win c z) (.win c z) := by
 have := RO.win (P := P) (σ := σ) c [] c z (zIj h)
 rwa [List.append_nil] at this
theorem RO.sameV {P : Program} {σ : Nat → Nat → Prop} {c : List Value} {e : TypeId} {z : Nat} (h : plainL c = true) (hz : (P.info? e).map (·.size) = some z) : RO P σ (.cells c e) (.win c z) := by
 have := RO.view (P := P) (σ := σ) c [] c e z (zIj h) hz
 rwa [List.append_nil] at this
theorem RL.length {σ : Nat → Nat → Prop} : ∀ {l l' : List Value}, RL σ l l' → l'.length = l.length
 | _, _, .nil => rfl
 | _, _, .cons _ _ _ _ _ t => by simp [RL.length t]
theorem TR.ren {E E2 : Env} {k0 : Nat} {L : List Nat} (m : EnvMap (sgO k0 L) E E2) {T : Tr Value} {nt : Nat} {a : Array Value} (h : TR E T nt a) {lv : List (Nat × Value)} (hs : Slots (sgO k0 L) T lv) : TR E2 (over (T.map (renC k0 L)) lv) nt a := by
 refine ⟨h.1, fun t => ?_⟩
 have ht := h.2 t
 rcases zIi lv (T.map (renC k0 L)) t with ⟨v, h1, h2⟩ | h1
 ·obtain ⟨u, hu', hr⟩ := hs.mem t v h1
  rw [h2]
  rw [hu'] at ht
  exact RV.vr m ht hr
 ·rw [h1, Tr.get_map]
  cases hg : T.get t with
  | none => rw [hg] at ht; exact RV.vr m ht (.tuple _ _ .nil)
  | some v => rw [hg] at ht; exact RV.vr m ht (zJp ht)
theorem OR.ren {P : Program} {σ : Nat → Nat → Prop} {E E2 : Env} (m : EnvMap σ E E2) {w : World} {b k : Nat} (hb : σ b k) (hd : E.dom b) {o o1 : AObj} (h : OR P E w b o) (r : RO P σ o o1) : OR P E2 w k o1 := by
 obtain ⟨_, eρ, et, es, eh⟩ := m.nm b k hb hd
 cases r with
 | cells c d c' e hr =>
  obtain ⟨arr, fr, h1, h2, h3, h4, h5, h6, h7⟩ := h
  have hl := hr.length
  refine ⟨arr, fr, by rw [eρ]; exact h1, h2, by rw [et]; exact h3, by rw [es]; exact h4, by omega, ?_, by rw [eh]; exact h7.1, by rw [hl]; exact h7.2⟩
  rw [hl]
  exact RL.vl m h6 hr
 | map es' es2 ck hr =>
  obtain ⟨es3, h1, h2⟩ := h
  exact ⟨es3, by rw [eρ]; exact h1, h2.perm.elim fun l ⟨q1, q2⟩ => ⟨l, q1, RM.ml m q2 hr⟩, h2.lt, h2.nd⟩
 | loop r lv d k0 L hs' hd' hs =>
  obtain ⟨tm, fn, h1, h2, h3⟩ := h
  subst hs'
  obtain ⟨m1, m2, _, _, _⟩ := m.nm _ _ hd' h3
  exact ⟨tm, fn, by rw [eρ, m2]; exact h1, h2.ren m hs, m1⟩
 | defs => show _ = _; rw [eρ]; exact h
 | it s p => show _ = _; rw [eρ]; exact h
 | win c d c' z hr =>
  obtain ⟨h0, l, h1, h2, h3⟩ := h
  have hl := hr.length
  rw [List.length_append] at h1
  have ht := h2.take c.length
  rw [List.take_left] at ht
  refine ⟨by rw [es]; exact h0, l.take c.length, by rw [List.length_take, hl]; omega, RL.vl m ht hr, fun j v hj => ?_⟩
  have hlt : j < c.length := by have := (List.getElem?_eq_some_iff.1 hj).1; simp at this; omega
  rw [List.getElem?_take_of_lt hlt] at hj
  rw [eρ, eh]; exact h3 j v hj
 | view c d c' e z hr hz =>
  have h4 : (P.info? e).map (·.size) = some (E.sz b) := by obtain ⟨arr, fr, _, _, _, h4, _⟩ := h; exact h4
  obtain ⟨l, h1, h2, h3⟩ := h.look rfl
  have hl := hr.length
  rw [List.length_append] at h1
  have ht := h2.take c.length
  rw [List.take_left] at ht
  refine ⟨by rw [es]; rw [hz] at h4; exact (Option.some.inj h4).symm, l.take c.length, by rw [List.length_take, hl]; omega, RL.vl m ht hr, fun j v hj => ?_⟩
  have hlt : j < c.length := by have := (List.getElem?_eq_some_iff.1 hj).1; simp at this; omega
  rw [List.getElem?_take_of_lt hlt] at hj
  rw [eρ, eh]; exact h3 j v hj
inductive RD (σ : Nat → Nat → Prop) : List ADf → List ADf → Prop
 | nil : RD σ [] []
 | mark (d d' : Nat) (l l' : List ADf) (h : σ d d') (t : RD σ l l') : RD σ (.mark d :: l) (.mark d' :: l')
 | fn (f : FuncId) (cap args cap' args' : List Value) (l l' : List ADf) (hc : RL σ cap cap') (ha : RL σ args args') (t : RD σ l l') : RD σ (.call f cap args :: l) (.call f cap' args' :: l')
theorem RD.dr {σ : Nat → Nat → Prop} {E E2 : Env} (m : EnvMap σ E E2) {l : List ADf} {x : List Deferred} (h : DR E l x) {l1 : List ADf} (r : RD σ l l1) : DR E2 l1 x := by
 induction h generalizing l1
 ·cases r; exact .nil
 ·rename_i d l l' hd t ih
  cases r with | mark _ d' _ _ e rt => obtain ⟨m1, m2, _, _, _⟩ := m.nm _ _ e hd; rw [← m2]; exact .mark _ _ _ m1 (ih rt)
 ·rename_i f cap args cap' args' l l' hc ha t ih
  cases r with | fn _ _ _ c2 a2 _ _ rc ra rt => exact .call f _ _ _ _ _ _ (RL.vl m hc rc) (RL.vl m ha ra) (ih rt)
def Blocks (P : Program) (σ : Nat → Nat → Prop) (τ : Nat → Nat) (m : Nat) (H H' : Tr AObj) : Prop := ∀ k o, H'.get k = some o → k < m ∧ ∃ o1, H.get (τ k) = some o1 ∧ RO P σ o1 o
theorem rc_mk {P : Program} {g0 k0 nt : Nat} {rd : Option Nat} {s : Fs} (L : List Nat) (lv : List (Nat × Value)) (H : Tr AObj) (W : List Nat) (df : List ADf) (_ : k0 ≤ s.n) (hg : g0 ≤ k0) (hrd : ∀ l, rd = some l → l < k0) (hn : L.Nodup) (hL : ∀ x ∈ L, k0 ≤ x ∧ x < JJ) (hJ : k0 + L.length ≤ JJ)
  (hW : subW k0 s.wr W) (hS : Slots (sgO k0 L) s.T lv) (hB : Blocks P (sgO k0 L) (un k0 L) (k0 + L.length) s.H H) (hD : RD (sgO k0 L) s.df df) :
  RcM P g0 k0 nt rd s ⟨over (s.T.map (renC k0 L)) lv, H, k0 + L.length, W, df⟩ := by
 have hL' : ∀ x ∈ L, k0 ≤ x := fun x hx => (hL x hx).1
 have hu := un_sg hL' hJ
 have hm := fun E => anew_map (E := E) hu
 refine ⟨Nat.le_add_right _ _, hW, fun E a w hf => ⟨E.anew k0 L, ⟨hf.tr.ren (hm E) hS, ⟨fun k hd => hf.hr.lt _ hd.1, fun k hd => ?_, fun k o ho => ?_, fun i j hi hj hro e => ?_, fun k o ho hr => ?_, hf.hr.fz, fun i hi hr => ?_, hf.hr.pos⟩, fun k hk' => ?_, RD.dr (hm E) hf.df hD, fun g hg' => ?_, fun l hl => ?_, fun k hd => ?_⟩,
  ⟨fun i hi => ?_, fun i hi _ => ?_, fun i hi _ => ?_, fun i hi _ => ?_, fun i hi _ => ?_, fun i hi _ => ?_, fun hn i hi hiJ hd => ?_, rfl, rfl, rfl, Nat.le_refl _, fun _ _ _ => rfl, fun i hi hiJ hd => .inr ⟨un k0 L i, ⟨hd.1, ?_, fun h => ?_⟩, rfl⟩, fun _ _ h => h, fun _ _ h => .inl h⟩⟩⟩
 ·cases hg' : H.get k with
  | none => rfl
  | some o =>
   obtain ⟨h1, o1, h2, _⟩ := hB k o hg'
   exact absurd ⟨hf.hr.live (by rw [h2]; simp), zGp hL' hn h1⟩ hd
 ·obtain ⟨h1, o1, h2, h3⟩ := hB k o ho
  exact (hf.hr.obj _ _ h2).ren (hm E) (by unfold sgO; rw [zGp hL' hn h1]) (hf.hr.live (by rw [h2]; simp)) h3
 ·have key : ∀ i, H.get i ≠ none → i < k0 + L.length ∧ s.H.get (un k0 L i) ≠ none := fun i hi => by
   cases hg' : H.get i with
   | none => exact absurd hg' hi
   | some o => obtain ⟨h1, o1, h2, _⟩ := hB i o hg'; exact ⟨h1, by rw [h2]; simp⟩
  have e2 := hf.hr.inj _ _ (key i hi).2 (key j hj).2 hro e
  rw [← zGp hL' hn (key i hi).1, e2, zGp hL' hn (key j hj).1]
 ·obtain ⟨h1, o1, h2, h3⟩ := hB k o ho
  exact h3.yes (hf.hr.ro _ o1 h2 hr)
 ·cases hg' : H.get i with
  | none => exact absurd hg' hi
  | some o => obtain ⟨h1, o1, h2, _⟩ := hB i o hg'; exact hf.hr.fn _ (by rw [h2]; simp) hr
 ·cases hg' : H.get k with
  | none => rfl
  | some o => have := (hB k o hg').1; have hk'' : k0 + L.length ≤ k := hk'; omega
 ·obtain ⟨h1, h2⟩ := hf.gl g hg'
  have hlt : g < k0 := by omega
  refine ⟨⟨by rw [zDf hlt]; exact h1, by rw [zDf hlt, zKy hlt]⟩, ?_⟩
  show E.ρ (un k0 L g) = g ∧ E.sh (un k0 L g) = 0
  rw [zDf hlt]; exact h2
 ·have hlt := hrd l hl
  exact ⟨by rw [zDf hlt]; exact hf.rd l hl, by rw [zDf hlt, zKy hlt]⟩
 ·by_cases h : k < k0
  ·exact .inl (Nat.lt_of_lt_of_le h (Nat.le_add_right _ _))
  ·exact (zGi hd.2 (by omega)).1
 ·show (E.dom (un k0 L i) ∧ _) ↔ _
  rw [zDf hi, zKy hi]; exact ⟨fun h => h.1, fun h => ⟨h, rfl⟩⟩
 ·show E.ρ (un k0 L i) = _; rw [zDf hi]
 ·show E.tot (un k0 L i) = _; rw [zDf hi]
 ·show E.sz (un k0 L i) = _; rw [zDf hi]
 ·show E.sh (un k0 L i) = _; rw [zDf hi]
 ·show E.ro (un k0 L i) ↔ _; rw [zDf hi]
 ·rcases (zGi hd.2 hi).1 with h | h
  ·refine hn _ (zGi hd.2 hi).2 ?_ hd.1
   unfold un
   rw [zAw hi]
   simp only [cond_false, List.getElem?_eq_getElem (show i - k0 < L.length by omega)]
   exact (hL _ (List.getElem_mem _)).2
  ·omega
 ·rcases (zGi hd.2 hi).1 with h | h
  ·unfold un
   rw [zAw hi]
   simp only [cond_false, List.getElem?_eq_getElem (show i - k0 < L.length by omega)]
   exact (hL _ (List.getElem_mem _)).2
  ·omega
 ·have := (zGi hd.2 hi).2; omega
end Go.Proofs.Ytpdeidlkeplegaa
namespace Go.Proofs.Ytpdeidlkeplegaa
open Go.RowKit
def caR (A : List Nat) (b k : Nat) : Prop := A[k]? = some b
def Env.call (E : Env) (A : List Nat) (H0 : Tr AObj) : Env := ⟨fun k => ∃ j, A[k]? = some j ∧ E.dom j, fun k => E.ρ (A.getD k 0), fun k => E.tot (A.getD k 0), fun k => E.sz (A.getD k 0), fun k => E.sh (A.getD k 0), fun k => ∃ o, H0.get k = some o ∧ o.isWin, E.fz⟩
theorem zLr {E : Env} {A : List Nat} {H0 : Tr AObj} : EnvMap (caR A) E (E.call A H0) := ⟨fun b k e hd => by
 have e' : A[k]? = some b := e
 have : A.getD k 0 = b := by rw [List.getD_eq_getElem?_getD, e']; rfl
 refine ⟨⟨b, e', hd⟩, ?_, ?_, ?_, ?_⟩ <;> simp only [Env.call, this], fun _ _ h => h⟩
def CallB (P : Program) (A : List Nat) (H H0 : Tr AObj) : Prop := ∀ k o, H0.get k = some o → ∃ j o1, A[k]? = some j ∧ H.get j = some o1 ∧ RO P (caR A) o1 o
def DupOK (A : List Nat) (H0 : Tr AObj) : Prop := ∀ i j o, i ≠ j → i < A.length → A[i]? = A[j]? → H0.get i = some o → o.isWin
theorem zBi {A : List Nat} {H0 : Tr AObj} (h : A.Nodup) : DupOK A H0 := fun _ _ _ hij hi e _ => absurd ((List.getElem?_inj hi h).1 e) hij
theorem hr_call {P : Program} {E : Env} {A : List Nat} {w : World} {H H0 : Tr AObj} (hA : DupOK A H0) (hB : CallB P A H H0) (h : HR P E H.get w) : HR P (E.call A H0) H0.get w := by
 have gd : ∀ k j, A[k]? = some j → A.getD k 0 = j := fun k j e => by rw [List.getD_eq_getElem?_getD, e]; rfl
 have half : ∀ i j, H0.get i ≠ none → H0.get j ≠ none → ¬ (E.call A H0).ro i → E.ρ (A.getD i 0) = E.ρ (A.getD j 0) → i = j := fun i j hi hj hro e => by
  cases hgi : H0.get i with
  | none => exact absurd hgi hi
  | some oi =>
   cases hgj : H0.get j with
   | none => exact absurd hgj hj
   | some oj =>
    obtain ⟨a, o1, e1, e2, e3⟩ := hB i oi hgi
    obtain ⟨b, o2, f1, f2, f3⟩ := hB j oj hgj
    have hnw : ¬ oi.isWin := fun x => hro ⟨oi, hgi, x⟩
    rw [gd i a e1, gd j b f1] at e
    have hab := h.inj a b (by rw [e2]; simp) (by rw [f2]; simp) (.inl fun x => e3.no hnw (h.ro a o1 e2 x)) e
    subst hab
    exact Classical.byContradiction fun hij => hnw (hA i j oi hij (List.getElem?_eq_some_iff.1 e1).1 (e1.trans f1.symm) hgi)
 refine ⟨fun k hd => ?_, fun k hd => ?_, fun k o ho => ?_, fun i j hi hj hro e => ?_, fun k o ho hr => ?_, h.fz, fun i hi hr => ?_, h.pos⟩
 ·obtain ⟨j, e1, e2⟩ := hd
  show E.ρ (A.getD k 0) < _
  rw [gd k j e1]; exact h.lt j e2
 ·cases hg' : H0.get k with
  | none => rfl
  | some o =>
   obtain ⟨j, o1, e1, e2, _⟩ := hB k o hg'
   exact absurd ⟨j, e1, h.live (by rw [e2]; simp)⟩ hd
 ·obtain ⟨j, o1, e1, e2, e3⟩ := hB k o ho
  exact (h.obj j o1 e2).ren zLr e1 (h.live (by rw [e2]; simp)) e3
 ·rcases hro with hr | hr
  ·exact half i j hi hj hr e
  ·exact (half j i hj hi hr e.symm).symm
 ·obtain ⟨o', h1, h2⟩ := hr
  rw [ho] at h1; cases h1; exact h2
 ·cases hgi : H0.get i with
  | none => exact absurd hgi hi
  | some oi =>
   obtain ⟨a, o1, e1, e2, e3⟩ := hB i oi hgi
   have hnw : ¬ oi.isWin := fun x => hr ⟨oi, hgi, x⟩
   show E.fz (E.ρ (A.getD i 0)) = none
   rw [gd i a e1]
   exact h.fn a (by rw [e2]; simp) (fun x => e3.no hnw (h.ro a o1 e2 x))
def FEnd (P : Program) (n0 : Nat) (E : Env) (w : World) (r : Res) : Ending → World → Prop := fun e w' =>
 match r with
 | .ret v H _ wr => ∃ E' v', e = .returned v' ∧ VR E' v v' ∧ HR P E' H.get w' ∧ Kept n0 wr E E' w w'
 | .pan ch H _ wr => ∃ E' ch', e = .panicked ch' ∧ CR E' ch ch' ∧ HR P E' H.get w' ∧ Kept n0 wr E E' w w'
 | _ => False
def FnS (P : Program) (g0 : Nat) (f : FuncId) (args : List Value) (H : Tr AObj) (n0 : Nat) (r : Res) : Prop :=
 ∀ (E : Env) (w : World) (args' : Array Value), (∀ g, g < g0 → E.dom g ∧ E.ρ g = g ∧ E.sh g = 0) → VL E args args'.toList → HR P E H.get w → Low n0 H → (∀ k, E.dom k → k < n0 ∨ JJ ≤ k) → CallsIn Fence.wide 0 P f args' w (FEnd P n0 E w r)
section
variable {P : Program} {g0 : Nat}
theorem zOy {k0 n n' : Nat} {E E' : Env} {W : List Nat} {w w' : World} (hx : Ext E E') (ht : Took E E' n n') (hk : k0 ≤ n) (hW : ∀ k ∈ W, k < JJ) (h : Stp E E' W w w') : Kept k0 W E E' w w' :=
 ⟨fun i hi => by rw [ht i]; exact ⟨fun h => h.resolve_right (by omega), .inl⟩, fun i _ hd => hx.ρ i hd, fun i _ hd => hx.tot i hd, fun i _ hd => hx.sz i hd, fun i _ hd => hx.sh i hd, fun i _ hd => hx.ro i hd, fun hn i hi hiJ hd => by
  by_cases h1 : E.dom i
  ·exact fun x => hn i hi hiJ h1 ((hx.ro i h1).1 x)
  ·exact (h.fresh i h1 hd).1, h.os, h.tape, h.output, h.size, fun b hb hx' => h.block b hb (fun id hid hd hr => hx' id ⟨hd, hW id hid, fun _ => ⟨hid, hr⟩⟩), fun i hi hiJ hd => by
  by_cases h1 : E.dom i
  ·exact .inr ⟨i, ⟨h1, hiJ, fun h => by omega⟩, (hx.ρ i h1).symm⟩
  ·exact (h.fresh i h1 hd).2.imp (fun h => h) (fun ⟨o, ho, hd', hr, e⟩ => ⟨o, ⟨hd', hW o ho, fun _ => ⟨ho, hr⟩⟩, e.symm⟩), hx.fz, fun b ob hb => (h.fz b ob hb).imp (fun h => h) (fun h => h.imp (fun h => h) (fun ⟨o, ho, hd', hr, e⟩ => ⟨o, ⟨hd', hW o ho, fun _ => ⟨ho, hr⟩⟩, e⟩))⟩
def fnK (tb : Tb P g0) (fn : Func) (R : Res → Prop) (x : Ex) (s : Fs) : Prop :=
 match modeOf x with
 | none => False
 | some u => match evOut P tb.go s.df u s.H s.n s.wr with
  | .ok none H n wr => bif n.ble JJ && wr.all (fun k => Nat.blt k JJ) then (match zAo P { s with H } fn.results.toList with | some vs => R (.ret (tupleOf vs) H n wr) | none => False) else False
  | .ok (some ch) H n wr => bif n.ble JJ && wr.all (fun k => Nat.blt k JJ) then R (.pan ch H n wr) else False
  | .bad _ _ => False
theorem fn_of_cw (hm : P.follows .mixedOrders = true) (tb : Tb P g0) {f : FuncId} {fn : Func} {c : Code} (hf : P.funcs[f]? = some fn) (hb : fn.body = some c) {args : List Value} {H0 : Tr AObj} {n0 : Nat} {R : Res → Prop}
  (h : CW P g0 n0 (args.length + (fn.ntmps - args.length)) none c ⟨tmpsOf args 0 .e, H0, n0, [], []⟩ (fnK tb fn R)) : ∃ r, FnS P g0 f args H0 n0 r ∧ R r := by
 obtain ⟨x, s, hs, hk⟩ := h (fun l e => by cases e) (Nat.le_refl _)
 unfold fnK at hk
 cases hmode : modeOf x with
 | none => rw [hmode] at hk; exact hk.elim
 | some u =>
  rw [hmode] at hk
  simp only [] at hk
  cases ho : evOut P tb.go s.df u s.H s.n s.wr with
  | bad m tr => rw [ho] at hk; exact hk.elim
  | ok U H' n' wr' =>
   rw [ho] at hk
   obtain ⟨⟨g2, g2'⟩, _⟩ := zEz (tb.go_ok hm) (fn := fn) (tmps := #[]) (R := fun _ _ => True) _ _ _ _ _ _ _ _ _ ho
   obtain ⟨s1, s2, s3⟩ := hs
   have walk : ∀ (r : Res), (Nat.ble n' JJ && wr'.all (fun k => Nat.blt k JJ)) = true →
     (∀ (E E' : Env) (w w' : World) (U' : FrameMode) (a : Act), UR E' U U' → TR E' s.T (args.length + (fn.ntmps - args.length)) a.tmps → HR P E' H'.get w' → Kept n0 wr' E E' w w' → LeavesIn Fence.wide 0 P fn a.tmps (FEnd P n0 E w r) [] U' w') → FnS P g0 f args H0 n0 r := by
    intro r hJ hgo E w args' hgl hva hH hlow htop
    simp only [Bool.and_eq_true] at hJ
    have hnJ : n' ≤ JJ := Nat.le_of_ble_eq_true hJ.1
    have hwJ : ∀ k ∈ wr', k < JJ := fun k hk => Nat.le_of_ble_eq_true (List.all_eq_true.1 hJ.2 k hk)
    refine callsIn_of_wp_marks hf hb trivial ?_
    have hfr : FRn P g0 E (args.length + (fn.ntmps - args.length)) none ⟨tmpsOf args 0 .e, H0, n0, [], []⟩ { tmps := args' ++ Array.replicate (fn.ntmps - args'.size) undef, defers := [] } w :=
     ⟨zMq hva _, hH, hlow, .nil, hgl, (fun l e => by cases e), htop⟩
    refine wpIn_mono (s3 E _ w hfr) ?_
    rintro e a' w' ⟨E', hf', hex, hke⟩
    have hfree : Free E' s.n n' := fun k h1 h2 hd => by rcases hf'.top k hd with h3 | h3 <;> omega
    have out : ∀ u', UR E' u u' → LeavesInM Fence.wide 0 P fn a'.tmps (FEnd P n0 E w r) a'.defers u' w' := fun u' hu =>
     (zEz (tb.go_ok hm) (fn := fn) (tmps := a'.tmps) (R := FEnd P n0 E w r) _ _ _ _ _ _ _ _ _ ho).2 a'.defers u' E' w' E' w' hf'.df hu hf'.hr hf'.lw ((Stp.refl E' w').sub (fun _ h => by cases h)) hf'.gl hfree
      (fun E2 U' w'' r1 r2 r3 r4 r5 => hgo E E2 w w'' U' a' r3 (hf'.tr.ext r1) r4 (hke.trans (zOy r1 r2 s1 hwJ r5) (fun k hk _ => g2' k hk)))
    rcases zFe hmode hex with ⟨rfl | rfl, rfl⟩ | ⟨ch, ch', rfl, rfl, rfl, hch⟩
    ·exact out .returning .none
    ·exact out .returning .none
    ·exact out (.panicking ch') (.some _ _ hch)
   cases U with
   | none =>
    obtain ⟨hJ, hk⟩ := zAv hk
    cases hv : zAo P { s with H := H' } fn.results.toList with
    | none => rw [hv] at hk; exact hk.elim
    | some vs =>
     rw [hv] at hk
     refine ⟨_, walk _ hJ (fun E E' w w' U' a hu hT hH hke => ?_), hk⟩
     cases hu
     obtain ⟨vs', h1, h2⟩ := zCc (s := { s with H := H' }) hT hH _ _ hv
     exact ⟨_, zDv h2, E', _, rfl, zJz h1, hH, hke⟩
   | some ch =>
    obtain ⟨hJ, hk⟩ := zAv hk
    refine ⟨_, walk _ hJ (fun E E' w w' U' a hu hT hH hke => ?_), hk⟩
    cases hu
    rename_i ch' hch
    exact ⟨E', ch', rfl, hch, hH, hke⟩
def tauF (A B : List Nat) (n : Nat) (k : Nat) : Option Nat := bif Nat.blt k A.length then A[k]? else posN k B n
def tau (A B : List Nat) (n : Nat) (k j : Nat) : Prop := tauF A B n k = some j
inductive RC (σ : Nat → Nat → Prop) : List (Value × Bool) → List (Value × Bool) → Prop
 | nil : RC σ [] []
 | cons (v v' : Value) (b : Bool) (l l' : List (Value × Bool)) (h : RV σ v v') (t : RC σ l l') : RC σ ((v, b) :: l) ((v', b) :: l')
theorem RC.cr {σ : Nat → Nat → Prop} {E E2 : Env} (m : EnvMap σ E E2) {l : List (Value × Bool)} {x : List PanicEntry} (h : CR E l x) {l1 : List (Value × Bool)} (r : RC σ l l1) : CR E2 l1 x := by
 induction h generalizing l1 with
 | nil => cases r; exact .nil
 | cons v b p l l' hv hb hg t ih => cases r with | cons _ v2 _ _ l2 rv rt => exact .cons _ _ _ _ _ (RV.vr m hv rv) hb hg (ih rt)
inductive ResR (σ : Nat → Nat → Prop) : Res → Res → Prop
 | ret (v v' : Value) (H H' : Tr AObj) (n n' : Nat) (wr wr' : List Nat) (h : RV σ v v') : ResR σ (.ret v H n wr) (.ret v' H' n' wr')
 | pan (ch ch' : List (Value × Bool)) (H H' : Tr AObj) (n n' : Nat) (wr wr' : List Nat) (h : RC σ ch ch') : ResR σ (.pan ch H n wr) (.pan ch' H' n' wr')
def resH : Res → Tr AObj
 | .ret _ H _ _ => H
 | .pan _ H _ _ => H
 | _ => .e
def resWr : Res → List Nat
 | .ret _ _ _ wr => wr
 | .pan _ _ _ wr => wr
 | _ => []
mutual
inductive NV (A : List Nat) (H : Tr AObj) : Value → Value → Prop
 | rv (v v' : Value) (h : RV (caR A) v v') : NV A H v v'
 | nl (k o j : Nat) (h1 : A[k]? = some j) (h2 : H.get j ≠ none) : NV A H (.slice none 0 0) (.slice (some ⟨k, o, none⟩) 0 0)
 | agg (a a' : Array Value) (h : NL A H a.toList a'.toList) : NV A H (.agg a) (.agg a')
inductive NL (A : List Nat) (H : Tr AObj) : List Value → List Value → Prop
 | nil : NL A H [] []
 | cons (v v' : Value) (l l' : List Value) (h : NV A H v v') (t : NL A H l l') : NL A H (v :: l) (v' :: l')
end
def ArgOK (A : List Nat) (H H0 : Tr AObj) (args args0 : List Value) : Prop := ∀ (E : Env) (xs : List Value), (∀ j, H.get j ≠ none → E.dom j) → VL E args xs → VL (E.call A H0) args0 xs
mutual
theorem NV.vr {A : List Nat} {H H0 : Tr AObj} {E : Env} (hl : ∀ j, H.get j ≠ none → E.dom j) {v v0 x : Value} (h : VR E v x) (r : NV A H v v0) : VR (E.call A H0) v0 x := by
 cases r with
 | rv _ _ hr => exact RV.vr zLr h hr
 | nl k o j h1 h2 => cases h; exact .se k o 0 none ⟨j, h1, hl j h2⟩ (fun _ => rfl) (.inr rfl)
 | agg a a' hr => cases h with | agg _ _ ha => exact .agg _ _ (NL.vl hl ha hr)
theorem NL.vl {A : List Nat} {H H0 : Tr AObj} {E : Env} (hl : ∀ j, H.get j ≠ none → E.dom j) {l l0 x : List Value} (h : VL E l x) (r : NL A H l l0) : VL (E.call A H0) l0 x := by
 cases r with
 | nil => cases h; exact .nil
 | cons v v' l l' hv ht => cases h with | cons _ _ _ _ h1 h2 => exact .cons _ _ _ _ (NV.vr hl h1 hv) (NL.vl hl h2 ht)
end
theorem ArgOK.of {A : List Nat} {H H0 : Tr AObj} {args args0 : List Value} (h : RL (caR A) args args0) : ArgOK A H H0 args args0 := fun _ _ _ hv => RL.vl zLr hv h
theorem zFi {f : FuncId} {args0 args : List Value} {H0 H : Tr AObj} {n : Nat} {r0 r : Res} (A B : List Nat) (hg : g0 = 0) (hF : FnS P g0 f args0 H0 A.length r0)
  (hA : DupOK A H0) (hargs : ArgOK A H H0 args args0) (hH : CallB P A H H0)
  (_ : B.Nodup) (hBn : ∀ x ∈ B, A.length ≤ x ∧ x < JJ) (hBl : ∀ x ∈ B, (resH r0).get x ≠ none)
  (hr : ResR (tau A B n) r0 r) (hend : endN r n = n + B.length) (hgrw : endGrw n H r)
  (hwl : ∀ k ∈ resWr r0, k < A.length → (∀ o, H0.get k = some o → ¬ o.isWin) ∧ ∀ j, A[k]? = some j → (∃ o, H.get j = some o ∧ ¬ o.isWin) ∧ j ∈ resWr r)
  (hH' : ∀ j o, (resH r).get j = some o → (H.get j = some o ∧ ∀ k, A[k]? = some j → k ∉ resWr r0) ∨ ∃ k o1, tau A B n k j ∧ (resH r0).get k = some o1 ∧ RO P (tau A B n) o1 o ∧ (k < A.length → k ∈ resWr r0)) :
  CallOK P g0 f args H n r := by
 refine ⟨hgrw, fun E w args' hgl hva hE hlow hfree => ?_⟩
 rw [hend] at hfree
 have h0 : HR P (E.call A H0) H0.get w := hr_call hA hH hE
 have hltA : ∀ k, (E.call A H0).dom k → k < A.length := fun k hd => by obtain ⟨j, e1, _⟩ := hd; exact (List.getElem?_eq_some_iff.1 e1).1
 have htop : ∀ k, (E.call A H0).dom k → k < A.length ∨ JJ ≤ k := fun k hd => .inl (hltA k hd)
 refine (hF (E.call A H0) w args' (fun g h => by omega) (hargs E _ (fun j hj => hE.live hj) hva) h0 (fun k hk => ?_) htop).mono fun e w' he => ?_
 ·cases hgk : H0.get k with
  | none => rfl
  | some o => have := hltA k (h0.live (by rw [hgk]; simp)); have hk : A.length ≤ k := hk; omega
 obtain ⟨E', hE', hke, hfin⟩ : ∃ E', HR P E' (resH r0).get w' ∧ Kept A.length (resWr r0) (E.call A H0) E' w w' ∧ ∀ E1, EnvMap (tau A B n) E' E1 → Ext E E1 → Took E E1 n (n + B.length) → HR P E1 (resH r).get w' → Stp E E1 (resWr r) w w' → CallEnd P E n w r e w' := by
  cases hr with
  | ret v v' Ha Hb na nb wa wb hv =>
   obtain ⟨E', x, rfl, h1, h2, h3⟩ := he
   refine ⟨E', h2, h3, fun E1 m q1 q2 q3 q4 => ⟨E1, x, rfl, RV.vr m h1 hv, q1, ?_, q3, q4⟩⟩
   have : nb = n + B.length := hend
   rw [this]; exact q2
  | pan v v' Ha Hb na nb wa wb hv =>
   obtain ⟨E', x, rfl, h1, h2, h3⟩ := he
   refine ⟨E', h2, h3, fun E1 m q1 q2 q3 q4 => ⟨E1, x, rfl, RC.cr m h1 hv, q1, ?_, q3, q4⟩⟩
   have : nb = n + B.length := hend
   rw [this]; exact q2
 have hnro : ∀ k, A.length ≤ k → k < JJ → E'.dom k → ¬ E'.ro k := hke.nro fun k h1 _ hd => by have := hltA k hd; omega
 have gd : ∀ k j, A[k]? = some j → A.getD k 0 = j := fun k j e => by rw [List.getD_eq_getElem?_getD, e]; rfl
 obtain ⟨E1, hE1⟩ : ∃ E1 : Env, E1 = ⟨fun j => E.dom j ∨ (n ≤ j ∧ j < n + B.length), fun j => if n ≤ j ∧ j < n + B.length then E'.ρ (B.getD (j - n) 0) else E.ρ j, fun j => if n ≤ j ∧ j < n + B.length then E'.tot (B.getD (j - n) 0) else E.tot j, fun j => if n ≤ j ∧ j < n + B.length then E'.sz (B.getD (j - n) 0) else E.sz j, fun j => if n ≤ j ∧ j < n + B.length then E'.sh (B.getD (j - n) 0) else E.sh j, fun j => E.ro j ∧ ¬ (n ≤ j ∧ j < n + B.length), E'.fz⟩ := ⟨_, rfl⟩
 have hnot : ∀ j, E.dom j → ¬ (n ≤ j ∧ j < n + B.length) := fun j hd h => hfree j h.1 h.2 hd
 have hx : Ext E E1 := by
  subst hE1
  exact ⟨fun j h => .inl h, fun j h => if_neg (hnot j h), fun j h => if_neg (hnot j h), fun j h => if_neg (hnot j h), fun j h => if_neg (hnot j h), fun j h => ⟨And.left, fun x => ⟨x, hnot j h⟩⟩, fun b ob hb => hke.fz b ob hb⟩
 have ht : Took E E1 n (n + B.length) := by subst hE1; exact fun j => Iff.rfl
 have low : ∀ k, k < A.length → ∃ j, A[k]? = some j ∧ (E.call A H0).ρ k = E.ρ j ∧ ((E.call A H0).dom k → E.dom j) ∧ (E.call A H0).tot k = E.tot j ∧ (E.call A H0).sz k = E.sz j ∧ (E.call A H0).sh k = E.sh j := fun k hk => by
  have e := List.getElem?_eq_getElem hk
  refine ⟨A[k], e, ?_, fun hd => ?_, ?_, ?_, ?_⟩
  ·show E.ρ (A.getD k 0) = _; rw [gd k _ e]
  ·obtain ⟨j, e1, e2⟩ := hd
   rw [e] at e1; cases e1; exact e2
  ·show E.tot (A.getD k 0) = _; rw [gd k _ e]
  ·show E.sz (A.getD k 0) = _; rw [gd k _ e]
  ·show E.sh (A.getD k 0) = _; rw [gd k _ e]
 have m : EnvMap (tau A B n) E' E1 := ⟨fun b b' e hd => by
  have e : tauF A B n b = some b' := e
  unfold tauF at e
  by_cases hb : b < A.length
  ·rw [show Nat.blt b A.length = true from Nat.ble_eq_true_of_le hb] at e
   simp only [cond_true] at e
   obtain ⟨j, e1, e2, e3, e4, e5, e6⟩ := low b hb
   rw [e] at e1
   simp only [Option.some.injEq] at e1
   subst e1
   have hd0 := (hke.dom b hb).1 hd
   have hdj := e3 hd0
   exact ⟨hx.n _ hdj, by rw [hx.ρ _ hdj, hke.ρ b hb hd0, e2], by rw [hx.tot _ hdj, hke.tot b hb hd0, e4], by rw [hx.sz _ hdj, hke.sz b hb hd0, e5], by rw [hx.sh _ hdj, hke.sh b hb hd0, e6]⟩
  ·rw [zAw (by omega)] at e
   simp only [cond_false] at e
   obtain ⟨p1, p2, p3⟩ := zBx e
   have hg : B.getD (b' - n) 0 = b := by rw [List.getD_eq_getElem?_getD, p3]; rfl
   subst hE1
   refine ⟨.inr ⟨p1, p2⟩, ?_, ?_, ?_, ?_⟩ <;> simp only [if_pos (And.intro p1 p2), hg], by subst hE1; exact fun _ _ h => h⟩
 have nonro : ∀ j o, H.get j = some o → ¬ o.isWin → ¬ E.ro j := fun j o h1 h2 x => h2 (hE.ro j o h1 x)
 have tchA : ∀ i, Tch A.length (resWr r0) (E.call A H0) i → i < A.length ∧ i ∈ resWr r0 ∧ ∃ j, A[i]? = some j ∧ (E.call A H0).ρ i = E.ρ j ∧ E.dom j ∧ H.get j ≠ none ∧ j ∈ resWr r ∧ ¬ E.ro j := fun i hi => by
  have hlt : i < A.length := hltA i hi.1
  obtain ⟨j, e1, e2, e3, _⟩ := low i hlt
  obtain ⟨_, hw⟩ := hwl i (hi.2.2 hlt).1 hlt
  obtain ⟨⟨o, p1, p1'⟩, p2⟩ := hw j e1
  exact ⟨hlt, (hi.2.2 hlt).1, j, e1, e2, e3 hi.1, by rw [p1]; simp, p2, nonro j o p1 p1'⟩
 have blk : ∀ b, b < w.heap.size → (∀ i j, i ∈ resWr r0 → A[i]? = some j → H.get j ≠ none → ¬ E.ro j → E.ρ j ≠ b) → w'.heap[b]? = w.heap[b]? := fun b hb hno => hke.block b hb fun i hi e => by
  obtain ⟨_, h2, j, h3, h4, _, h6, _, h8⟩ := tchA i hi
  exact hno i j h2 h3 h6 h8 (h4.symm.trans e)
 have own1 : ∀ k j, tau A B n k j → (resH r0).get k ≠ none → E1.ρ j = E'.ρ k := fun k j e hl => (m.nm k j e (hE'.live hl)).2.1
 have wrj : ∀ k, k < A.length → k ∈ resWr r0 → ∃ j, A[k]? = some j ∧ H.get j ≠ none ∧ ¬ E.ro j ∧ ¬ (E.call A H0).ro k := fun k hk hw => by
  obtain ⟨q1, q2⟩ := hwl k hw hk
  have e := List.getElem?_eq_getElem hk
  obtain ⟨⟨o, p1, p1'⟩, _⟩ := q2 _ e
  exact ⟨_, e, by rw [p1]; simp, nonro _ o p1 p1', fun ⟨o', x1, x2⟩ => q1 o' x1 x2⟩
 refine hfin E1 m hx ht ⟨fun id hd => ?_, fun id hd => ?_, fun j o ho => ?_, fun i j hi hj hro e => ?_, fun j o ho hr' => ?_, by subst hE1; exact hE'.fz, fun i hi hr => ?_, Nat.lt_of_lt_of_le hE.pos hke.size⟩ ⟨hx, hke.os, hke.tp, hke.output, hke.size, fun b hb hno => ?_, fun id h1 h2 => ?_, fun b ob hb => ?_⟩
 ·rcases (ht id).1 hd with h1 | h1
  ·rw [hx.ρ id h1]; exact Nat.lt_of_lt_of_le (hE.lt id h1) hke.size
  ·subst hE1
   simp only [if_pos h1]
   have hlen : id - n < B.length := by omega
   have hmem : B.getD (id - n) 0 ∈ B := by rw [List.getD_eq_getElem?_getD, List.getElem?_eq_getElem hlen]; exact List.getElem_mem hlen
   exact hE'.lt _ (hE'.live (hBl _ hmem))
 ·cases hgj : (resH r).get id with
  | none => rfl
  | some o =>
   rcases hH' id o hgj with ⟨h1, _⟩ | ⟨k, o1, h1, h2, _, _⟩
   ·exact absurd (hx.n _ (hE.live (by rw [h1]; simp))) hd
   ·exact absurd (m.nm k id h1 (hE'.live (by rw [h2]; simp))).1 hd
 ·rcases hH' j o ho with ⟨h1, h2⟩ | ⟨k, o1, h1, h2, h3, _⟩
  ·have hd := hE.live (id := j) (by rw [h1]; simp)
   refine (hE.obj j o h1).mono hx hd (blk _ (hE.lt j hd) fun i j' hi hj' hl hnr e => ?_)
   have := hE.inj j' j hl (by rw [h1]; simp) (.inl hnr) e
   subst this
   exact h2 i hj' hi
  ·exact (hE'.obj k o1 h2).ren m h1 (hE'.live (by rw [h2]; simp)) h3
 ·have key : ∀ i, (resH r).get i ≠ none → (∃ o, H.get i = some o ∧ E1.ρ i = E.ρ i ∧ ∀ k, A[k]? = some i → k ∉ resWr r0) ∨ ∃ k, tau A B n k i ∧ (resH r0).get k ≠ none ∧ E1.ρ i = E'.ρ k ∧ (k < A.length → k ∈ resWr r0) := fun i hi => by
   cases hgi : (resH r).get i with
   | none => exact absurd hgi hi
   | some o =>
    rcases hH' i o hgi with ⟨h1, h2⟩ | ⟨k, o1, h1, h2, _, h4⟩
    ·exact .inl ⟨o, h1, hx.ρ i (hE.live (by rw [h1]; simp)), h2⟩
    ·exact .inr ⟨k, h1, by rw [h2]; simp, own1 k i h1 (by rw [h2]; simp), h4⟩
  have inB : ∀ k i, tau A B n k i → ¬ k < A.length → k ∈ B := fun k i h4 hk => by
   have h4 : tauF A B n k = some i := h4
   unfold tauF at h4
   rw [zAw (by omega)] at h4
   exact List.mem_of_getElem? (zBx h4).2.2
  have mix : ∀ i j, (∃ o, H.get i = some o ∧ E1.ρ i = E.ρ i ∧ ∀ k, A[k]? = some i → k ∉ resWr r0) → (∃ k, tau A B n k j ∧ (resH r0).get k ≠ none ∧ E1.ρ j = E'.ρ k ∧ (k < A.length → k ∈ resWr r0)) → E1.ρ i = E1.ρ j → i = j := by
   rintro i j ⟨o, h1, h2, h3⟩ ⟨k, h4, h5, h6, h7⟩ e
   rw [h2, h6] at e
   have hdi := hE.live (id := i) (by rw [h1]; simp)
   by_cases hk : k < A.length
   ·obtain ⟨j', e1, e2, e3, _⟩ := low k hk
    have hdk := (hke.dom k hk).1 (hE'.live h5)
    rw [hke.ρ k hk hdk, e2] at e
    obtain ⟨j2, f1, hl, hnr, _⟩ := wrj k hk (h7 hk)
    rw [e1] at f1; cases f1
    have hij := hE.inj i j' (by rw [h1]; simp) hl (.inr hnr) e
    have h4 : tauF A B n k = some j := h4
    unfold tauF at h4
    rw [show Nat.blt k A.length = true from Nat.ble_eq_true_of_le hk] at h4
    simp only [cond_true] at h4
    rw [h4] at e1
    simp only [Option.some.injEq] at e1
    rw [hij, ← e1]
   ·have hkB : k ∈ B := inB k j h4 hk
    rcases hke.fresh k (by omega) (hBn k hkB).2 (hE'.live h5) with h8 | ⟨i2, h8, h9⟩
    ·have := hE.lt i hdi; omega
    ·obtain ⟨_, q2, j2, q3, q4, _, q6, _, q8⟩ := tchA i2 h8
     rw [← h9, q4] at e
     have := hE.inj i j2 (by rw [h1]; simp) q6 (.inr q8) e
     subst this
     exact absurd q2 (h3 i2 q3)
  rcases key i hi with h1 | h1 <;> rcases key j hj with h2 | h2
  ·obtain ⟨o, a1, a2, _⟩ := h1
   obtain ⟨o', b1, b2, _⟩ := h2
   exact hE.inj i j (by rw [a1]; simp) (by rw [b1]; simp) (hro.imp (fun x y => x ((hx.ro i (hE.live (by rw [a1]; simp))).2 y)) (fun x y => x ((hx.ro j (hE.live (by rw [b1]; simp))).2 y))) (by rw [← a2, ← b2]; exact e)
  ·exact mix i j h1 h2 e
  ·exact (mix j i h2 h1 e.symm).symm
  ·obtain ⟨k, a1, a2, a3, a4⟩ := h1
   obtain ⟨k', b1, b2, b3, _⟩ := h2
   have hkr : ¬ E'.ro k := by
    by_cases hk : k < A.length
    ·obtain ⟨_, _, _, _, q⟩ := wrj k hk (a4 hk)
     exact fun x => q ((hke.ro k hk ((hke.dom k hk).1 (hE'.live a2))).1 x)
    ·exact hnro k (by omega) (hBn k (inB k i a1 hk)).2 (hE'.live a2)
   have := hE'.inj k k' a2 b2 (.inl hkr) (by rw [← a3, ← b3]; exact e)
   subst this
   have a1 : tauF A B n k = some i := a1
   have b1 : tauF A B n k = some j := b1
   rw [a1] at b1
   simpa using b1
 ·rcases hH' j o ho with ⟨h1, _⟩ | ⟨k, o1, h1, h2, _, h4⟩
  ·exact hE.ro j o h1 ((hx.ro j (hE.live (by rw [h1]; simp))).1 hr')
  ·exfalso
   subst hE1
   by_cases hk : k < A.length
   ·obtain ⟨j', f1, _, hnr, _⟩ := wrj k hk (h4 hk)
    have h1 : tauF A B n k = some j := h1
    unfold tauF at h1
    rw [show Nat.blt k A.length = true from Nat.ble_eq_true_of_le hk] at h1
    simp only [cond_true] at h1
    rw [f1] at h1; cases h1
    exact hnr hr'.1
   ·have h1 : tauF A B n k = some j := h1
    unfold tauF at h1
    rw [zAw (by omega)] at h1
    simp only [cond_false] at h1
    obtain ⟨p1, p2, _⟩ := zBx h1
    exact hr'.2 ⟨p1, p2⟩
 ·have hfz : E1.fz = E'.fz := by subst hE1; rfl
  rw [hfz]
  cases hgi : (resH r).get i with
  | none => exact absurd hgi hi
  | some o =>
   rcases hH' i o hgi with ⟨h1, h2⟩ | ⟨k, o1, h1, h2, _, h4⟩
   ·have hdi := hE.live (id := i) (by rw [h1]; simp)
    have hr0 : ¬ E.ro i := fun x => hr ((hx.ro i hdi).2 x)
    rw [hx.ρ i hdi]
    cases hf : E'.fz (E.ρ i) with
    | none => rfl
    | some ob =>
     rcases hke.fr _ ob hf with q | q | ⟨i2, q, q'⟩
     ·have q : E.fz (E.ρ i) = some ob := q
      rw [hE.fn i (by rw [h1]; simp) hr0] at q; cases q
     ·have := hE.lt i hdi; omega
     ·obtain ⟨_, p2, j2, p3, p4, _, p6, _, p8⟩ := tchA i2 q
      rw [q'] at p4
      have := hE.inj i j2 (by rw [h1]; simp) p6 (.inl hr0) p4
      subst this
      exact absurd p2 (h2 i2 p3)
   ·have hl : (resH r0).get k ≠ none := by rw [h2]; simp
    rw [own1 k i h1 hl]
    refine hE'.fn k hl ?_
    by_cases hk : k < A.length
    ·obtain ⟨_, _, _, _, q⟩ := wrj k hk (h4 hk)
     exact fun x => q ((hke.ro k hk ((hke.dom k hk).1 (hE'.live hl))).1 x)
    ·refine hnro k (by omega) (hBn k ?_).2 (hE'.live hl)
     have h1 : tauF A B n k = some i := h1
     unfold tauF at h1
     rw [zAw (by omega)] at h1
     exact List.mem_of_getElem? (zBx h1).2.2
 ·refine blk b hb fun i j hi hj hl hnr e => ?_
  by_cases hk : i < A.length
  ·exact hno j ((hwl i hi hk).2 j hj).2 (hE.live hl) hnr e
  ·rw [List.getElem?_eq_none (by omega)] at hj; cases hj
 ·have hr' := ((ht id).1 h2).resolve_left h1
  have hlen : id - n < B.length := by omega
  have hmem : B.getD (id - n) 0 ∈ B := by rw [List.getD_eq_getElem?_getD, List.getElem?_eq_getElem hlen]; exact List.getElem_mem hlen
  have hρ : E1.ρ id = E'.ρ (B.getD (id - n) 0) := by subst hE1; exact if_pos hr'
  refine ⟨by subst hE1; exact fun x => x.2 hr', ?_⟩
  rw [hρ]
  rcases hke.fresh _ (hBn _ hmem).1 (hBn _ hmem).2 (hE'.live (hBl _ hmem)) with h8 | ⟨i2, h8, h9⟩
  ·exact .inl h8
  ·obtain ⟨_, q2, j2, q3, q4, q5, q6, q7, q8⟩ := tchA i2 h8
   exact .inr ⟨j2, q7, q5, q8, by rw [← h9, q4]⟩
 ·have hfz : E1.fz = E'.fz := by subst hE1; rfl
  rw [hfz] at hb
  rcases hke.fr b ob hb with q | q | ⟨i2, q, q'⟩
  ·exact .inl q
  ·exact .inr (.inl q)
  ·obtain ⟨_, _, j2, _, p4, p5, _, p7, p8⟩ := tchA i2 q
   exact .inr (.inr ⟨j2, p7, p5, p8, by rw [← p4, q']⟩)
theorem zDk {f : FuncId} {args0 args : List Value} {H0 H : Tr AObj} {n : Nat} {r0 r : Res} (A B : List Nat) (hg : g0 = 0) (hF : FnS P g0 f args0 H0 A.length r0)
  (hA : DupOK A H0) (hargs : RL (caR A) args args0) (hH : CallB P A H H0)
  (hB : B.Nodup) (hBn : ∀ x ∈ B, A.length ≤ x ∧ x < JJ) (hBl : ∀ x ∈ B, (resH r0).get x ≠ none)
  (hr : ResR (tau A B n) r0 r) (hend : endN r n = n + B.length) (hgrw : endGrw n H r)
  (hwl : ∀ k ∈ resWr r0, k < A.length → (∀ o, H0.get k = some o → ¬ o.isWin) ∧ ∀ j, A[k]? = some j → (∃ o, H.get j = some o ∧ ¬ o.isWin) ∧ j ∈ resWr r)
  (hH' : ∀ j o, (resH r).get j = some o → (H.get j = some o ∧ ∀ k, A[k]? = some j → k ∉ resWr r0) ∨ ∃ k o1, tau A B n k j ∧ (resH r0).get k = some o1 ∧ RO P (tau A B n) o1 o ∧ (k < A.length → k ∈ resWr r0)) :
  CallOK P g0 f args H n r := zFi A B hg hF hA (ArgOK.of hargs) hH hB hBn hBl hr hend hgrw hwl hH'
end
end Go.Proofs.Ytpdeidlkeplegaa
