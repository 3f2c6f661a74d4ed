/- DERIVED. Texts put together: Sorted, Tq1, Tq2, Tq3, Tq4, Tq5, Tq6, Tq8, Tq9, Tq11, Tq10, Tq12, Tq13, Tq15, Tq17, Aw20. -/
import Derived.Test.YtpdeidlkeplegaaZ12
import Derived.Test.YtpdeidlkeplegaaZ13
import Derived.Test.YtpdeidlkeplegaaZ14
set_option maxRecDepth 1000000
set_option maxHeartbeats 32000000
namespace Go.Proofs.Ytpdeidlkeplegaa
open Go Go.RowKit Go.Maps
open Go.WideElems (Fit rd rg rg_of rd_mk)
def insI (x : Int) : List Int → List Int
 | [] => [x]
 | y :: l => bif decide (x ≤ y) then x :: y :: l else y :: insI x l
def isortI : List Int → List Int
 | [] => []
 | x :: l => insI x (isortI l)
theorem zIh (x : Int) : ∀ l, (insI x l).Perm (x :: l)
 | [] => .refl _
 | y :: l => by
  unfold insI
  cases decide (x ≤ y) with
  | true => exact .refl _
  | false => exact ((zIh x l).cons y).trans (.swap x y l)
theorem zAe : ∀ l, (isortI l).Perm l
 | [] => .refl _
 | x :: l => (zIh x _).trans ((zAe l).cons x)
theorem zIi {x : Int} : ∀ {l : List Int}, l.Pairwise (· ≤ ·) → (insI x l).Pairwise (· ≤ ·)
 | [], _ => by simp [insI]
 | y :: l, h => by
  rw [List.pairwise_cons] at h
  unfold insI
  cases hd : decide (x ≤ y) with
  | true =>
   have := of_decide_eq_true hd
   refine List.pairwise_cons.2 ⟨fun z hz => ?_, List.pairwise_cons.2 h⟩
   rcases List.mem_cons.1 hz with rfl | hz
   ·exact this
   ·have := h.1 z hz; omega
  | false =>
   have := of_decide_eq_false hd
   refine List.pairwise_cons.2 ⟨fun z hz => ?_, zIi h.2⟩
   have hz := (zIh x l).mem_iff.1 hz
   rcases List.mem_cons.1 hz with rfl | hz
   ·omega
   ·exact h.1 z hz
theorem zFq : ∀ l, (isortI l).Pairwise (· ≤ ·)
 | [] => .nil
 | x :: l => zIi (zFq l)
theorem zRo {ss ks : List Int} (h : ss.Perm ks) : (ss.mergeSort fun x y => decide (x ≤ y)) = isortI ks := by
 have tr : ∀ a b c : Int, leI a b = true → leI b c = true → leI a c = true := fun a b c h1 h2 => by simp only [leI, decide_eq_true_eq] at *; exact Int.le_trans h1 h2
 have to : ∀ a b : Int, (leI a b || leI b a) = true := fun a b => by simp only [leI, Bool.or_eq_true, decide_eq_true_eq]; exact Int.le_total a b
 refine List.Perm.eq_of_pairwise (le := fun a b => leI a b = true) (fun a b _ _ h1 h2 => ?_) (List.pairwise_mergeSort tr to ss) ((zFq ks).imp fun {a b} h => by simpa [leI] using h) (((List.mergeSort_perm ss leI).trans h).trans (zAe ks).symm)
 simp only [leI, decide_eq_true_eq] at h1 h2
 exact Int.le_antisymm h1 h2
def zDd : List MapEntry → Option (List Int)
 | [] => some []
 | e :: l => match e.key with
  | .int .i64 k => bif decide (-9223372036854775808 ≤ k) && decide (k ≤ 9223372036854775807) then (zDd l).map (k :: ·) else none
  | _ => none
def nodupI : List Int → Bool
 | [] => true
 | x :: l => (l.all fun y => !decide (x = y)) && nodupI l
theorem zIn : ∀ {l : List Int}, nodupI l = true → l.Nodup
 | [], _ => .nil
 | x :: l, h => by
  simp only [nodupI, Bool.and_eq_true] at h
  refine List.nodup_cons.2 ⟨fun hx => ?_, zIn h.2⟩
  have := List.all_eq_true.1 h.1 x hx
  simp at this
theorem zKa {E : Env} : ∀ {es l : List MapEntry} {ks : List Int}, zDd es = some ks → ML E es l → l.map (·.key) = ks.map (Value.int .i64) ∧ ∀ k ∈ ks, -9223372036854775808 ≤ k ∧ k ≤ 9223372036854775807
 | [], _, ks, h, .nil => by simp [zDd] at h; subst h; simp
 | e :: es, _, ks, h, .cons _ e' _ l' hk hv ht => by
  unfold zDd at h
  split at h
  ·rename_i k hke
   cases hc : (decide (-9223372036854775808 ≤ k) && decide (k ≤ 9223372036854775807)) with
   | false => simp [hc] at h
   | true =>
    simp only [hc, cond_true, Option.map_eq_some_iff] at h
    obtain ⟨ks', h1, rfl⟩ := h
    obtain ⟨h2, h3⟩ := zKa h1 ht
    rw [hke] at hk
    simp only [Bool.and_eq_true, decide_eq_true_eq] at hc
    refine ⟨by simp [h2, hk.int_eq], fun k' hk' => ?_⟩
    rcases List.mem_cons.1 hk' with rfl | hk'
    ·exact hc
    ·exact h3 k' hk'
  ·cases h
def anyR {H : Type} : Value → Option (DataW H × List MemPlace) := fun _ => some (.nil, [])
def intOfV : Value → Int
 | .int _ a => a
 | _ => 0
theorem list_end {P : Program} {E : Env} {H : Tr AObj} {n : Nat} {w w' : World} {e : TypeId} {sz : Nat} {xs : List Value} {len : Nat} {v : Value} (hE : HR P E H.get w) (hf : len ≠ 0 → Free E n (n + 1)) (hx : plainL xs = true) (hi : (P.info? e).map (·.size) = some sz) (hne : P.underlying e ≠ some (.int .u8))
  (hb : Below w.heap.size w w') (hrow : w'.ownsRow w.heap.size e sz v len xs) (hz0 : len = 0 → v = .slice none 0 0) : CallEnd P E n w (listOut e sz xs len id H n) (.returned v) w' := by
 unfold listOut
 cases hz : len.beq 0 with
 | true =>
  have hz := Nat.eq_of_beq_eq_true hz
  simp only [cond_true]
  have hv := hz0 hz
  subst hv
  obtain ⟨b1, b2, b3, b4, b5⟩ := hb
  refine ⟨E, _, rfl, .snil 0 0, .refl E, .refl E _, ⟨fun id hd => Nat.lt_of_lt_of_le (hE.lt id hd) b4, hE.dom, fun id o ho => ?_, hE.inj, hE.ro, hE.fz_below b5, hE.fn, Nat.lt_of_lt_of_le hE.pos b4⟩, .refl E, b1, b2, b3, b4, fun b hb _ => b5 b hb, fun id h1 h2 => absurd h2 h1, fun _ _ h => .inl h⟩
  have hd := hE.live (id := id) (by rw [ho]; simp)
  exact (hE.obj id o ho).mono (.refl E) hd (b5 _ (hE.lt id hd))
 | false =>
  have hz : len ≠ 0 := fun e => by subst e; simp at hz
  simp only [cond_false]
  obtain ⟨hxl, hown⟩ := hrow
  rcases hown with ⟨_, h0⟩ | ⟨g, cap, cur, rfl, hg, hc, h1, h2, h3, h4⟩
  ·exact absurd h0 hz
  ·have hnd : ¬ E.dom n := hf hz n (Nat.le_refl _) (by omega)
   have hle : xs.length ≤ cur.size := by
    rw [h3, hxl]; exact Nat.mul_le_mul_right _ h1
   obtain ⟨k1, k2⟩ := hr_fresh hE hnd hb hg hc hi (xs := xs) (by rw [hxl]; exact h4) hx hle hne
   refine ⟨_, _, rfl, ?_, k2.ext, dom1, by rw [zBx]; exact k1, k2⟩
   have := VR.su (E := E.push n g cur.size sz) n 0 len cap (E.push_dom n g cur.size sz) h1 h2 (by rw [Env.push_sz, Env.push_tot, h3]; omega)
   rwa [Env.push_ρ, Env.push_sh] at this
def zBa (l : List Value) (H : Tr AObj) : Option (List Int) :=
 match l with
 | [.func (.func g) fs cap] =>
  bif g.beq 38 && fs.size.beq 0 then
   (match cap.toList with
   | [.pointer (some ⟨c, 0, none⟩)] => (match H.get c with
    | some (.cells [.map (some mb)] _) => (match H.get mb with
     | some (.map es _) => (match zDd es with
      | some ks => bif nodupI ks && ks.length.ble 1000000 then some ks else none
      | none => none)
     | _ => none)
    | _ => none)
   | _ => none)
  else none
 | _ => none
theorem sorts_law (m : Nat) : AnyZI.SortsIn Try.prog zEw Fence.wide m :=
 ⟨fun blk off cap ss W hH hblk hsz => callsIn_wide.2 (AnyM.slices_Sort_int zPy blk off cap ss W hH hblk hsz),
  fun p cap W => callsIn_wide.2 (AnyM.slices_Sort_int_none zPy p cap W)⟩
theorem zKf {l : List Value} {H : Tr AObj} {ks : List Int} (h : zBa l H = some ks) : ∀ (E : Env) (w : World) (args' : Array Value), VL E l args'.toList → HR Try.prog E H.get w → CallsIn Fence.wide 0 Try.prog 28 args' w fun e w' => ∃ v, e = .returned v ∧ Below w.heap.size w w' ∧ w'.ownsRow w.heap.size 3 1 v ks.length ((isortI ks).map (Value.int .i64)) ∧ (ks.length = 0 → v = .slice none 0 0) := by
  intro E w args' hva hE
  unfold zBa at h
  split at h
  case h_2 => cases h
  rename_i g fs cap
  cases hg : (g.beq 38 && fs.size.beq 0) with
  | false => simp [hg] at h
  | true =>
  simp only [hg, cond_true] at h
  simp only [Bool.and_eq_true] at hg
  have hg1 := Nat.eq_of_beq_eq_true hg.1
  have hg2 := Nat.eq_of_beq_eq_true hg.2
  subst hg1
  split at h
  case h_2 => cases h
  rename_i c hcap
  split at h
  case h_2 => cases h
  rename_i mb bt hHc
  split at h
  case h_2 => cases h
  rename_i es ck hHm
  split at h
  case h_2 => cases h
  rename_i ks' hks
  cases hnd : (nodupI ks' && ks'.length.ble 1000000) with
  | false => simp [hnd] at h
  | true =>
  simp only [hnd, cond_true, Option.some.injEq] at h
  subst h
  simp only [Bool.and_eq_true] at hnd
  have hlen : ks'.length ≤ 1000000 := Nat.le_of_ble_eq_true hnd.2
  have hnodup := zIn hnd.1
  have hsh : E.sh c = 0 := by obtain ⟨_, _, _, _, _, _, _, _, h7, _⟩ := hE.obj c _ hHc; exact h7
  have harg : args' = #[.func (.func 38) #[] #[.pointer (some ⟨E.ρ c, 0, none⟩)]] := by
   have hv : ∃ v', args'.toList = [v'] ∧ VR E (.func (.func 38) fs cap) v' := by
    generalize args'.toList = x at hva
    cases hva with | cons _ v' _ l' hv ht => cases ht; exact ⟨v', rfl, hv⟩
   obtain ⟨v', h1, h2⟩ := hv
   have : v' = .func (.func 38) #[] #[.pointer (some ⟨E.ρ c, 0, none⟩)] := by
    cases h2 with
    | func _ _ fs' _ cap' _ ha hc =>
     have e1 : fs' = #[] := by
      have : fs'.toList.length = 0 := by rw [← ha.length, Array.length_toList, hg2]
      exact Array.ext' (List.eq_nil_of_length_eq_zero this)
     have e2 : cap' = #[.pointer (some ⟨E.ρ c, 0, none⟩)] := by
      rw [hcap] at hc
      generalize hy : cap'.toList = y at hc
      cases hc with
      | cons _ u _ l' hu ht =>
       cases ht
       cases hu
       rw [hsh] at hy
       exact Array.ext' hy
     rw [e1, e2]
   rw [this] at h1
   exact Array.ext' h1
  subst harg
  obtain ⟨es', hb, hmp⟩ := hE.obj mb _ hHm
  obtain ⟨cell', hc1, _, hc3⟩ := zAt (hE.obj c _ hHc) 0 (.map (some mb)) rfl
  have hc2 : cell' = .map (some (E.ρ mb)) := by cases hc3; rfl
  subst hc2
  have hclt : E.ρ c < w.heap.size := hE.lt c (hE.live (by rw [hHc]; simp))
  obtain ⟨pl, hperm, hml⟩ := hmp.perm
  obtain ⟨hkeys, hrange⟩ := zKa hks hml
  have hkp : (ks'.map (Value.int .i64)).Perm (es'.toList.map (·.key)) := by rw [← hkeys]; exact hperm.map _
  have hread : ∀ x ∈ es'.toList, ∃ k : Int, k ∈ ks' ∧ x.key = .int .i64 k := fun x hx => by
   have : x.key ∈ ks'.map (Value.int .i64) := hkp.mem_iff.2 (List.mem_map.2 ⟨x, hx, rfl⟩)
   obtain ⟨k, hk, e⟩ := List.mem_map.1 this
   exact ⟨k, hk, e.symm⟩
  have hkey : ∀ x ∈ es'.toList, ∃ k : Int, k ∈ ks' ∧ x.key = .int .i64 k ∧ keyOf Try.prog 3 x.key = some (.int .i64 k) := fun x hx => by
   obtain ⟨k, hk, e⟩ := hread x hx
   refine ⟨k, hk, e, ?_⟩
   rw [e]
   have := hrange k hk
   have e1 : IntKind.min .i64 = -9223372036854775808 := by decide
   have e2 : IntKind.max .i64 = 9223372036854775807 := by decide
   exact keyOf_int_mk Try.underlying3 (by simp only [Lit.wf, Bool.and_eq_true, decide_eq_true_eq, e1, e2]; exact this)
  have hsize : es'.size = ks'.length := by have := hkp.length_eq; simpa using this.symm
  have hfit : Fit Try.prog 3 (anyR (H := Unit)) es' ck := ⟨by rw [hsize]; unfold maxLen; omega, ⟨hmp.lt, hmp.nd, (hkp.nodup_iff).1 (List.pairwise_map.2 (hnodup.imp fun {a b} hne e => hne (by simpa using e)))⟩, fun x hx => by
   obtain ⟨k, _, _, hk⟩ := hkey x hx
   exact ⟨_, rd_mk hk (by rfl)⟩⟩
  obtain ⟨D0, hD0⟩ : ∃ D0 : DataW Unit, D0 = .map ((es'.toList.map (rg Try.prog 3 (anyR (H := Unit)))).foldr DataW.insert []) := ⟨_, rfl⟩
  have hown : w.ownsMap Try.prog 3 (anyR (H := Unit)) (E.ρ mb) es'.size D0 := ⟨es', ck, hb, hfit, Nat.le_refl _, hD0⟩
  have hik : (Go.intKeys D0).Perm ks' := by
   have h1 : (Go.intKeys D0).Perm ((es'.toList.map (rg Try.prog 3 (anyR (H := Unit)))).map fun p => Go.intOf p.1) := by
    rw [hD0]
    exact (Go.WideShapes.sorted_perm _).map _
   refine h1.trans ?_
   have h2 : ((es'.toList.map (rg Try.prog 3 (anyR (H := Unit)))).map fun p => Go.intOf p.1).map (Value.int .i64) = es'.toList.map (·.key) := by
    rw [List.map_map, List.map_map]
    refine List.map_congr_left fun x hx => ?_
    obtain ⟨k, _, e, hk⟩ := hkey x hx
    have : rd Try.prog 3 (anyR (H := Unit)) x = some (.int .i64 k, .nil) := by
     cases x; exact rd_mk (R := anyR (H := Unit)) (yv := (.nil, [])) hk rfl
    show Value.int .i64 (Go.intOf (rg Try.prog 3 (anyR (H := Unit)) x).1) = x.key
    rw [rg_of this, e]; rfl
   have h3 : (((es'.toList.map (rg Try.prog 3 (anyR (H := Unit)))).map fun p => Go.intOf p.1).map (Value.int .i64)).Perm (ks'.map (Value.int .i64)) := by rw [h2]; exact hkp.symm
   have h4 := h3.map intOfV
   simpa [List.map_map, Function.comp_def, intOfV] using h4
  have hms : Maps.size D0 = es'.size := by
   rw [hD0]
   show List.length _ = _
   rw [(Go.WideShapes.sorted_perm _).length_eq]; simp
  have hseq : SeqGives Fence.wide 2 Try.prog 38 #[.pointer (some ⟨E.ρ c, 0, none⟩)] encZ (fun ss => ss.Perm (Go.intKeys D0)) (Maps.size D0) w :=
   AnyZI.keys_gives (ρ := zHa) { lay_keys with } Fence.wide 2 trivial rfl (by omega) (E.ρ c) (E.ρ mb) es'.size D0 w hclt hc1 hown
  have cS := AnyZI.sorted_in zRc Fence.wide 5 trivial trivial trivial trivial rfl (by omega) (sorts_law _) (enters_of Try.func37 (by kernel_rfl) rfl) 38 #[.pointer (some ⟨E.ρ c, 0, none⟩)] trivial (enters_of Try.func38 (by kernel_rfl) rfl) _ _ (by rw [hms, hsize]; unfold maxLen; omega) (by rw [hms, hsize]; omega) w hseq
  change CallsIn _ _ Try.prog 28 _ _ _ at cS
  refine (callsIn_wide.2 (callsIn_wide.1 cS)).mono ?_
  rintro e w' ⟨v, ss, rfl, hS, hrow, hnil, hbel⟩
  have hsk : ss.Perm ks' := hS.trans hik
  have hrow' : w'.ownsRow w.heap.size 3 1 v ks'.length ((isortI ks').map (Value.int .i64)) := by
   have := hrow
   rw [zRo hsk, hsk.length_eq] at this
   exact this
  exact ⟨v, rfl, hbel, hrow', fun h0 => hnil.2 (List.eq_nil_of_length_eq_zero (by rw [hsk.length_eq]; exact h0))⟩
theorem zMx {l : List Value} {H : Tr AObj} {n : Nat} {ks : List Int} (h : zBa l H = some ks) : TOK Try.prog 0 (.call 28 l) ⟨.e, H, n, [], []⟩ (listOut 3 1 ((isortI ks).map (Value.int .i64)) ks.length id H n) := by
 have main : ∀ (E : Env) (w : World) (args' : Array Value), VL E l args'.toList → HR Try.prog E H.get w → (ks.length ≠ 0 → Free E n (n + 1)) → CallsIn Fence.wide 0 Try.prog 28 args' w (CallEnd Try.prog E n w (listOut 3 1 ((isortI ks).map (Value.int .i64)) ks.length id H n)) := by
  intro E w args' hva hE hf
  refine (zKf h E w args' hva hE).mono ?_
  rintro e w' ⟨v, rfl, hbel, hrow', hnil⟩
  refine list_end hE hf ?_ (by kernel_rfl) (fun h => by rw [Try.underlying3] at h; cases h) hbel hrow' hnil
  simp [plainL, plainV]
 unfold listOut at main ⊢
 cases hz : ks.length.beq 0 with
 | true =>
  simp only [hz, cond_true] at main ⊢
  exact ⟨Grw.refl _ _ _, fun E w args' hgl hva hE hl hf => main E w args' hva hE (fun h0 => absurd (Nat.eq_of_beq_eq_true hz) h0)⟩
 | false =>
  simp only [hz, cond_false] at main ⊢
  exact ⟨⟨Nat.le_succ _, fun k hk _ => Tr.get_set_ne _ _ (by have hk : k < n := hk; omega), fun h0 => h0.new _⟩, fun E w args' hgl hva hE hl hf => main E w args' hva hE (fun _ => hf)⟩
def zMa : Ct Try.prog 0 where
 f := 28
 res l H n := match zBa l H with | some ks => listOut 3 1 ((isortI ks).map (Value.int .i64)) ks.length id H n | none => .bad "sorted" []
 ok l H n := by
  cases h : zBa l H with
  | none => trivial
  | some ks => exact zMx h
 ck l H n K := match zBa l H with | some ks => K (listOut 3 1 ((isortI ks).map (Value.int .i64)) ks.length id H n) | none => False
 imp l H n K h := by
  cases hs : zBa l H with
  | none => rw [hs] at h; exact h.elim
  | some ks => rw [hs] at h; exact h
end Go.Proofs.Ytpdeidlkeplegaa
namespace Go.Proofs.Ytpdeidlkeplegaa
open Go Go.RowKit
theorem wrapN {x : Int} (h1 : 0 ≤ x) (h2 : x < 9223372036854775808) : IntKind.i64.wrap x = x := zQm (by omega) h2
structure CliX where
 n : Int
 w : Int
 i : Bool
def CliX.val (c : CliX) : Value := .agg #[.int .i64 c.w, .bool c.i]
def CliX.e (c : CliX) : MapEntry := { key := .int .i64 c.n, val := .agg #[.int .i64 c.w, .bool c.i], born := 0 }
def encC (l : List CliX) : List MapEntry := l.map CliX.e
theorem zEc (a b : List CliX) : encC (a ++ b) = encC a ++ encC b := List.map_append
theorem zKx (a : Int) (c : CliX) : eqK Try.prog 3 (.int .i64 a) c.e = some (a == c.n) := by kernel_rfl
theorem zCb (em : Bool) (a : Int) : keyOk Try.prog 3 em (.int .i64 a) = true := by cases em <;> kernel_rfl
theorem zCs (l : List CliX) : zAa (encC l) = true := by
 unfold zAa encC
 rw [List.all_map]
 exact List.all_eq_true.2 fun _ _ => rfl
def keysC (l : List CliX) : List Int := l.map CliX.n
theorem zGg {a : Int} : ∀ {l : List CliX} (i : Nat), a ∉ keysC l → zBk Try.prog 3 (.int .i64 a) (encC l) i = some none
 | [], _, _ => rfl
 | c :: l, i, h => by
  have h1 : (a == c.n) = false := by
   have : a ≠ c.n := fun e => h (by rw [e]; exact List.mem_cons_self ..)
   simpa using this
  show zBk _ _ _ (c.e :: encC l) i = _
  unfold zBk
  rw [zKx, h1]
  exact zGg (i + 1) (fun hm => h (List.mem_cons_of_mem _ hm))
theorem zEh {c : CliX} {B : List CliX} : ∀ {A : List CliX} (i : Nat), (keysC (A ++ c :: B)).Nodup → zBk Try.prog 3 (.int .i64 c.n) (encC (A ++ c :: B)) i = some (some (i + A.length, c.val))
 | [], i, hn => by
  have hn : (c.n :: keysC B).Nodup := hn
  rw [List.nodup_cons] at hn
  show zBk _ _ _ (c.e :: encC B) i = _
  unfold zBk
  rw [zKx, show (c.n == c.n) = true by simp]
  have hall : ∀ x ∈ encC B, eqK Try.prog 3 (.int .i64 c.n) x = some false := fun x hx => by
   obtain ⟨d, hd, rfl⟩ := List.mem_map.1 hx
   have : (c.n == d.n) = false := by
    have : c.n ≠ d.n := fun e => hn.1 (by rw [e]; exact List.mem_map_of_mem hd)
    simpa using this
   rw [zKx, this]
  have key : ∀ (p : MapEntry → Bool), (∀ x ∈ encC B, p x = true) → (encC B).all p = true := fun p hp => List.all_eq_true.2 hp
  simp only []
  rw [key]
  ·rfl
  ·intro x hx
   rw [hall x hx]
 | d :: A, i, hn => by
  have hn : (d.n :: keysC (A ++ c :: B)).Nodup := hn
  rw [List.nodup_cons] at hn
  have h1 : (c.n == d.n) = false := by
   have : c.n ≠ d.n := fun e => hn.1 (by rw [← e]; exact List.mem_map_of_mem (by simp))
   simpa using this
  show zBk _ _ _ (d.e :: encC (A ++ c :: B)) i = _
  unfold zBk
  rw [zKx, h1]
  have := zEh (A := A) (i + 1) hn.2
  rw [List.length_cons, show i + (A.length + 1) = i + 1 + A.length by omega]
  exact this
theorem encC_rm {σ : Nat → Nat → Prop} (l : List CliX) : RM σ (encC l) (encC l) := by
 induction l with
 | nil => exact .nil
 | cons x l ih => exact .cons _ _ _ _ (.int _ _) (.agg _ _ (.cons _ _ _ _ (.int _ _) (.cons _ _ _ _ (.bool _) .nil))) ih
theorem zAd {σ : Nat → Nat → Prop} (l : List CliX) (k : Nat) : RO Try.prog σ (.map (encC l) k) (.map (encC l) k) := RO.map _ _ _ (encC_rm _)
theorem splitC {l : List CliX} {a : Int} (h : a ∈ keysC l) : ∃ A c B, l = A ++ c :: B ∧ c.n = a := by
 obtain ⟨c, hc, rfl⟩ := List.mem_map.1 h
 obtain ⟨A, B, rfl⟩ := List.append_of_mem hc
 exact ⟨A, c, B, rfl, rfl⟩
def getC (l : List CliX) (a : Int) : Option CliX := l.find? fun c => c.n == a
def whenC (l : List CliX) (a : Int) : Int := ((getC l a).map CliX.w).getD 0
def idleC (l : List CliX) (a : Int) : Bool := ((getC l a).map CliX.i).getD false
def hasC (l : List CliX) (a : Int) : Bool := (getC l a).isSome
def putC (l : List CliX) (a w : Int) (b : Bool) : List CliX := if hasC l a then l.map (fun c => if c.n == a then ⟨a, w, b⟩ else c) else l ++ [⟨a, w, b⟩]
def delC (l : List CliX) (a : Int) : List CliX := l.filter fun c => !(c.n == a)
theorem getC_none {l : List CliX} {a : Int} (h : a ∉ keysC l) : getC l a = none := by
 unfold getC
 rw [List.find?_eq_none]
 intro c hc
 have : c.n ≠ a := fun e => h (by rw [← e]; exact List.mem_map_of_mem hc)
 simpa using this
theorem zPn {A B : List CliX} {c : CliX} (hn : (keysC (A ++ c :: B)).Nodup) : getC (A ++ c :: B) c.n = some c := by
 unfold getC
 have hA : A.find? (fun x => x.n == c.n) = none := by
  rw [List.find?_eq_none]
  intro d hd e
  unfold keysC at hn
  rw [List.map_append, List.nodup_append] at hn
  exact hn.2.2 d.n (List.mem_map_of_mem hd) c.n (by simp) (by simpa using e)
 rw [List.find?_append, hA]
 simp
theorem zPv {A B : List CliX} {c : CliX} (hn : (keysC (A ++ c :: B)).Nodup) : (∀ d ∈ A, (d.n == c.n) = false) ∧ ∀ d ∈ B, (d.n == c.n) = false := by
 unfold keysC at hn
 rw [List.map_append, List.map_cons, List.nodup_append, List.nodup_cons] at hn
 refine ⟨fun d hd => ?_, fun d hd => ?_⟩
 ·have : d.n ≠ c.n := hn.2.2 d.n (List.mem_map_of_mem hd) c.n (List.mem_cons_self ..)
  simpa using this
 ·have : d.n ≠ c.n := fun e => hn.2.1.1 (by rw [← e]; exact List.mem_map_of_mem hd)
  simpa using this
theorem zAn {l : List CliX} {a : Int} : hasC l a = true ↔ a ∈ keysC l := by
 unfold hasC getC keysC
 rw [List.find?_isSome]
 constructor
 ·rintro ⟨c, hc, e⟩
  have e : c.n = a := by simpa using e
  exact e ▸ List.mem_map_of_mem hc
 ·intro h
  obtain ⟨c, hc, rfl⟩ := List.mem_map.1 h
  exact ⟨c, hc, by simp⟩
theorem putC_mid {A B : List CliX} {c : CliX} (hn : (keysC (A ++ c :: B)).Nodup) (w : Int) (b : Bool) : putC (A ++ c :: B) c.n w b = A ++ ⟨c.n, w, b⟩ :: B := by
 obtain ⟨h1, h2⟩ := zPv hn
 unfold putC
 rw [if_pos (by unfold hasC; rw [zPn hn]; rfl), List.map_append, List.map_cons]
 congr 1
 ·conv => rhs; rw [← List.map_id A]
  exact List.map_congr_left fun d hd => by rw [if_neg (by rw [h1 d hd]; simp)]; rfl
 ·congr 1
  ·rw [if_pos (by simp)]
  ·conv => rhs; rw [← List.map_id B]
   exact List.map_congr_left fun d hd => by rw [if_neg (by rw [h2 d hd]; simp)]; rfl
theorem zPe {A B : List CliX} {c : CliX} (hn : (keysC (A ++ c :: B)).Nodup) : delC (A ++ c :: B) c.n = A ++ B := by
 obtain ⟨h1, h2⟩ := zPv hn
 unfold delC
 rw [List.filter_append, List.filter_cons_of_neg (by simp), List.filter_eq_self.2 fun d hd => by rw [h1 d hd]; rfl, List.filter_eq_self.2 fun d hd => by rw [h2 d hd]; rfl]
section
variable {ev : Operand → Value} {G : Gh} {n : Nat} {o : Oper}
theorem aop_cliY {t e : TypeId} {x y : Operand} {r ck : Nat} {A B : List CliX} {c : CliX} {ok : Bool} (ho : o.op = .lookup t x y ok) (hx : ev x = .map (some r)) (hy : ev y = .int .i64 c.n) (hu : Try.prog.underlying t = some (.map 3 e)) (hG : G r = some (.map (encC (A ++ c :: B)) ck)) (hn : (keysC (A ++ c :: B)).Nodup) :
  aop Try.prog o ev G n = .val (bif ok then .tuple #[c.val, .bool true] else c.val) [] 0 := by
 unfold aop aop0 aStr
 simp only [ho, ORes.or]
 unfold zCx
 simp only [hu, hx, hy, hG, Try.underlying3, zCs, zCb, Bool.and_self, cond_true, zEh 0 hn]
theorem aop_cliN {t e : TypeId} {x y : Operand} {r ck : Nat} {l : List CliX} {a : Int} {ok : Bool} (ho : o.op = .lookup t x y ok) (hx : ev x = .map (some r)) (hy : ev y = .int .i64 a) (hu : Try.prog.underlying t = some (.map 3 e)) (hz : ((Try.prog.info? e).bind (·.zero)) = some (.agg #[.int .i64 0, .bool false])) (hG : G r = some (.map (encC l) ck)) (h : a ∉ keysC l) :
  aop Try.prog o ev G n = .val (bif ok then .tuple #[.agg #[.int .i64 0, .bool false], .bool false] else .agg #[.int .i64 0, .bool false]) [] 0 := by
 obtain ⟨i, h1, h2⟩ := Option.bind_eq_some_iff.1 hz
 unfold aop aop0 aStr
 simp only [ho, ORes.or]
 unfold zCx
 simp only [hu, hx, hy, hG, Try.underlying3, zCs, zCb, Bool.and_self, cond_true, zGg 0 h, h1, h2]
 rfl
theorem aop_cliU {t e : TypeId} {x y z : Operand} {r ck : Nat} {A B : List CliX} {c : CliX} {w : Int} {b : Bool} (ho : o.op = .mapUpdate t x y z) (hx : ev x = .map (some r)) (hy : ev y = .int .i64 c.n) (hz : ev z = .agg #[.int .i64 w, .bool b]) (hu : Try.prog.underlying t = some (.map 3 e)) (hG : G r = some (.map (encC (A ++ c :: B)) ck)) (hn : (keysC (A ++ c :: B)).Nodup) :
  aop Try.prog o ev G n = .val undef [(r, some (.map (encC (A ++ ⟨c.n, w, b⟩ :: B)) ck))] 0 := by
 have hsb : ∀ a : Int, Instr.sameBits 10000 (.int .i64 a) (.int .i64 a) = true := fun a => by unfold Instr.sameBits; simp
 have hkey : (((encC (A ++ c :: B))[0 + A.length]?).map (·.key)).getD (.int .i64 c.n) = .int .i64 c.n := by
  rw [zEc, List.getElem?_append_right (by simp [encC]), show 0 + A.length - (encC A).length = 0 by simp [encC]]
  rfl
 unfold aop aop0 aStr
 simp only [ho, ORes.or]
 unfold zCk
 simp only [hu, hx, hy, hz, hG, Try.underlying3, zCs, zCb, Bool.and_self, cond_true, zEh 0 hn, hkey, hsb]
 have : modE (encC (A ++ c :: B)) (0 + A.length) (.int .i64 c.n) (.agg #[.int .i64 w, .bool b]) = encC (A ++ ⟨c.n, w, b⟩ :: B) := by
  unfold modE
  rw [zEc, zEc, Nat.zero_add, show A.length = (encC A).length by simp [encC]]
  exact zEo _
 rw [this]
theorem zKr {t e : TypeId} {x y z : Operand} {r ck : Nat} {l : List CliX} {a w : Int} {b : Bool} (ho : o.op = .mapUpdate t x y z) (hx : ev x = .map (some r)) (hy : ev y = .int .i64 a) (hz : ev z = .agg #[.int .i64 w, .bool b]) (hu : Try.prog.underlying t = some (.map 3 e)) (hG : G r = some (.map (encC l) ck)) (h : a ∉ keysC l) :
  aop Try.prog o ev G n = .val undef [(r, some (.map (encC (l ++ [⟨a, w, b⟩])) (ck + 1)))] 0 := by
 unfold aop aop0 aStr
 simp only [ho, ORes.or]
 unfold zCk
 simp only [hu, hx, hy, hz, hG, Try.underlying3, zCs, zCb, Bool.and_self, cond_true, zGg 0 h]
 rw [zEc]; rfl
theorem aop_cliD {t e xT : TypeId} {x y : Operand} {r ck : Nat} {A B : List CliX} {c : CliX} (ho : o.op = .call ⟨.builtin .delete, #[x, y], #[t, xT]⟩) (hx : ev x = .map (some r)) (hy : ev y = .int .i64 c.n) (hu : Try.prog.underlying t = some (.map 3 e)) (hG : G r = some (.map (encC (A ++ c :: B)) ck)) (hn : (keysC (A ++ c :: B)).Nodup) :
  aop Try.prog o ev G n = .val (.tuple #[]) [(r, some (.map (encC (A ++ B)) ck))] 0 := by
 unfold aop aop0 aStr
 simp only [ho, ORes.or, zBs, List.map_cons, List.map_nil]
 unfold zGd
 simp only [hu, hx, hy, hG, Try.underlying3, zCs, zCb, Bool.and_self, cond_true, zEh 0 hn]
 have : (encC (A ++ c :: B)).eraseIdx (0 + A.length) = encC (A ++ B) := by
  rw [zEc, zEc, Nat.zero_add, show A.length = (encC A).length by simp [encC]]
  exact zFl
 rw [this]
theorem zCy {t e : TypeId} {x y : Operand} {r ck : Nat} {l : List CliX} {a : Int} {ok : Bool} (ho : o.op = .lookup t x y ok) (hx : ev x = .map (some r)) (hy : ev y = .int .i64 a) (hu : Try.prog.underlying t = some (.map 3 e)) (hz : ((Try.prog.info? e).bind (·.zero)) = some (.agg #[.int .i64 0, .bool false])) (hG : G r = some (.map (encC l) ck)) (hn : (keysC l).Nodup) :
  aop Try.prog o ev G n = .val (bif ok then .tuple #[.agg #[.int .i64 (whenC l a), .bool (idleC l a)], .bool (hasC l a)] else .agg #[.int .i64 (whenC l a), .bool (idleC l a)]) [] 0 := by
 by_cases h : a ∈ keysC l
 ·obtain ⟨A, c, B, rfl, rfl⟩ := splitC h
  rw [aop_cliY ho hx hy hu hG hn]
  unfold whenC idleC hasC
  rw [zPn hn]; rfl
 ·rw [aop_cliN ho hx hy hu hz hG h]
  unfold whenC idleC hasC
  rw [getC_none h]; rfl
theorem zPd {t e : TypeId} {x y z : Operand} {r ck : Nat} {l : List CliX} {a w : Int} {b : Bool} (ho : o.op = .mapUpdate t x y z) (hx : ev x = .map (some r)) (hy : ev y = .int .i64 a) (hz : ev z = .agg #[.int .i64 w, .bool b]) (hu : Try.prog.underlying t = some (.map 3 e)) (hG : G r = some (.map (encC l) ck)) (hn : (keysC l).Nodup) :
  aop Try.prog o ev G n = .val undef [(r, some (.map (encC (putC l a w b)) (bif hasC l a then ck else ck + 1)))] 0 := by
 by_cases h : a ∈ keysC l
 ·have hh := zAn.2 h
  obtain ⟨A, c, B, rfl, rfl⟩ := splitC h
  rw [aop_cliU ho hx hy hz hu hG hn, putC_mid hn, hh]; rfl
 ·have hh : hasC l a = false := by cases hb : hasC l a; rfl; exact absurd (zAn.1 hb) h
  rw [zKr ho hx hy hz hu hG h, hh]
  unfold putC
  rw [if_neg (by rw [hh]; simp)]; rfl
theorem aop_cliR {t e xT : TypeId} {x y : Operand} {r ck : Nat} {l : List CliX} {a : Int} (ho : o.op = .call ⟨.builtin .delete, #[x, y], #[t, xT]⟩) (hx : ev x = .map (some r)) (hy : ev y = .int .i64 a) (hu : Try.prog.underlying t = some (.map 3 e)) (hG : G r = some (.map (encC l) ck)) (hn : (keysC l).Nodup) (h : hasC l a = true) :
  aop Try.prog o ev G n = .val (.tuple #[]) [(r, some (.map (encC (delC l a)) ck))] 0 := by
 obtain ⟨A, c, B, rfl, rfl⟩ := splitC (zAn.1 h)
 rw [aop_cliD ho hx hy hu hG hn, zPe hn]
end
end Go.Proofs.Ytpdeidlkeplegaa
namespace Go.Proofs.Ytpdeidlkeplegaa
open Go Go.RowKit
def iV (a : Int) : Value := .int .i64 a
def fnV (g cb : Nat) : Value := .func (.func g) #[] #[.pointer (some ⟨cb, 0, none⟩)]
def tabO (most : Int) (mb : Nat) : AObj := .cells [.int .i64 most, .map (some mb)] 54
def boxO (tb : Nat) : AObj := .cells [.pointer (some ⟨tb, 0, none⟩)] 24
def tblH (C : List Int) (most : Int) (l : List CliX) (ck : Nat) : Tr AObj := heap 3 [(0, .cells (C.map iV) 3), (1, boxO 2), (2, tabO most 3), (3, .map (encC l) ck)]
theorem zBb (C : List Int) : plainL (C.map iV) = true := by simp [plainL, plainV, iV]
theorem zCm {σ : Nat → Nat → Prop} {a b : Nat} (h : σ a b) : RO Try.prog σ (boxO a) (boxO b) := RO.cells _ [] _ _ (.cons _ _ _ _ (.ptr _ _ _ h) .nil)
theorem zAk {σ : Nat → Nat → Prop} {most : Int} {a b : Nat} (h : σ a b) : RO Try.prog σ (tabO most a) (tabO most b) := RO.cells _ [] _ _ (.cons _ _ _ _ (.int _ _) (.cons _ _ _ _ (.map _ _ h) .nil))
def ixF (l : List CliX) : List Int → Option Nat
 | [] => none
 | a :: L => if idleC l a then (ixF l L).map (· + 1) else some 0
def ixV (l : List CliX) (L : List Int) : Int := match ixF l L with | some i => (i : Int) | none => -1
noncomputable def inl_g1 : Ct Try.prog 0 := Ct.inl (tbOf mixed []) mixed [900005] 31 Try.f31 Try.func31 (bodyOf Try.f31) (by kernel_rfl)
noncomputable def tbTq2 : Tb Try.prog 0 := tbOf mixed [inl_g1]
theorem zDl : ((Try.prog.info? 62).bind (·.zero)) = some (.agg #[.int .i64 0, .bool false]) := by kernel_rfl
theorem ix_fn (L : List Int) (most : Int) (l : List CliX) (ck : Nat) (hn : (keysC l).Nodup) (hL : L.length ≤ 1000000) : ∃ r, FnS Try.prog 0 39 [.slice (some ⟨0, 0, none⟩) L.length U, fnV 31 1] (tblH L most l ck) 4 r ∧ ∃ H m wr, r = .ret (.int .i64 (ixV l L)) H m wr ∧ ∀ k ∈ wr, 4 ≤ k := by
 refine zHg mixed tbTq2 [0] Try.func39 (c := bodyOf Try.f39) (by kernel_rfl) ?_
 refine zCh (fun (i : Nat) f => ⟨slots 5 [(0, .slice (some ⟨0, 0, none⟩) L.length U), (1, fnV 31 1), (7, .int .i64 (L.length : Nat)), (8, .int .i64 (i : Nat))] f, tblH L most l ck, 4, [], []⟩) (fun i => L.length - i) (fun i => i ≤ L.length ∧ ixF l L = (ixF l (L.drop i)).map (· + i)) 0 ⟨Nat.zero_le _, by rw [List.drop_zero]; cases ixF l L <;> rfl⟩ (rcq [] ⟨⟨_, rfl, .sl _ _ _ _ _ rfl⟩, ⟨_, rfl, .func _ _ _ _ _ rfl .nil (.cons _ _ _ _ (.ptr _ _ _ rfl) .nil)⟩, ⟨_, rfl, .int _ _⟩, ⟨_, rfl, .int _ _⟩, trivial⟩ ⟨bpo (zBb L), ⟨by decide, _, rfl, zCm rfl⟩, ⟨by decide, _, rfl, zAk rfl⟩, ⟨by decide, _, rfl, zAd l ck⟩, trivial⟩ .nil) ?_
 rintro i f ⟨hi, heq⟩
 have hi : i ≤ L.length := hi
 refine zJb tbTq2 [0] 4 _ none mixed _ _ _ ?_
 refine ifK (fun h1 => ?_) (fun h1 => ?_)
 ·have h1 : i < L.length := by have h1 : ((i : Nat) : Int) < (L.length : Int) := of_decide_eq_true h1; omega
  refine ifK (fun _ => ?_) (fun h2 => absurd h2 (by simp [inI]; omega))
  refine Exists.intro L[i] (And.intro (by show (L.map iV)[0 + (i : Int).toNat * 1]? = _; simp [h1, iV]) ?_)
  have hst : ixF l (L.drop i) = if idleC l L[i] then (ixF l (L.drop (i + 1))).map (· + 1) else some 0 := by rw [List.drop_eq_getElem_cons h1]; rfl
  refine Exists.intro (.agg #[.int .i64 (whenC l L[i]), .bool (idleC l L[i])]) (Exists.intro [] (Exists.intro 0 (And.intro (zCy (e := 62) (l := l) (a := L[i]) (ck := ck) (r := 3) (ok := false) rfl rfl rfl (by kernel_rfl) zDl rfl hn) ?_)))
  refine ifK (fun h3 => ?_) (fun h3 => ?_)
  ·have h3 : (!idleC l L[i]) = true := h3
   have h3 : idleC l L[i] = false := by simpa using h3
   have hv : ixV l L = (i : Int) := by unfold ixV; rw [heq, hst, h3]; simp
   rw [hv]
   exact And.intro rfl (zDx (rcq [] (d := 5) (d2 := 0) (lv := [(4, .int .i64 (i : Nat))]) (bs := []) (W := []) (m := 4) (df := []) ⟨⟨_, rfl, .int _ _⟩, trivial⟩ trivial .nil) (fun f => ⟨_, _, _, rfl, fun k hk => by cases hk⟩))
  ·have h3 : (!idleC l L[i]) = false := h3
   have h3 : idleC l L[i] = true := by simpa using h3
   refine ⟨i + 1, ⟨h1, ?_⟩, by show L.length - (i + 1) < L.length - i; omega, rcq [] ⟨⟨_, rfl, .sl _ _ _ _ _ rfl⟩, ⟨_, rfl, .func _ _ _ _ _ rfl .nil (.cons _ _ _ _ (.ptr _ _ _ rfl) .nil)⟩, ⟨_, rfl, .int _ _⟩, zAc rfl (by rw [wrapN (by omega) (by omega)]; omega), trivial⟩ ⟨bpo (zBb L), ⟨by decide, _, rfl, zCm rfl⟩, ⟨by decide, _, rfl, zAk rfl⟩, ⟨by decide, _, rfl, zAd l ck⟩, trivial⟩ .nil⟩
   rw [heq, hst, h3, if_pos rfl, Option.map_map]
   congr 1
   funext x
   show x + 1 + i = x + (i + 1)
   omega
 ·have h1 : ¬ i < L.length := by have h1 : ¬ ((i : Nat) : Int) < (L.length : Int) := of_decide_eq_false h1; omega
  have hv : ixV l L = -1 := by unfold ixV; rw [heq, List.drop_eq_nil_of_le (by omega)]; rfl
  rw [hv]
  exact And.intro rfl (zDx (rcq [] (d := 5) (d2 := 0) (lv := []) (bs := []) (W := []) (m := 4) (df := []) trivial trivial .nil) (fun f => ⟨_, _, _, rfl, fun k hk => by cases hk⟩))
end Go.Proofs.Ytpdeidlkeplegaa
namespace Go.Proofs.Ytpdeidlkeplegaa
open Go Go.RowKit
structure TbA where
 lb : Nat
 cb : Nat
 tb : Nat
 mb : Nat
 k : Nat
 L : List Int
 most : Int
 l : List CliX
 ck : Nat
def TbA.at (x : TbA) (H : Tr AObj) : Prop := H.get x.lb = some (.cells (x.L.map iV) 3) ∧ H.get x.cb = some (boxO x.tb) ∧ H.get x.tb = some (tabO x.most x.mb) ∧ H.get x.mb = some (.map (encC x.l) x.ck) ∧ [x.lb, x.cb, x.tb, x.mb].Nodup
def TbA.as (x : TbA) (g : Nat) : List Value := [.slice (some ⟨x.lb, 0, none⟩) x.k U, fnV g x.cb]
theorem zHj {a b : List CliX} (h : encC a = encC b) : a = b := by
 induction a generalizing b with
 | nil => cases b with
  | nil => rfl
  | cons _ _ => cases h
 | cons x a ih => cases b with
  | nil => cases h
  | cons y b =>
   obtain ⟨n, w, i⟩ := x
   obtain ⟨n', w', i'⟩ := y
   have h2 : CliX.e ⟨n, w, i⟩ :: encC a = CliX.e ⟨n', w', i'⟩ :: encC b := h
   clear h
   simp only [List.cons.injEq, CliX.e, MapEntry.mk.injEq, Value.int.injEq, Value.agg.injEq, Array.mk.injEq, Value.bool.injEq, true_and, and_true] at h2
   obtain ⟨⟨e1, e2, e3⟩, h3⟩ := h2
   subst e1 e2 e3
   rw [ih h3]
theorem iV_inj : ∀ {a b : List Int}, a.map iV = b.map iV → a = b
 | [], [], _ => rfl
 | [], _ :: _, h => by cases h
 | _ :: _, [], h => by cases h
 | x :: a, y :: b, h => by
  simp only [List.map_cons, List.cons.injEq, iV, Value.int.injEq, true_and] at h
  obtain ⟨rfl, h⟩ := h
  rw [iV_inj h]
theorem TbA.uniq {x y : TbA} {g : Nat} {H : Tr AObj} (e : x.as g = y.as g) (h : x.at H) (k : y.at H) : x = y := by
 obtain ⟨lb, cb, tb, mb, n, L, most, l, ck⟩ := x
 obtain ⟨lb', cb', tb', mb', n', L', most', l', ck'⟩ := y
 obtain ⟨h1, h2, h3, h4, _⟩ := h
 obtain ⟨k1, k2, k3, k4, _⟩ := k
 simp only [TbA.as, fnV, List.cons.injEq, Value.slice.injEq, Option.some.injEq, Addr.mk.injEq, Value.func.injEq, Array.mk.injEq, Value.pointer.injEq, true_and, and_true] at e
 obtain ⟨⟨rfl, rfl⟩, rfl⟩ := e
 have h1 : H.get lb = _ := h1
 have k1 : H.get lb = _ := k1
 rw [h1] at k1
 simp only [Option.some.injEq, AObj.cells.injEq, and_true] at k1
 have e1 := iV_inj k1
 have h2 : H.get cb = _ := h2
 have k2 : H.get cb = _ := k2
 rw [h2] at k2
 simp only [boxO, Option.some.injEq, AObj.cells.injEq, List.cons.injEq, Value.pointer.injEq, Addr.mk.injEq, and_true] at k2
 subst k2
 have h3 : H.get tb = _ := h3
 have k3 : H.get tb = _ := k3
 rw [h3] at k3
 simp only [tabO, Option.some.injEq, AObj.cells.injEq, List.cons.injEq, Value.map.injEq, Value.int.injEq, true_and, and_true] at k3
 obtain ⟨rfl, rfl⟩ := k3
 have h4 : H.get mb = _ := h4
 have k4 : H.get mb = _ := k4
 rw [h4] at k4
 simp only [Option.some.injEq, AObj.map.injEq] at k4
 obtain ⟨e2, rfl⟩ := k4
 have e2 := zHj e2
 subst e1 e2
 rfl
theorem TbA.callB {x : TbA} {H : Tr AObj} (h : x.at H) : CallB Try.prog [x.lb, x.cb, x.tb, x.mb] H (tblH x.L x.most x.l x.ck) :=
 zKu ⟨⟨x.lb, _, rfl, h.1, .same (zBb _)⟩, ⟨x.cb, _, rfl, h.2.1, zCm rfl⟩, ⟨x.tb, _, rfl, h.2.2.1, zAk rfl⟩, ⟨x.mb, _, rfl, h.2.2.2.1, zAd _ _⟩, trivial⟩
theorem TbA.rl (x : TbA) (g : Nat) : RL (caR [x.lb, x.cb, x.tb, x.mb]) (x.as g) [.slice (some ⟨0, 0, none⟩) x.k U, fnV g 1] :=
 .cons _ _ _ _ (.sl _ _ _ _ _ rfl) (.cons _ _ _ _ (.func _ _ _ _ _ rfl .nil (.cons _ _ _ _ (.ptr _ _ _ rfl) .nil)) .nil)
noncomputable def ct_tbl (f g : FuncId) (D : List Int → Nat → List CliX → Value) (pre : List Int → Nat → List CliX → Prop) (hp : ∀ L k l, plainV 8 (D L k l) = true)
  (hfn : ∀ (L : List Int) (k : Nat) (most : Int) (l : List CliX) (ck : Nat), pre L k l → ∃ r, FnS Try.prog 0 f [.slice (some ⟨0, 0, none⟩) k U, fnV g 1] (tblH L most l ck) 4 r ∧ ∃ H m wr, r = .ret (D L k l) H m wr ∧ ∀ j ∈ wr, 4 ≤ j) : Ct Try.prog 0 :=
 CtR.ct { f := f, X := TbA, pre := fun x a H _ => a = x.as g ∧ x.at H ∧ pre x.L x.k x.l, out := fun x H n => .ret (D x.L x.k x.l) H n [],
          ok := fun x a H n ⟨h1, h2, h3⟩ => by
           subst h1
           obtain ⟨r, hF, H', m, wr, rfl, hw⟩ := hfn x.L x.k x.most x.l x.ck h3
           exact zDr [x.lb, x.cb, x.tb, x.mb] hF hw (zDs h2.2.2.2.2) (x.rl g) (TbA.callB h2) (hp _ _ _),
          uniq := fun x y a H n ⟨h1, h2, _⟩ ⟨k1, k2, _⟩ => by
           rw [h1] at k1
           rw [TbA.uniq k1 h2 k2] }
noncomputable def ct_ix : Ct Try.prog 0 := ct_tbl 39 31 (fun L _ l => .int .i64 (ixV l L)) (fun L k l => k = L.length ∧ (keysC l).Nodup ∧ L.length ≤ 1000000) (fun _ _ _ => rfl)
 (fun L k most l ck ⟨h1, h2, h3⟩ => by subst h1; exact ix_fn L most l ck h2 h3)
end Go.Proofs.Ytpdeidlkeplegaa
namespace Go.Proofs.Ytpdeidlkeplegaa
open Go Go.RowKit
def delF (l : List CliX) (L : List Int) : List Int := L.filter (idleC l)
def delL (l : List CliX) (L : List Int) : List Int := delF l L ++ List.replicate (L.length - (delF l L).length) 0
theorem zPs {l : List CliX} : ∀ {L : List Int} {i : Nat}, ixF l L = some i → ∃ h : i < L.length, idleC l L[i] = false ∧ (L.take (i + 1)).filter (idleC l) = L.take i
 | [], _, h => by cases h
 | a :: L, i, h => by
  unfold ixF at h
  by_cases ha : idleC l a = true
  ·rw [if_pos ha] at h
   cases hx : ixF l L with
   | none => rw [hx] at h; cases h
   | some j =>
    rw [hx] at h
    simp only [Option.map_some, Option.some.injEq] at h
    subst h
    obtain ⟨h1, h2, h3⟩ := zPs hx
    refine ⟨by simpa using h1, h2, ?_⟩
    rw [List.take_succ_cons, List.filter_cons_of_pos ha, h3]; rfl
  ·rw [if_neg ha] at h
   cases h
   have ha : idleC l a = false := by simpa using ha
   exact ⟨by simp, ha, by rw [List.take_succ_cons, List.filter_cons_of_neg (by rw [ha]; simp)]; rfl⟩
theorem zPr {l : List CliX} : ∀ {L : List Int}, ixF l L = none → L.filter (idleC l) = L
 | [], _ => rfl
 | a :: L, h => by
  unfold ixF at h
  by_cases ha : idleC l a = true
  ·rw [if_pos ha] at h
   cases hx : ixF l L with
   | none => rw [List.filter_cons_of_pos ha, zPr hx]
   | some j => rw [hx] at h; cases h
  ·rw [if_neg ha] at h; cases h
theorem int_ty : TyIs Try.prog 3 1 8 (.int .i64 0) := tyIs_of (by kernel_rfl)
theorem set_iV (C : List Int) (j : Nat) (b : Int) (h : j < C.length) : (C.map iV).take (0 + j * 1) ++ [iV b] ++ (C.map iV).drop (0 + j * 1 + 1) = (C.set j b).map iV := by
 rw [Nat.zero_add, Nat.mul_one, List.map_set, List.set_eq_take_append_cons_drop, if_pos (by rw [List.length_map]; exact h)]
 simp
theorem zero_ints (n : Nat) : zeroL (Value.int .i64 0).cells n = (List.replicate n (0 : Int)).map iV := by
 unfold zeroL
 rw [show (Value.int .i64 0).cells = #[.int .i64 0] from rfl]
 show (List.range (n * 1)).map _ = _
 rw [Nat.mul_one, List.map_replicate]
 refine List.eq_replicate_iff.2 ⟨by simp, fun b hb => ?_⟩
 obtain ⟨i, _, rfl⟩ := List.mem_map.1 hb
 rw [show i % (#[Value.int .i64 0] : Array Value).size = 0 from Nat.mod_one i]; rfl
theorem aop_clrI {ev : Operand → Value} {G : Gh} {m : Nat} {o : Oper} {x : Operand} {t e : TypeId} {b off n c : Nat} {C : List Int} (ho : o.op = .call ⟨.builtin .clear, #[x], #[t]⟩) (hx : ev x = .slice (some ⟨b, off, none⟩) n c) (hu : Try.prog.underlying t = some (.slice 3)) (hg : G b = some (.cells (C.map iV) e)) (hl : off + n ≤ C.length) (hn : n ≠ 0) :
  aop Try.prog o ev G m = .val (.tuple #[]) [(b, some (.cells ((C.take off ++ List.replicate n 0 ++ C.drop (off + n)).map iV) e))] 0 := by
 obtain ⟨i, hi, _, _, hz⟩ := int_ty
 have hb0 : n.beq 0 = false := by cases hb : n.beq 0; rfl; exact absurd (Nat.eq_of_beq_eq_true hb) hn
 have hlen : ((List.replicate n (0 : Int)).map iV).length = n := by simp
 have h1 : oneL ((List.replicate n (0 : Int)).map iV) = true := by unfold oneL; simp [iV]; exact .inr rfl
 have h2 : (((List.replicate n (0 : Int)).map iV).all (plainV 8)) = true := by simp [iV, plainV]
 unfold aop aop0 aStr
 simp only [ho, ORes.or, zBs, List.map_cons, List.map_nil]
 unfold zOw
 simp only [hu, hx, hb0, cond_false, hi, hz, hg, zero_ints, hlen, h1, h2, Bool.and_true, List.length_map]
 rw [Nat.ble_eq_true_of_le hl, cond_true, List.map_append, List.map_append, List.map_take, List.map_drop]
theorem wr_04 {w : List Nat} (h : (w.all fun k => Nat.beq k 0 || Nat.ble 4 k) = true) : ∀ k ∈ w, k = 0 ∨ 4 ≤ k := fun k hk => by
 have := List.all_eq_true.1 h k hk
 rcases Bool.or_eq_true_iff.1 this with h | h
 ·exact .inl (Nat.eq_of_beq_eq_true h)
 ·exact .inr (Nat.le_of_ble_eq_true h)
noncomputable def tbTq4 : Tb Try.prog 0 := tbOf mixed [inl_g1, ct_ix]
theorem del_fn (L : List Int) (most : Int) (l : List CliX) (ck : Nat) (hn : (keysC l).Nodup) (hL : L.length ≤ 1000000) : ∃ r, FnS Try.prog 0 30 [.slice (some ⟨0, 0, none⟩) L.length U, fnV 31 1] (tblH L most l ck) 4 r ∧ ∃ H m wr, r = .ret (.slice (some ⟨0, 0, none⟩) (delF l L).length U) H m wr ∧ (∀ k ∈ wr, k = 0 ∨ 4 ≤ k) ∧ H.get 0 = some (.cells ((delL l L).map iV) 3) ∧ (0 ∉ wr → delL l L = L) := by
 refine zHg mixed tbTq4 [0, 900003, 900008] Try.func30 (c := bodyOf Try.f30) (by kernel_rfl) ?_
 refine Exists.intro ⟨0, 1, 2, 3, L.length, L, most, l, ck⟩ (And.intro ⟨rfl, ⟨by kernel_rfl, by kernel_rfl, by kernel_rfl, by kernel_rfl, (show [0, 1, 2, 3].Nodup by decide)⟩, rfl, hn, hL⟩ ?_)
 cases hx : ixF l L with
 | none =>
  have hv : ixV l L = -1 := by unfold ixV; rw [hx]
  have hf := zPr hx
  have h1 : delF l L = L := hf
  have h2 : delL l L = L := by unfold delL; rw [h1, Nat.sub_self]; simp
  rw [h1, h2]
  refine ifK (fun _ => ?_) (fun h => absurd (show (ixV l L == -1) = false from h) (by rw [hv]; decide))
  exact ⟨_, _, _, rfl, fun k hk => (by have hk : k ∈ ([] : List Nat) := hk; cases hk), rfl, fun _ => rfl⟩
 | some i0 =>
  have hv : ixV l L = (i0 : Int) := by unfold ixV; rw [hx]
  obtain ⟨hi0, hp0, ht0⟩ := zPs hx
  refine ifK (fun h => absurd (show (ixV l L == -1) = true from h) (by rw [hv]; simp)) (fun _ => ?_)
  refine zCh (fun (s : Nat × List Int × Nat) f => ⟨slots 6 [(0, .slice (some ⟨0, 0, none⟩) L.length U), (1, fnV 31 1), (5, .int .i64 (s.2.2 : Nat)), (6, .int .i64 (s.1 : Nat))] f, tblH s.2.1 most l ck, 4, [0], []⟩) (fun s => L.length - s.1) (fun s => s.1 ≤ L.length ∧ s.2.1.length = L.length ∧ s.2.1.drop s.1 = L.drop s.1 ∧ s.2.1.take s.2.2 = (L.take s.1).filter (idleC l) ∧ s.2.2 < s.1) (i0 + 1, L, i0) ⟨hi0, rfl, rfl, ht0.symm, Nat.lt_succ_self _⟩ (rcq [] ⟨⟨_, rfl, .sl _ _ _ _ _ rfl⟩, ⟨_, rfl, .func _ _ _ _ _ rfl .nil (.cons _ _ _ _ (.ptr _ _ _ rfl) .nil)⟩, zAc rfl hv, zAc rfl (by rw [hv, wrapN (by omega) (by omega)]; show ((i0 : Nat) : Int) + 1 = ((i0 + 1 : Nat) : Int); omega), trivial⟩ ⟨bpo (zBb L), ⟨by decide, _, rfl, zCm rfl⟩, ⟨by decide, _, rfl, zAk rfl⟩, ⟨by decide, _, rfl, zAd l ck⟩, trivial⟩ .nil) ?_
  rintro ⟨j, S, i⟩ f ⟨hj, hS, hd, ht, hij⟩
  have hj : j ≤ L.length := hj
  have hS : S.length = L.length := hS
  have hd : S.drop j = L.drop j := hd
  have ht : S.take i = (L.take j).filter (idleC l) := ht
  have hij : i < j := hij
  refine zJb tbTq4 [0, 900003, 900008] 4 _ none mixed _ _ _ ?_
  refine ifK (fun h1 => ?_) (fun h1 => ?_)
  ·have h1 : j < L.length := by have h1 : ((j : Nat) : Int) < (L.length : Int) := of_decide_eq_true h1; omega
   have hjS : j < S.length := by omega
   refine ifK (fun _ => ?_) (fun h2 => absurd h2 (by simp [inI]; omega))
   refine Exists.intro S[j] (And.intro (by show (S.map iV)[0 + (j : Int).toNat * 1]? = _; simp [hjS, iV]) ?_)
   refine Exists.intro (.agg #[.int .i64 (whenC l S[j]), .bool (idleC l S[j])]) (Exists.intro [] (Exists.intro 0 (And.intro (zCy (e := 62) (l := l) (a := S[j]) (ck := ck) (r := 3) (ok := false) rfl rfl rfl (by kernel_rfl) zDl rfl hn) ?_)))
   refine ifK (fun h3 => ?_) (fun h3 => ?_)
   ·have h3 : (!(!idleC l S[j])) = true := h3
    have h3 : idleC l S[j] = true := by simpa using h3
    refine ifK (fun _ => ?_) (fun h2 => absurd h2 (by simp [inI]; omega))
    refine Exists.intro undef (Exists.intro [((0 : Nat), some (AObj.cells ((S.set i S[j]).map iV) 3))] (Exists.intro (0 : Nat) (And.intro ?_ ?_)))
    ·refine aop_store (b := 0) (off := 0 + i * 1) (sz := 1) (bytes := 8) (z := .int .i64 0) (v := iV S[j]) (C := S.map iV) rfl ?_ rfl rfl int_ty rfl rfl (by rw [List.length_map]; omega) (set_iV S i S[j] (by omega))
     show Value.pointer _ = _
     rw [show (Try.prog.types[3]).size = 1 by kernel_rfl]; rfl
    have hSj : S[j] = L[j] := by
     have e1 : (S.drop j)[0]? = (L.drop j)[0]? := by rw [hd]
     rw [List.getElem?_drop, List.getElem?_drop, Nat.add_zero, List.getElem?_eq_getElem hjS, List.getElem?_eq_getElem h1] at e1
     exact Option.some.inj e1
    refine ⟨(j + 1, S.set i S[j], i + 1), ⟨h1, by show (S.set i S[j]).length = _; rw [List.length_set]; exact hS, ?_, ?_, by show i + 1 < j + 1; omega⟩, by show L.length - (j + 1) < L.length - j; omega, rcq [] ⟨⟨_, rfl, .sl _ _ _ _ _ rfl⟩, ⟨_, rfl, .func _ _ _ _ _ rfl .nil (.cons _ _ _ _ (.ptr _ _ _ rfl) .nil)⟩, zAc rfl (by show IntKind.i64.wrap ((i : Int) + 1) = ((i + 1 : Nat) : Int); rw [wrapN (by omega) (by omega)]; omega), zAc rfl (by show IntKind.i64.wrap ((j : Int) + 1) = ((j + 1 : Nat) : Int); rw [wrapN (by omega) (by omega)]; omega), trivial⟩ ⟨bpo (zBb _), ⟨by decide, _, rfl, zCm rfl⟩, ⟨by decide, _, rfl, zAk rfl⟩, ⟨by decide, _, rfl, zAd l ck⟩, trivial⟩ .nil⟩
    ·show (S.set i S[j]).drop (j + 1) = L.drop (j + 1)
     rw [List.drop_set_of_lt (by omega)]
     have : (S.drop j).drop 1 = (L.drop j).drop 1 := by rw [hd]
     rwa [List.drop_drop, List.drop_drop] at this
    ·show (S.set i S[j]).take (i + 1) = (L.take (j + 1)).filter (idleC l)
     rw [List.take_succ_eq_append_getElem (by rw [List.length_set]; omega), List.take_set_of_le (Nat.le_refl _), List.getElem_set_self, ht, List.take_succ_eq_append_getElem h1, List.filter_append, ← hSj, List.filter_cons_of_pos h3]; rfl
   ·have h3 : (!(!idleC l S[j])) = false := h3
    have h3 : idleC l S[j] = false := by simpa using h3
    have hSj : S[j] = L[j] := by
     have e1 : (S.drop j)[0]? = (L.drop j)[0]? := by rw [hd]
     rw [List.getElem?_drop, List.getElem?_drop, Nat.add_zero, List.getElem?_eq_getElem hjS, List.getElem?_eq_getElem h1] at e1
     exact Option.some.inj e1
    refine ⟨(j + 1, S, i), ⟨h1, hS, ?_, ?_, by show i < j + 1; omega⟩, by show L.length - (j + 1) < L.length - j; omega, rcq [] ⟨⟨_, rfl, .sl _ _ _ _ _ rfl⟩, ⟨_, rfl, .func _ _ _ _ _ rfl .nil (.cons _ _ _ _ (.ptr _ _ _ rfl) .nil)⟩, ⟨_, rfl, .int _ _⟩, zAc rfl (by show IntKind.i64.wrap ((j : Int) + 1) = ((j + 1 : Nat) : Int); rw [wrapN (by omega) (by omega)]; omega), trivial⟩ ⟨bpo (zBb _), ⟨by decide, _, rfl, zCm rfl⟩, ⟨by decide, _, rfl, zAk rfl⟩, ⟨by decide, _, rfl, zAd l ck⟩, trivial⟩ .nil⟩
    ·show S.drop (j + 1) = L.drop (j + 1)
     have : (S.drop j).drop 1 = (L.drop j).drop 1 := by rw [hd]
     rwa [List.drop_drop, List.drop_drop] at this
    ·show S.take i = (L.take (j + 1)).filter (idleC l)
     rw [ht, List.take_succ_eq_append_getElem h1, List.filter_append, ← hSj, List.filter_cons_of_neg (by rw [h3]; simp)]; simp
  ·have h1 : j = L.length := by have h1 : ¬ ((j : Nat) : Int) < (L.length : Int) := of_decide_eq_false h1; omega
   subst h1
   refine And.intro rfl (zDx (rcq [] (d := 6) (d2 := 3) (lv := [(0, .slice (some ⟨0, 0, none⟩) L.length U), (5, .int .i64 (i : Nat))]) (bs := [(0, .cells (S.map iV) 3), (1, boxO 2), (2, tabO most 3), (3, .map (encC l) ck)]) (W := [0]) (m := 4) (df := []) ⟨⟨_, rfl, .sl _ _ _ _ _ rfl⟩, ⟨_, rfl, .int _ _⟩, trivial⟩ ⟨bpo (zBb _), ⟨by decide, _, rfl, zCm rfl⟩, ⟨by decide, _, rfl, zAk rfl⟩, ⟨by decide, _, rfl, zAd l ck⟩, trivial⟩ .nil) (fun f => ?_))
   refine And.intro (by simp [inLH]; omega) ?_
   refine Exists.intro (.tuple #[]) (Exists.intro [((0 : Nat), some (AObj.cells ((S.take i ++ List.replicate (S.length - i) 0 ++ S.drop (i + (S.length - i))).map iV) 3))] (Exists.intro (0 : Nat) (And.intro (aop_clrI (b := 0) (off := i) (n := S.length - i) (C := S) (c := U) rfl ?_ (by kernel_rfl) rfl (by omega) (by omega)) ?_)))
   ·show Value.slice (some ⟨0, 0 + ((i : Nat) : Int).toNat * (Try.prog.types[3]).size, none⟩) (((L.length : Nat) : Int).toNat - ((i : Nat) : Int).toNat) U = _
    rw [show (Try.prog.types[3]).size = 1 by kernel_rfl, Int.toNat_natCast, Int.toNat_natCast, hS, Nat.mul_one, Nat.zero_add]
   refine And.intro (by simp [inLH]; omega) ?_
   have hf : S.take i = delF l L := by rw [ht, List.take_of_length_le (Nat.le_refl _)]; rfl
   have hdl : (delF l L).length = i := by rw [← hf, List.length_take]; omega
   have hN : ((i : Nat) : Int).toNat - (0 : Int).toNat = (delF l L).length := by rw [hdl, Int.toNat_natCast]; rfl
   have hC : S.take i ++ List.replicate (S.length - i) 0 ++ S.drop (i + (S.length - i)) = delL l L := by
    rw [List.drop_eq_nil_of_le (by omega), List.append_nil, hf]
    unfold delL
    rw [hdl, hS]
   exact ⟨_, _, _, congrArg (fun n => Res.ret (.slice (some ⟨0, 0, none⟩) n U) _ _ _) hN, wr_04 rfl, Eq.trans (b := some (AObj.cells ((S.take i ++ List.replicate (S.length - i) 0 ++ S.drop (i + (S.length - i))).map iV) 3)) (by kernel_rfl) (congrArg (fun C : List Int => some (AObj.cells (C.map iV) 3)) hC), fun h => absurd (List.mem_of_elem_eq_true (by kernel_rfl)) h⟩
end Go.Proofs.Ytpdeidlkeplegaa
namespace Go.Proofs.Ytpdeidlkeplegaa
open Go Go.RowKit
def cmpI (x y : Int) : Int := bif decide (x < y) then -1 else bif decide (x > y) then 1 else 0
noncomputable def inl_nan : Ct Try.prog 0 := Ct.inl (tbOf mixed []) mixed [] 40 Try.f40 Try.func40 (bodyOf Try.f40) (by kernel_rfl)
theorem cmp_fn (x y : Int) : ∃ r, FnS Try.prog 0 35 [.int .i64 x, .int .i64 y] .e 0 r ∧ ∃ H m wr, r = .ret (.int .i64 (cmpI x y)) H m wr := by
 refine zHg mixed (tbOf mixed [inl_nan]) [] Try.func35 (c := bodyOf Try.f35) (by kernel_rfl) ?_
 refine ifK (fun h => absurd (show (x != x) = true from h) (by simp)) (fun _ => ?_)
 refine ifK (fun h => absurd (show (y != y) = true from h) (by simp)) (fun _ => ?_)
 refine ifK (fun h => ?_) (fun h => ?_)
 ·have h : decide (x < y) = true := h
  rw [show cmpI x y = -1 by unfold cmpI; rw [h]; rfl]
  exact ⟨_, _, _, rfl⟩
 have h : decide (x < y) = false := h
 refine ifK (fun h2 => ?_) (fun h2 => ?_)
 ·have h2 : decide (x > y) = true := h2
  rw [show cmpI x y = 1 by unfold cmpI; rw [h, h2]; rfl]
  exact ⟨_, _, _, rfl⟩
 have h2 : decide (x > y) = false := h2
 rw [show cmpI x y = 0 by unfold cmpI; rw [h, h2]; rfl]
 exact ⟨_, _, _, rfl⟩
def ct_cmp : Ct Try.prog 0 := Ct.int2 35 cmpI (fun x y => by obtain ⟨r, h, H, m, wr, rfl⟩ := cmp_fn x y; exact ⟨H, m, wr, h⟩)
noncomputable def inl_or : Ct Try.prog 0 := Ct.inl (tbOf mixed []) mixed [] 34 Try.f34 Try.func34 (bodyOf Try.f34) (by kernel_rfl)
noncomputable def inl_g2 : Ct Try.prog 0 := Ct.inl (tbOf mixed [ct_cmp, inl_or]) mixed [900005] 33 Try.f33 Try.func33 (bodyOf Try.f33) (by kernel_rfl)
def before (l : List CliX) (x m : Int) : Bool := bif cmpI (whenC l x) (whenC l m) != 0 then decide (cmpI (whenC l x) (whenC l m) < 0) else decide (cmpI x m < 0)
def minF (l : List CliX) : List Int → Int
 | [] => 0
 | x :: L => L.foldl (fun m x => bif before l x m then x else m) x
theorem minF_succ {l : List CliX} {F : List Int} {i : Nat} (h : i < F.length) (h1 : 1 ≤ i) : minF l (F.take (i + 1)) = bif before l F[i] (minF l (F.take i)) then F[i] else minF l (F.take i) := by
 cases F with
 | nil => exact absurd h (Nat.not_lt_zero _)
 | cons x F =>
  cases i with
  | zero => omega
  | succ i =>
   have h' : i < F.length := by simpa using h
   rw [List.take_succ_cons, List.take_succ_cons]
   show (F.take (i + 1)).foldl _ x = _
   rw [List.take_succ_eq_append_getElem h', List.foldl_append]
   rfl
noncomputable def tbTq5 : Tb Try.prog 0 := tbOf mixed [inl_g2]
theorem min_fn (C : List Int) (k : Nat) (most : Int) (l : List CliX) (ck : Nat) (hn : (keysC l).Nodup) (hk : 1 ≤ k ∧ k ≤ C.length) (hL : C.length ≤ 1000000) : ∃ r, FnS Try.prog 0 32 [.slice (some ⟨0, 0, none⟩) k U, fnV 33 1] (tblH C most l ck) 4 r ∧ ∃ H m wr, r = .ret (.int .i64 (minF l (C.take k))) H m wr ∧ ∀ j ∈ wr, 4 ≤ j := by
 have h0 : 0 < C.length := by omega
 refine zHg mixed tbTq5 [0] Try.func32 (c := bodyOf Try.f32) (by kernel_rfl) ?_
 refine ifK (fun h => absurd (show ((k : Nat) : Int) < 1 from of_decide_eq_true h) (by omega)) (fun _ => ?_)
 refine ifK (fun _ => ?_) (fun h2 => absurd h2 (by simp [inI]; omega))
 refine Exists.intro C[0] (And.intro (by show (C.map iV)[0 + (0 : Int).toNat * 1]? = _; simp [h0, iV]) ?_)
 refine zCh (fun (s : Nat × Int) f => ⟨slots 6 [(0, .slice (some ⟨0, 0, none⟩) k U), (1, fnV 33 1), (5, .int .i64 s.2), (6, .int .i64 (s.1 : Nat))] f, tblH C most l ck, 4, [], []⟩) (fun s => k - s.1) (fun s => (1 ≤ s.1 ∧ s.1 ≤ k) ∧ s.2 = minF l ((C.take k).take s.1)) (1, C[0]) ⟨⟨Nat.le_refl _, hk.1⟩, ?_⟩ ?_ ?_
 ·show C[0] = minF l ((C.take k).take 1)
  cases C with
  | nil => exact absurd h0 (Nat.not_lt_zero _)
  | cons c C =>
   cases k with
   | zero => exact absurd hk.1 (by decide)
   | succ k => rfl
 ·exact rcq [] ⟨⟨_, rfl, .sl _ _ _ _ _ rfl⟩, ⟨_, rfl, .func _ _ _ _ _ rfl .nil (.cons _ _ _ _ (.ptr _ _ _ rfl) .nil)⟩, ⟨_, rfl, .int _ _⟩, ⟨_, rfl, .int _ _⟩, trivial⟩ ⟨bpo (zBb _), ⟨by decide, _, rfl, zCm rfl⟩, ⟨by decide, _, rfl, zAk rfl⟩, ⟨by decide, _, rfl, zAd l ck⟩, trivial⟩ .nil
 rintro ⟨i, m⟩ f ⟨⟨hi1, hik⟩, hm⟩
 have hi1 : 1 ≤ i := hi1
 have hik : i ≤ k := hik
 have hm : m = minF l ((C.take k).take i) := hm
 refine zJb tbTq5 [0] 4 _ none mixed _ _ _ ?_
 refine ifK (fun h1 => ?_) (fun h1 => ?_)
 ·have h1 : i < k := by have h1 : ((i : Nat) : Int) < (k : Int) := of_decide_eq_true h1; omega
  have hiC : i < C.length := by omega
  refine ifK (fun _ => ?_) (fun h2 => absurd h2 (by simp [inI]; omega))
  refine Exists.intro C[i] (And.intro (by show (C.map iV)[0 + (i : Int).toNat * 1]? = _; simp [hiC, iV]) ?_)
  refine And.intro (by kernel_rfl) ?_
  refine Exists.intro (.agg #[.int .i64 (whenC l C[i]), .bool (idleC l C[i])]) (Exists.intro [] (Exists.intro 0 (And.intro (zCy (e := 62) (l := l) (a := C[i]) (ck := ck) (r := 3) (ok := false) rfl rfl rfl (by kernel_rfl) zDl rfl hn) ?_)))
  refine Exists.intro (.agg #[.int .i64 (whenC l m), .bool (idleC l m)]) (Exists.intro [] (Exists.intro 0 (And.intro (zCy (e := 62) (l := l) (a := m) (ck := ck) (r := 3) (ok := false) rfl rfl rfl (by kernel_rfl) zDl rfl hn) ?_)))
  have hg : (C.take k)[i]'(by rw [List.length_take]; omega) = C[i] := List.getElem_take ..
  have hms := minF_succ (l := l) (F := C.take k) (i := i) (by rw [List.length_take]; omega) hi1
  rw [hg, ← hm] at hms
  have hT : before l C[i] m = true → C[i] = minF l ((C.take k).take (i + 1)) := fun h => by rw [hms, h]; rfl
  have hF : before l C[i] m = false → m = minF l ((C.take k).take (i + 1)) := fun h => by rw [hms, h]; rfl
  refine ifK (fun c1 => ?_) (fun c1 => ?_)
  ·have c1 : (cmpI (whenC l C[i]) (whenC l m) != 0) = true := c1
   refine ifK (fun c2 => ?_) (fun c2 => ?_)
   ·refine ifK (fun _ => ?_) (fun h2 => absurd h2 (by simp [inI]; omega))
    refine Exists.intro C[i] (And.intro (by show (C.map iV)[0 + (i : Int).toNat * 1]? = _; simp [hiC, iV]) ?_)
    exact ⟨(i + 1, C[i]), ⟨⟨by show 1 ≤ i + 1; omega, h1⟩, hT (by unfold before; rw [c1]; exact c2)⟩, by show k - (i + 1) < k - i; omega, rcq [] ⟨⟨_, rfl, .sl _ _ _ _ _ rfl⟩, ⟨_, rfl, .func _ _ _ _ _ rfl .nil (.cons _ _ _ _ (.ptr _ _ _ rfl) .nil)⟩, ⟨_, rfl, .int _ _⟩, zAc rfl (by show IntKind.i64.wrap ((i : Int) + 1) = ((i + 1 : Nat) : Int); rw [wrapN (by omega) (by omega)]; omega), trivial⟩ ⟨bpo (zBb _), ⟨by decide, _, rfl, zCm rfl⟩, ⟨by decide, _, rfl, zAk rfl⟩, ⟨by decide, _, rfl, zAd l ck⟩, trivial⟩ .nil⟩
   ·exact ⟨(i + 1, m), ⟨⟨by show 1 ≤ i + 1; omega, h1⟩, hF (by unfold before; rw [c1]; exact c2)⟩, by show k - (i + 1) < k - i; omega, rcq [] ⟨⟨_, rfl, .sl _ _ _ _ _ rfl⟩, ⟨_, rfl, .func _ _ _ _ _ rfl .nil (.cons _ _ _ _ (.ptr _ _ _ rfl) .nil)⟩, ⟨_, rfl, .int _ _⟩, zAc rfl (by show IntKind.i64.wrap ((i : Int) + 1) = ((i + 1 : Nat) : Int); rw [wrapN (by omega) (by omega)]; omega), trivial⟩ ⟨bpo (zBb _), ⟨by decide, _, rfl, zCm rfl⟩, ⟨by decide, _, rfl, zAk rfl⟩, ⟨by decide, _, rfl, zAd l ck⟩, trivial⟩ .nil⟩
  ·have c1 : (cmpI (whenC l C[i]) (whenC l m) != 0) = false := c1
   refine ifK (fun c3 => ?_) (fun c3 => ?_)
   ·refine ifK (fun c2 => ?_) (fun c2 => ?_)
    ·refine ifK (fun _ => ?_) (fun h2 => absurd h2 (by simp [inI]; omega))
     refine Exists.intro C[i] (And.intro (by show (C.map iV)[0 + (i : Int).toNat * 1]? = _; simp [hiC, iV]) ?_)
     exact ⟨(i + 1, C[i]), ⟨⟨by show 1 ≤ i + 1; omega, h1⟩, hT (by unfold before; rw [c1]; exact c2)⟩, by show k - (i + 1) < k - i; omega, rcq [] ⟨⟨_, rfl, .sl _ _ _ _ _ rfl⟩, ⟨_, rfl, .func _ _ _ _ _ rfl .nil (.cons _ _ _ _ (.ptr _ _ _ rfl) .nil)⟩, ⟨_, rfl, .int _ _⟩, zAc rfl (by show IntKind.i64.wrap ((i : Int) + 1) = ((i + 1 : Nat) : Int); rw [wrapN (by omega) (by omega)]; omega), trivial⟩ ⟨bpo (zBb _), ⟨by decide, _, rfl, zCm rfl⟩, ⟨by decide, _, rfl, zAk rfl⟩, ⟨by decide, _, rfl, zAd l ck⟩, trivial⟩ .nil⟩
    ·exact ⟨(i + 1, m), ⟨⟨by show 1 ≤ i + 1; omega, h1⟩, hF (by unfold before; rw [c1]; exact c2)⟩, by show k - (i + 1) < k - i; omega, rcq [] ⟨⟨_, rfl, .sl _ _ _ _ _ rfl⟩, ⟨_, rfl, .func _ _ _ _ _ rfl .nil (.cons _ _ _ _ (.ptr _ _ _ rfl) .nil)⟩, ⟨_, rfl, .int _ _⟩, zAc rfl (by show IntKind.i64.wrap ((i : Int) + 1) = ((i + 1 : Nat) : Int); rw [wrapN (by omega) (by omega)]; omega), trivial⟩ ⟨bpo (zBb _), ⟨by decide, _, rfl, zCm rfl⟩, ⟨by decide, _, rfl, zAk rfl⟩, ⟨by decide, _, rfl, zAd l ck⟩, trivial⟩ .nil⟩
   ·have c3 : (cmpI C[i] m != 0) = false := c3
    have c3 : cmpI C[i] m = 0 := by simpa using c3
    exact ⟨(i + 1, m), ⟨⟨by show 1 ≤ i + 1; omega, h1⟩, hF (by unfold before; rw [c1, c3]; rfl)⟩, by show k - (i + 1) < k - i; omega, rcq [] ⟨⟨_, rfl, .sl _ _ _ _ _ rfl⟩, ⟨_, rfl, .func _ _ _ _ _ rfl .nil (.cons _ _ _ _ (.ptr _ _ _ rfl) .nil)⟩, ⟨_, rfl, .int _ _⟩, zAc rfl (by show IntKind.i64.wrap ((i : Int) + 1) = ((i + 1 : Nat) : Int); rw [wrapN (by omega) (by omega)]; omega), trivial⟩ ⟨bpo (zBb _), ⟨by decide, _, rfl, zCm rfl⟩, ⟨by decide, _, rfl, zAk rfl⟩, ⟨by decide, _, rfl, zAd l ck⟩, trivial⟩ .nil⟩
 ·have h1 : i = k := by have h1 : ¬ ((i : Nat) : Int) < (k : Int) := of_decide_eq_false h1; omega
  rw [show minF l (C.take k) = m by rw [hm, h1, List.take_take, Nat.min_self]]
  exact And.intro rfl (zDx (rcq [] (d := 6) (d2 := 0) (lv := [(5, .int .i64 m)]) (bs := []) (W := []) (m := 4) (df := []) ⟨⟨_, rfl, .int _ _⟩, trivial⟩ trivial .nil) (fun f => ⟨_, _, _, rfl, fun k hk => by cases hk⟩))
end Go.Proofs.Ytpdeidlkeplegaa
namespace Go.Proofs.Ytpdeidlkeplegaa
open Go Go.RowKit
theorem FnS.wrT {f : FuncId} {args : List Value} {H H' : Tr AObj} {n0 n : Nat} {v : Value} {wr : List Nat} (W : List Nat) (h : FnS Try.prog 0 f args H n0 (.ret v H' n wr)) : FnS Try.prog 0 f args H n0 (.ret v H' n (W ++ wr)) := fun E w args' h1 h2 h3 h4 h5 =>
 (h E w args' h1 h2 h3 h4 h5).mono fun e w' ⟨E', v', q1, q2, q3, q4⟩ => ⟨E', v', q1, q2, q3, q4.sub (fun k hk _ => List.mem_append.2 (.inr hk))⟩
noncomputable def ct_min : Ct Try.prog 0 := ct_tbl 32 33 (fun L k l => .int .i64 (minF l (L.take k))) (fun L k l => (keysC l).Nodup ∧ (1 ≤ k ∧ k ≤ L.length) ∧ L.length ≤ 1000000) (fun _ _ _ => rfl)
 (fun L k most l ck ⟨h1, h2, h3⟩ => min_fn L k most l ck h1 h2 h3)
def delO (lb k : Nat) (C : List Int) (A : List Nat) (H : Tr AObj) (n : Nat) : Res := .ret (.slice (some ⟨lb, 0, none⟩) k U) (H.set lb (some (.cells (C.map iV) 3))) n A
noncomputable def ct_del : Ct Try.prog 0 :=
 CtR.ct { f := 30, X := TbA, pre := fun x a H _ => a = x.as 31 ∧ x.at H ∧ x.k = x.L.length ∧ (keysC x.l).Nodup ∧ x.L.length ≤ 1000000, out := fun x H n => delO x.lb (delF x.l x.L).length (delL x.l x.L) [x.lb, x.cb, x.tb, x.mb] H n,
          ok := fun x a H n ⟨h1, h2, h3, h4, h5⟩ => by
           subst h1
           obtain ⟨r, hF, H', m, wr, rfl, hw, hg, _⟩ := del_fn x.L x.most x.l x.ck h4 h5
           have hcb := TbA.callB h2
           have hnd := h2.2.2.2.2
           have hrl := x.rl 31
           rw [h3] at hrl
           refine zEy (n := n) [x.lb, x.cb, x.tb, x.mb] [] [(x.lb, some (.cells ((delL x.l x.L).map iV) 3))] (hF.wrT [0]) hnd hcb hrl (fun k o ho hk => ?_) (fun j hj => ?_) List.nodup_nil (fun y hy => by cases hy) (.sl _ _ _ _ _ (zJd rfl)) (fun p hp => ?_) (fun k j e hk => ?_) (fun j o ho => ?_)
           ·match k, hk, ho with
            | 0, _, ho => have ho : some (AObj.cells _ _) = some o := ho; cases ho; exact fun h => h
            | 1, _, ho => have ho : some (AObj.cells _ _) = some o := ho; cases ho; exact fun h => h
            | 2, _, ho => have ho : some (AObj.cells _ _) = some o := ho; cases ho; exact fun h => h
            | 3, _, ho => have ho : some (AObj.map _ _) = some o := ho; cases ho; exact fun h => h
            | k + 4, hk, _ => have hk : k + 4 < 4 := hk; omega
           ·simp only [List.mem_cons, List.not_mem_nil, or_false] at hj
            rcases hj with rfl | rfl | rfl | rfl
            ·exact ⟨_, h2.1, fun h => h⟩
            ·exact ⟨_, h2.2.1, fun h => h⟩
            ·exact ⟨_, h2.2.2.1, fun h => h⟩
            ·exact ⟨_, h2.2.2.2.1, fun h => h⟩
           ·simp only [List.mem_singleton] at hp
            subst hp
            exact .inl (List.mem_cons_self ..)
           ·rcases List.mem_append.1 hk with hk | hk
            ·simp only [List.mem_singleton] at hk
             subst hk
             cases e
             exact .inl (List.mem_cons_self ..)
            ·rcases hw k hk with rfl | hk4
             ·cases e
              exact .inl (List.mem_cons_self ..)
             ·rw [List.getElem?_eq_none (by show 4 ≤ k; exact hk4)] at e; cases e
           ·simp only [List.mem_singleton, Prod.mk.injEq, Option.some.injEq] at ho
            obtain ⟨rfl, rfl⟩ := ho
            exact ⟨0, _, zJd rfl, hg, .same (zBb _), fun _ => List.mem_append_left _ (List.mem_singleton.2 rfl)⟩,
          uniq := fun x y a H n ⟨h1, h2, _⟩ ⟨k1, k2, _⟩ => by
           rw [h1] at k1
           rw [TbA.uniq k1 h2 k2],
          tr := fun x H n K => frcN x.lb fun lb => frcN x.cb fun cb => frcN x.tb fun tb => frcN x.mb fun mb => K (delO lb (delF x.l x.L).length (delL x.l x.L) [lb, cb, tb, mb] H n),
          trOk := fun x H n K h => by rw [zBg, zBg, zBg, zBg] at h; exact h }
def rangeC (l : List CliX) : Prop := ∀ c ∈ l, -9223372036854775808 ≤ c.n ∧ c.n ≤ 9223372036854775807
theorem zEz : ∀ {l : List CliX}, rangeC l → zDd (encC l) = some (keysC l)
 | [], _ => rfl
 | c :: l, h => by
  have h1 := h c (List.mem_cons_self ..)
  have ih := zEz (l := l) (fun d hd => h d (List.mem_cons_of_mem _ hd))
  show zDd (c.e :: encC l) = _
  unfold zDd
  show (bif decide (-9223372036854775808 ≤ c.n) && decide (c.n ≤ 9223372036854775807) then (zDd (encC l)).map (c.n :: ·) else none) = _
  rw [decide_eq_true h1.1, decide_eq_true h1.2, ih]; rfl
theorem zIm : ∀ {l : List Int}, l.Nodup → nodupI l = true
 | [], _ => rfl
 | x :: l, h => by
  rw [List.nodup_cons] at h
  unfold nodupI
  rw [zIm h.2, Bool.and_true]
  exact List.all_eq_true.2 fun y hy => by
   have : x ≠ y := fun e => h.1 (e ▸ hy)
   simp [this]
structure SoA where
 c : Nat
 mb : Nat
 l : List CliX
 ck : Nat
def SoA.as (x : SoA) : List Value := [.func (.func 38) #[] #[.pointer (some ⟨x.c, 0, none⟩)]]
noncomputable def ct_sortC : Ct Try.prog 0 :=
 CtR.ct { f := 28, X := SoA, pre := fun x a H _ => a = x.as ∧ H.get x.c = some (.cells [.map (some x.mb)] 52) ∧ H.get x.mb = some (.map (encC x.l) x.ck) ∧ (keysC x.l).Nodup ∧ rangeC x.l ∧ x.l.length ≤ 1000000,
          out := fun x H n => listOut 3 1 ((isortI (keysC x.l)).map iV) (keysC x.l).length id H n,
          ok := fun x a H n ⟨h1, h2, h3, h4, h5, h6⟩ => by
           subst h1
           refine zMx (ks := keysC x.l) ?_
           unfold zBa SoA.as
           simp only [h2, h3, zEz h5, zIm h4]
           rw [show ((keysC x.l).length.ble 1000000) = true from Nat.ble_eq_true_of_le (by unfold keysC; rw [List.length_map]; exact h6)]
           rfl,
          uniq := fun x y a H n ⟨h1, h2, h3, _⟩ ⟨k1, k2, k3, _⟩ => by
           rw [h1] at k1
           obtain ⟨c, mb, l, ck⟩ := x
           obtain ⟨c', mb', l', ck'⟩ := y
           simp only [SoA.as, List.cons.injEq, Value.func.injEq, Array.mk.injEq, Value.pointer.injEq, Option.some.injEq, Addr.mk.injEq, true_and, and_true] at k1
           subst k1
           have h2 : H.get c = _ := h2
           have k2 : H.get c = _ := k2
           rw [h2] at k2
           simp only [Option.some.injEq, AObj.cells.injEq, List.cons.injEq, Value.map.injEq, and_true] at k2
           subst k2
           have h3 : H.get mb = _ := h3
           have k3 : H.get mb = _ := k3
           rw [h3] at k3
           simp only [Option.some.injEq, AObj.map.injEq] at k3
           obtain ⟨e2, rfl⟩ := k3
           rw [zHj e2],
          tr := fun x H n K => brK ((keysC x.l).length.beq 0) (K (.ret (.slice none 0 0) H n [])) (K (.ret (.slice (some ⟨n, 0, none⟩) (keysC x.l).length U) (H.set n (some (.cells ((isortI (keysC x.l)).map iV) 3))) (n + 1) [])),
          trOk := fun x H n K h => by
           unfold listOut
           cases hb : (keysC x.l).length.beq 0 with
           | true => rw [hb] at h; exact h
           | false => rw [hb] at h; exact h }
end Go.Proofs.Ytpdeidlkeplegaa
namespace Go.Proofs.Ytpdeidlkeplegaa
open Go Go.RowKit
noncomputable def zEm : Ct Try.prog 0 := Ct.inl (tbOf mixed []) mixed [] 25 Try.f25 Try.func25 (bodyOf Try.f25) (by kernel_rfl)
noncomputable def zJy : Ct Try.prog 0 := Ct.inl (tbOf mixed []) mixed [] 29 Try.f29 Try.func29 (bodyOf Try.f29) (by kernel_rfl)
noncomputable def inl_all20 : Ct Try.prog 0 := Ct.inl (tbOf mixed [zEm, zJy, ct_sortC]) mixed [] 20 Try.f20 Try.func20 (bodyOf Try.f20) (by kernel_rfl)
noncomputable def zRb : Ct Try.prog 0 := Ct.inl (tbOf mixed [inl_all20, ct_del, ct_min]) mixed [] 26 Try.f26 Try.func26 (bodyOf Try.f26) (by kernel_rfl)
noncomputable def tbTq8 : Tb Try.prog 0 := tbOf mixed [zEm, zRb]
def mayC (l : List CliX) : List Int := delF l (isortI (keysC l))
def touchF (most : Int) (l : List CliX) (ck : Nat) (n now : Int) : Int × Bool × Int × List CliX × Nat :=
 if decide (now < 0) || decide (now > 1099511627776) then (0, false, 2, l, ck)
 else if hasC l n then (0, false, 0, putC l n (maxI (whenC l n) now) (idleC l n), ck)
 else if decide ((l.length : Int) < most) then (0, false, 0, l ++ [⟨n, now, false⟩], ck + 1)
 else if (mayC l).length = 0 then (0, false, 8, l, ck)
 else (minF l (mayC l), true, 0, delC l (minF l (mayC l)) ++ [⟨n, now, false⟩], ck + 1)
def tabH (most : Int) (l : List CliX) (ck : Nat) : Tr AObj := heap 2 [(0, tabO most 1), (1, .map (encC l) ck)]
theorem zPi {l : List CliX} : ∀ (L : List Int) (m : Int), L.foldl (fun m x => bif before l x m then x else m) m ∈ m :: L
 | [], m => List.mem_cons_self ..
 | y :: L, m => by
  have := zPi (l := l) L (bif before l y m then y else m)
  show L.foldl _ (bif before l y m then y else m) ∈ _
  rcases List.mem_cons.1 this with h | h
  ·rw [h]; cases before l y m <;> simp
  ·exact List.mem_cons_of_mem _ (List.mem_cons_of_mem _ h)
theorem zQa {l : List CliX} {L : List Int} (h : L.length ≠ 0) : minF l L ∈ L := by
 cases L with
 | nil => exact absurd rfl h
 | cons x L => exact zPi L x
theorem touch_fn (most : Int) (l : List CliX) (ck : Nat) (n now : Int) (hm : 1 ≤ most) (hn : (keysC l).Nodup) (hr : rangeC l) (hl : l.length ≤ 1000000) : ∃ r, FnS Try.prog 0 11 [.pointer (some ⟨0, 0, none⟩), .int .i64 n, .int .i64 now] (tabH most l ck) 2 r ∧ ∃ H m wr, r = .ret (.tuple #[.int .i64 (touchF most l ck n now).1, .bool (touchF most l ck n now).2.1, .int .i64 (touchF most l ck n now).2.2.1]) H m wr ∧ H.get 0 = some (tabO most 1) ∧ H.get 1 = some (.map (encC (touchF most l ck n now).2.2.2.1) (touchF most l ck n now).2.2.2.2) := by
 refine zHg mixed tbTq8 [900005, 900006, 900007] Try.func11 (c := bodyOf Try.f11) (by kernel_rfl) ?_
 refine ifK (fun h => absurd (show (most == 0) = true from h) (by simp; omega)) (fun _ => ?_)
 refine ifK (fun h1 => ?_) (fun h1 => ?_)
 ·have h1 : decide (now < 0) = true := h1
  have ht : touchF most l ck n now = (0, false, 2, l, ck) := by unfold touchF; rw [h1]; rfl
  rw [ht]
  exact ⟨_, _, _, rfl, by kernel_rfl, by kernel_rfl⟩
 have h1 : decide (now < 0) = false := h1
 refine ifK (fun h2 => ?_) (fun h2 => ?_)
 ·have h2 : decide (now > 1099511627776) = true := h2
  have ht : touchF most l ck n now = (0, false, 2, l, ck) := by unfold touchF; rw [h1, h2]; rfl
  rw [ht]
  exact ⟨_, _, _, rfl, by kernel_rfl, by kernel_rfl⟩
 have h2 : decide (now > 1099511627776) = false := h2
 refine Exists.intro (.tuple #[.agg #[.int .i64 (whenC l n), .bool (idleC l n)], .bool (hasC l n)]) (Exists.intro [] (Exists.intro 0 (And.intro (zCy (e := 62) (l := l) (a := n) (ck := ck) (r := 1) (ok := true) rfl rfl rfl (by kernel_rfl) zDl rfl hn) ?_)))
 refine ifK (fun h3 => ?_) (fun h3 => ?_)
 ·have h3 : hasC l n = true := h3
  have ht : touchF most l ck n now = (0, false, 0, putC l n (maxI (whenC l n) now) (idleC l n), ck) := by unfold touchF; rw [h1, h2, h3]; rfl
  rw [ht]
  refine And.intro (by kernel_rfl) ?_
  refine Exists.intro undef (Exists.intro [((1 : Nat), some (AObj.map (encC (putC l n (maxI (whenC l n) now) (idleC l n))) ck))] (Exists.intro (0 : Nat) (And.intro (Eq.trans (zPd (e := 62) (l := l) (a := n) (w := maxI (whenC l n) now) (b := idleC l n) (ck := ck) (r := 1) rfl rfl rfl rfl (by kernel_rfl) rfl hn) (by rw [h3]; rfl)) ?_)))
  exact ⟨_, _, _, rfl, by kernel_rfl, by kernel_rfl⟩
 have h3 : hasC l n = false := h3
 have hnk : n ∉ keysC l := fun h => by rw [zAn.2 h] at h3; cases h3
 have hel : (encC l).length = l.length := by unfold encC; rw [List.length_map]
 refine And.intro (by kernel_rfl) ?_
 refine ifK (fun h4 => ?_) (fun h4 => ?_)
 ·have h4 : decide ((l.length : Int) < most) = true := by
   have h4 : decide ((((encC l).length : Nat) : Int) < most) = true := h4
   rwa [hel] at h4
  have ht : touchF most l ck n now = (0, false, 0, l ++ [⟨n, now, false⟩], ck + 1) := by unfold touchF; rw [h1, h2, h3, h4]; rfl
  rw [ht]
  refine Exists.intro undef (Exists.intro [((1 : Nat), some (AObj.map (encC (l ++ [⟨n, now, false⟩])) (ck + 1)))] (Exists.intro (0 : Nat) (And.intro (zKr (e := 62) (l := l) (a := n) (w := now) (b := false) (ck := ck) (r := 1) rfl rfl rfl rfl (by kernel_rfl) rfl hnk) ?_)))
  exact ⟨_, _, _, rfl, by kernel_rfl, by kernel_rfl⟩
 have h4 : decide ((l.length : Int) < most) = false := by
  have h4 : decide ((((encC l).length : Nat) : Int) < most) = false := h4
  rwa [hel] at h4
 have h5 : 1 ≤ l.length := by have := of_decide_eq_false h4; omega
 refine ifK (fun h => absurd (show (most == 0) = true from h) (by simp; omega)) (fun _ => ?_)
 have hkl : (keysC l).length = l.length := by unfold keysC; rw [List.length_map]
 have hL : (isortI (keysC l)).length = (keysC l).length := (zAe _).length_eq
 refine Exists.intro ⟨4, 1, l, ck⟩ (And.intro ⟨rfl, by kernel_rfl, by kernel_rfl, hn, hr, hl⟩ ?_)
 refine ifK (fun h => absurd (Nat.eq_of_beq_eq_true (show (keysC l).length.beq 0 = true from h)) (by omega)) (fun _ => ?_)
 refine Exists.intro ⟨5, 3, 0, 1, (keysC l).length, isortI (keysC l), most, l, ck⟩ (And.intro ⟨rfl, ⟨by kernel_rfl, by kernel_rfl, by kernel_rfl, by kernel_rfl, (show [5, 3, 0, 1].Nodup by decide)⟩, hL.symm, hn, by show (isortI (keysC l)).length ≤ _; omega⟩ ?_)
 have hml : (mayC l).length ≤ (isortI (keysC l)).length := List.length_filter_le _ _
 have hdl : (delL l (isortI (keysC l))).length = (isortI (keysC l)).length := by
  unfold delL
  rw [List.length_append, List.length_replicate]
  show (mayC l).length + ((isortI (keysC l)).length - (mayC l).length) = _
  omega
 have hdt : (delL l (isortI (keysC l))).take (mayC l).length = mayC l := List.take_left' rfl
 refine ifK (fun h6 => ?_) (fun h6 => ?_)
 ·have h6 : (mayC l).length = 0 := by
   have h6 : ((((mayC l).length : Nat) : Int) == 0) = true := h6
   simpa using h6
  have ht : touchF most l ck n now = (0, false, 8, l, ck) := by unfold touchF; rw [h1, h2, h3, h4, if_pos h6]; rfl
  rw [ht]
  exact ⟨_, _, _, rfl, by kernel_rfl, by kernel_rfl⟩
 have h6 : (mayC l).length ≠ 0 := by
  have h6 : ((((mayC l).length : Nat) : Int) == 0) = false := h6
  simpa using h6
 have ht : touchF most l ck n now = (minF l (mayC l), true, 0, delC l (minF l (mayC l)) ++ [⟨n, now, false⟩], ck + 1) := by unfold touchF; rw [h1, h2, h3, h4, if_neg h6]; rfl
 rw [ht]
 refine Exists.intro ⟨5, 3, 0, 1, (mayC l).length, delL l (isortI (keysC l)), most, l, ck⟩ (And.intro ⟨rfl, ⟨by kernel_rfl, by kernel_rfl, by kernel_rfl, by kernel_rfl, (show [5, 3, 0, 1].Nodup by decide)⟩, hn, ⟨by show 1 ≤ (mayC l).length; omega, by show (mayC l).length ≤ (delL l (isortI (keysC l))).length; omega⟩, by show (delL l (isortI (keysC l))).length ≤ _; omega⟩ ?_)
 have hmin : minF l ((delL l (isortI (keysC l))).take (mayC l).length) = minF l (mayC l) := by rw [hdt]
 have hmm : minF l (mayC l) ∈ keysC l := (zAe _).mem_iff.1 (List.mem_filter.1 (zQa h6)).1
 have hnd : (keysC (delC l (minF l (mayC l)))).Nodup := hn.sublist (List.Sublist.map _ (List.filter_sublist ..))
 have hno : n ∉ keysC (delC l (minF l (mayC l))) := fun h => hnk (by
  obtain ⟨c, hc, e⟩ := List.mem_map.1 h
  exact List.mem_map.2 ⟨c, (List.mem_filter.1 hc).1, e⟩)
 refine Exists.intro (.tuple #[]) (Exists.intro [((1 : Nat), some (AObj.map (encC (delC l (minF l (mayC l)))) ck))] (Exists.intro (0 : Nat) (And.intro (aop_cliR (e := 62) (l := l) (a := minF l (mayC l)) (ck := ck) (r := 1) rfl rfl (congrArg (Value.int .i64) hmin) (by kernel_rfl) rfl hn (zAn.2 hmm)) ?_)))
 refine Exists.intro undef (Exists.intro [((1 : Nat), some (AObj.map (encC (delC l (minF l (mayC l)) ++ [⟨n, now, false⟩])) (ck + 1)))] (Exists.intro (0 : Nat) (And.intro (zKr (e := 62) (l := delC l (minF l (mayC l))) (a := n) (w := now) (b := false) (ck := ck) (r := 1) rfl rfl rfl rfl (by kernel_rfl) rfl hno) ?_)))
 exact ⟨_, _, _, congrArg (fun x => Res.ret (.tuple #[.int .i64 x, .bool true, .int .i64 0]) _ _ _) hmin, by kernel_rfl, by kernel_rfl⟩
end Go.Proofs.Ytpdeidlkeplegaa
namespace Go.Proofs.Ytpdeidlkeplegaa
open Go Go.RowKit
theorem wr_ge2 {w : List Nat} (h : (w.all fun k => Nat.ble 2 k) = true) : ∀ k ∈ w, 2 ≤ k := fun k hk => Nat.le_of_ble_eq_true (List.all_eq_true.1 h k hk)
structure TcA where
 tb : Nat
 mb : Nat
 most : Int
 l : List CliX
 ck : Nat
 n : Int
 now : Int
def TcA.at (x : TcA) (H : Tr AObj) : Prop := H.get x.tb = some (tabO x.most x.mb) ∧ H.get x.mb = some (.map (encC x.l) x.ck)
def goodC (most : Int) (l : List CliX) : Prop := 1 ≤ most ∧ (keysC l).Nodup ∧ rangeC l ∧ l.length ≤ 1000000
theorem TcA.ne {x : TcA} {H : Tr AObj} (h : x.at H) : [x.tb, x.mb].Nodup := by
 have : x.tb ≠ x.mb := fun e => by
  have h1 := h.1
  rw [e, h.2] at h1
  cases h1
 simp [this]
theorem zLr {tb mb mb' : Nat} {most most' : Int} {l l' : List CliX} {ck ck' : Nat} {H : Tr AObj} (h1 : H.get tb = some (tabO most mb)) (h2 : H.get mb = some (.map (encC l) ck)) (k1 : H.get tb = some (tabO most' mb')) (k2 : H.get mb' = some (.map (encC l') ck')) : mb = mb' ∧ most = most' ∧ l = l' ∧ ck = ck' := by
 rw [h1] at k1
 simp only [tabO, Option.some.injEq, AObj.cells.injEq, List.cons.injEq, Value.map.injEq, Value.int.injEq, true_and, and_true] at k1
 obtain ⟨rfl, rfl⟩ := k1
 rw [h2] at k2
 simp only [Option.some.injEq, AObj.map.injEq] at k2
 obtain ⟨e2, rfl⟩ := k2
 exact ⟨rfl, rfl, zHj e2, rfl⟩
theorem zLq {x : TcA} {H : Tr AObj} (h : x.at H) : CallB Try.prog [x.tb, x.mb] H (tabH x.most x.l x.ck) :=
 zKu ⟨⟨x.tb, _, rfl, h.1, zAk rfl⟩, ⟨x.mb, _, rfl, h.2, zAd _ _⟩, trivial⟩
theorem zJs {f : FuncId} {args args0 : List Value} {H H' : Tr AObj} {n m tb mb ck ck' : Nat} {wr : List Nat} {most : Int} {l l' : List CliX} {v0 v : Value} (h1 : H.get tb = some (tabO most mb)) (h2 : H.get mb = some (.map (encC l) ck)) (hF : FnS Try.prog 0 f args0 (tabH most l ck) 2 (.ret v0 H' m wr)) (ha : RL (caR [tb, mb]) args args0) (hv : RV (tau [tb, mb] [] n) v0 v) (g0 : H'.get 0 = some (tabO most 1)) (g1 : H'.get 1 = some (.map (encC l') ck')) :
  CallOK Try.prog 0 f args H n (.ret v (setL H [(mb, some (.map (encC l') ck'))]) (n + 0) [tb, mb]) := by
 have hat : TcA.at ⟨tb, mb, most, l, ck, 0, 0⟩ H := ⟨h1, h2⟩
 refine zEy (n := n) [tb, mb] [] [(mb, some (.map (encC l') ck'))] (hF.wrT [1]) (TcA.ne hat) (zLq hat) ha (fun k o ho hk => ?_) (fun j hj => ?_) List.nodup_nil (fun y hy => by cases hy) hv (fun p hp => ?_) (fun k j e hk => ?_) (fun j o ho => ?_)
 ·match k, hk, ho with
  | 0, _, ho => have ho : some (AObj.cells _ _) = some o := ho; cases ho; exact fun h => h
  | 1, _, ho => have ho : some (AObj.map _ _) = some o := ho; cases ho; exact fun h => h
  | k + 2, hk, _ => have hk : k + 2 < 2 := hk; omega
 ·simp only [List.mem_cons, List.not_mem_nil, or_false] at hj
  rcases hj with rfl | rfl
  ·exact ⟨_, h1, fun h => h⟩
  ·exact ⟨_, h2, fun h => h⟩
 ·simp only [List.mem_singleton] at hp
  subst hp
  exact .inl (List.mem_cons_of_mem _ (List.mem_cons_self ..))
 ·match k, e with
  | 0, e => cases e; exact .inr ⟨_, _, h1, g0, zAk (zJd rfl)⟩
  | 1, e => cases e; exact .inl (List.mem_cons_self ..)
  | k + 2, e => cases e
 ·simp only [List.mem_singleton, Prod.mk.injEq, Option.some.injEq] at ho
  obtain ⟨rfl, rfl⟩ := ho
  exact ⟨1, _, zJd rfl, g1, zAd _ _, fun _ => List.mem_append_left _ (List.mem_singleton.2 rfl)⟩
def touchV (r : Int × Bool × Int × List CliX × Nat) : Value := .tuple #[.int .i64 r.1, .bool r.2.1, .int .i64 r.2.2.1]
def tabOut (v : Value) (tb mb : Nat) (l : List CliX) (ck : Nat) (H : Tr AObj) (n : Nat) : Res := .ret v (H.set mb (some (.map (encC l) ck))) n [tb, mb]
noncomputable def ct_touch : Ct Try.prog 0 :=
 CtR.ct { f := 11, X := TcA, pre := fun x a H _ => a = [.pointer (some ⟨x.tb, 0, none⟩), .int .i64 x.n, .int .i64 x.now] ∧ x.at H ∧ goodC x.most x.l,
          out := fun x H n => tabOut (touchV (touchF x.most x.l x.ck x.n x.now)) x.tb x.mb (touchF x.most x.l x.ck x.n x.now).2.2.2.1 (touchF x.most x.l x.ck x.n x.now).2.2.2.2 H n,
          ok := fun x a H n ⟨h1, h2, h3⟩ => by
           subst h1
           obtain ⟨r, hF, H', m, wr, rfl, g0, g1⟩ := touch_fn x.most x.l x.ck x.n x.now h3.1 h3.2.1 h3.2.2.1 h3.2.2.2
           exact zJs h2.1 h2.2 hF (.cons _ _ _ _ (.ptr _ _ _ rfl) (.cons _ _ _ _ (.int _ _) (.cons _ _ _ _ (.int _ _) .nil))) (.tuple _ _ (.cons _ _ _ _ (.int _ _) (.cons _ _ _ _ (.bool _) (.cons _ _ _ _ (.int _ _) .nil)))) g0 g1,
          uniq := fun x y a H n ⟨h1, h2, _⟩ ⟨k1, k2, _⟩ => by
           rw [h1] at k1
           obtain ⟨tb, mb, most, l, ck, n1, now⟩ := x
           obtain ⟨tb', mb', most', l', ck', n1', now'⟩ := y
           simp only [List.cons.injEq, Value.pointer.injEq, Option.some.injEq, Addr.mk.injEq, Value.int.injEq, true_and, and_true] at k1
           obtain ⟨rfl, rfl, rfl⟩ := k1
           obtain ⟨rfl, rfl, rfl, rfl⟩ := zLr h2.1 h2.2 k2.1 k2.2
           rfl,
          tr := fun x H n K => frcN x.tb fun tb => frcN x.mb fun mb => K (tabOut (touchV (touchF x.most x.l x.ck x.n x.now)) tb mb (touchF x.most x.l x.ck x.n x.now).2.2.2.1 (touchF x.most x.l x.ck x.n x.now).2.2.2.2 H n),
          trOk := fun x H n K h => by rw [zBg, zBg] at h; exact h }
def idleF (l : List CliX) (n : Int) (b : Bool) : Int × List CliX := if hasC l n then (0, putC l n (whenC l n) b) else (6, l)
noncomputable def tbTq9 : Tb Try.prog 0 := tbOf mixed [zEm]
theorem idle_fn (most : Int) (l : List CliX) (ck : Nat) (n : Int) (b : Bool) (hm : 1 ≤ most) (hn : (keysC l).Nodup) : ∃ r, FnS Try.prog 0 12 [.pointer (some ⟨0, 0, none⟩), .int .i64 n, .bool b] (tabH most l ck) 2 r ∧ ∃ H m wr, r = .ret (.int .i64 (idleF l n b).1) H m wr ∧ H.get 0 = some (tabO most 1) ∧ H.get 1 = some (.map (encC (idleF l n b).2) ck) := by
 refine zHg mixed tbTq9 [900005, 900006] Try.func12 (c := bodyOf Try.f12) (by kernel_rfl) ?_
 refine ifK (fun h => absurd (show (most == 0) = true from h) (by simp; omega)) (fun _ => ?_)
 refine Exists.intro (.tuple #[.agg #[.int .i64 (whenC l n), .bool (idleC l n)], .bool (hasC l n)]) (Exists.intro [] (Exists.intro 0 (And.intro (zCy (e := 62) (l := l) (a := n) (ck := ck) (r := 1) (ok := true) rfl rfl rfl (by kernel_rfl) zDl rfl hn) ?_)))
 refine ifK (fun h3 => ?_) (fun h3 => ?_)
 ·have h3 : (!hasC l n) = true := h3
  have h3 : hasC l n = false := by simpa using h3
  rw [show idleF l n b = (6, l) by unfold idleF; rw [h3]; rfl]
  exact ⟨_, _, _, rfl, by kernel_rfl, by kernel_rfl⟩
 ·have h3 : (!hasC l n) = false := h3
  have h3 : hasC l n = true := by simpa using h3
  rw [show idleF l n b = (0, putC l n (whenC l n) b) by unfold idleF; rw [h3]; rfl]
  refine And.intro (by kernel_rfl) ?_
  refine Exists.intro undef (Exists.intro [((1 : Nat), some (AObj.map (encC (putC l n (whenC l n) b)) ck))] (Exists.intro (0 : Nat) (And.intro (Eq.trans (zPd (e := 62) (l := l) (a := n) (w := whenC l n) (b := b) (ck := ck) (r := 1) rfl rfl rfl rfl (by kernel_rfl) rfl hn) (by rw [h3]; rfl)) ?_)))
  exact ⟨_, _, _, rfl, by kernel_rfl, by kernel_rfl⟩
structure TiA where
 tb : Nat
 mb : Nat
 most : Int
 l : List CliX
 ck : Nat
 n : Int
 b : Bool
noncomputable def ct_idle : Ct Try.prog 0 :=
 CtR.ct { f := 12, X := TiA, pre := fun x a H _ => a = [.pointer (some ⟨x.tb, 0, none⟩), .int .i64 x.n, .bool x.b] ∧ (H.get x.tb = some (tabO x.most x.mb) ∧ H.get x.mb = some (.map (encC x.l) x.ck)) ∧ goodC x.most x.l,
          out := fun x H n => tabOut (.int .i64 (idleF x.l x.n x.b).1) x.tb x.mb (idleF x.l x.n x.b).2 x.ck H n,
          ok := fun x a H n ⟨h1, h2, h3⟩ => by
           subst h1
           obtain ⟨r, hF, H', m, wr, rfl, g0, g1⟩ := idle_fn x.most x.l x.ck x.n x.b h3.1 h3.2.1
           exact zJs h2.1 h2.2 hF (.cons _ _ _ _ (.ptr _ _ _ rfl) (.cons _ _ _ _ (.int _ _) (.cons _ _ _ _ (.bool _) .nil))) (.int _ _) g0 g1,
          uniq := fun x y a H n ⟨h1, h2, _⟩ ⟨k1, k2, _⟩ => by
           rw [h1] at k1
           obtain ⟨tb, mb, most, l, ck, n1, b⟩ := x
           obtain ⟨tb', mb', most', l', ck', n1', b'⟩ := y
           simp only [List.cons.injEq, Value.pointer.injEq, Option.some.injEq, Addr.mk.injEq, Value.int.injEq, Value.bool.injEq, true_and, and_true] at k1
           obtain ⟨rfl, rfl, rfl⟩ := k1
           obtain ⟨rfl, rfl, rfl, rfl⟩ := zLr h2.1 h2.2 k2.1 k2.2
           rfl,
          tr := fun x H n K => frcN x.tb fun tb => frcN x.mb fun mb => K (tabOut (.int .i64 (idleF x.l x.n x.b).1) tb mb (idleF x.l x.n x.b).2 x.ck H n),
          trOk := fun x H n K h => by rw [zBg, zBg] at h; exact h }
theorem when_fn (most : Int) (l : List CliX) (ck : Nat) (n : Int) (hm : 1 ≤ most) (hn : (keysC l).Nodup) : ∃ r, FnS Try.prog 0 17 [.pointer (some ⟨0, 0, none⟩), .int .i64 n] (tabH most l ck) 2 r ∧ ∃ H m wr, r = .ret (.tuple #[.int .i64 (whenC l n), .bool (hasC l n)]) H m wr ∧ ∀ k ∈ wr, 2 ≤ k := by
 refine zHg mixed tbTq9 [900005] Try.func17 (c := bodyOf Try.f17) (by kernel_rfl) ?_
 refine ifK (fun h => absurd (show (most == 0) = true from h) (by simp; omega)) (fun _ => ?_)
 refine Exists.intro (.tuple #[.agg #[.int .i64 (whenC l n), .bool (idleC l n)], .bool (hasC l n)]) (Exists.intro [] (Exists.intro 0 (And.intro (zCy (e := 62) (l := l) (a := n) (ck := ck) (r := 1) (ok := true) rfl rfl rfl (by kernel_rfl) zDl rfl hn) ?_)))
 exact ⟨_, _, _, rfl, wr_ge2 rfl⟩
noncomputable def ct_tabR (f : FuncId) (D : List CliX → Int → Value) (hp : ∀ l n, plainV 8 (D l n) = true) (hfn : ∀ (most : Int) (l : List CliX) (ck : Nat) (n : Int), 1 ≤ most → (keysC l).Nodup → ∃ r, FnS Try.prog 0 f [.pointer (some ⟨0, 0, none⟩), .int .i64 n] (tabH most l ck) 2 r ∧ ∃ H m wr, r = .ret (D l n) H m wr ∧ ∀ k ∈ wr, 2 ≤ k) : Ct Try.prog 0 :=
 CtR.ct { f := f, X := TiA, pre := fun x a H _ => (a = [.pointer (some ⟨x.tb, 0, none⟩), .int .i64 x.n] ∧ x.b = true) ∧ (H.get x.tb = some (tabO x.most x.mb) ∧ H.get x.mb = some (.map (encC x.l) x.ck)) ∧ goodC x.most x.l,
          out := fun x H n => .ret (D x.l x.n) H n [],
          ok := fun x a H n ⟨h1, h2, h3⟩ => by
           obtain ⟨h1, _⟩ := h1
           subst h1
           obtain ⟨r, hF, H', m, wr, rfl, hw⟩ := hfn x.most x.l x.ck x.n h3.1 h3.2.1
           have hat : TcA.at ⟨x.tb, x.mb, x.most, x.l, x.ck, 0, 0⟩ H := h2
           exact zDr [x.tb, x.mb] hF hw (zDs (TcA.ne hat)) (.cons _ _ _ _ (.ptr _ _ _ rfl) (.cons _ _ _ _ (.int _ _) .nil)) (zLq hat) (hp _ _),
          uniq := fun x y a H n ⟨h1, h2, _⟩ ⟨k1, k2, _⟩ => by
           obtain ⟨h1, hb⟩ := h1
           obtain ⟨k1, kb⟩ := k1
           rw [h1] at k1
           obtain ⟨tb, mb, most, l, ck, n1, b⟩ := x
           obtain ⟨tb', mb', most', l', ck', n1', b'⟩ := y
           simp only [List.cons.injEq, Value.pointer.injEq, Option.some.injEq, Addr.mk.injEq, Value.int.injEq, true_and, and_true] at k1
           obtain ⟨rfl, rfl⟩ := k1
           obtain ⟨rfl, rfl, rfl, rfl⟩ := zLr h2.1 h2.2 k2.1 k2.2
           rfl }
noncomputable def ct_when : Ct Try.prog 0 := ct_tabR 17 (fun l n => .tuple #[.int .i64 (whenC l n), .bool (hasC l n)]) (fun _ _ => rfl) when_fn
noncomputable def inl_has20 : Ct Try.prog 0 := Ct.inl (tbOf mixed [ct_when]) mixed [] 19 Try.f19 Try.func19 (bodyOf Try.f19) (by kernel_rfl)
end Go.Proofs.Ytpdeidlkeplegaa
namespace Go.Proofs.Ytpdeidlkeplegaa
open Go Go.RowKit
def layI : Lay Int := ⟨fun x => [.int .i64 x], 1, 3, fun _ => rfl, by decide, fun _ => rfl, fun x y h => by simpa using h⟩
def trI (l : List Int) : Value := treeV 1 l.length (l.flatMap layI.g)
theorem flatI (l : List Int) : l.flatMap layI.g = l.map iV := by
 induction l with
 | nil => rfl
 | cons x l ih => rw [List.flatMap_cons, ih]; rfl
theorem row_dvI {w' : World} {B sz n : Nat} {e : TypeId} {v : Value} {xs cs : List Value} {F : Nat → Option Obj} (hF : ∀ b, B ≤ b → F b = w'.heap[b]?) (h : w'.ownsRow B e sz v n xs) (hl : cs.length = n * sz) (hc : ∀ (j : Nat) (u y : Value), cs[j]? = some u → xs[j]? = some y → DV F u y) : DV F (treeV sz n cs) v := by
 obtain ⟨hxl, ⟨rfl, rfl⟩ | ⟨g, cap, cur, rfl, hg, hb, h1, h2, h3, h4⟩⟩ := h
 ·have : cs = [] := List.eq_nil_of_length_eq_zero (by rw [hl, Nat.zero_mul])
  subst this
  exact .tree sz 0 0 0 0 [] none (fun _ => undef) (by simp) (Nat.le_refl _) (Nat.zero_le _) (.inr ⟨rfl, fun _ => rfl⟩) (fun j hj => by simp at hj) (fun j v hj => by simp at hj)
 ·have hle : n * sz ≤ cur.size := by rw [h3]; exact Nat.mul_le_mul_right _ h1
  refine .tree sz n cap g 0 cs _ (fun j => cur.toList.getD j undef) hl h1 h2 (.inl rfl) (fun j hj => ?_) (fun j u hj => ?_)
  ·unfold fzc
   rw [hF g hg, hb, Nat.zero_add]
   have : j < cur.toList.length := by rw [Array.length_toList]; omega
   simp only [List.getD_eq_getElem?_getD, List.getElem?_eq_getElem this, Option.getD_some]
   rw [← Array.getElem?_toList, List.getElem?_eq_getElem this]
  ·have hjl : j < n * sz := by have := (List.getElem?_eq_some_iff.1 hj).1; omega
   have hjc : j < cur.toList.length := by rw [Array.length_toList]; omega
   have hx : xs[j]? = some (cur.toList.getD j undef) := by
    rw [← h4, List.getElem?_take_of_lt hjl, List.getD_eq_getElem?_getD, List.getElem?_eq_getElem hjc]; rfl
   exact hc j u _ hj hx
theorem hr_keepT {P : Program} {E : Env} {G : Gh} {w w' : World} (hE : HR P E G w) (hb : Below w.heap.size w w') : HR P E G w' ∧ Stp E E [] w w' := by
 obtain ⟨b1, b2, b3, b4, b5⟩ := hb
 refine ⟨⟨fun id hd => Nat.lt_of_lt_of_le (hE.lt id hd) b4, hE.dom, fun id o ho => ?_, hE.inj, hE.ro, hE.fz_below b5, hE.fn, Nat.lt_of_lt_of_le hE.pos b4⟩, .refl E, b1, b2, b3, b4, fun b hb _ => b5 b hb, fun id h1 h2 => absurd h2 h1, fun _ _ h => .inl h⟩
 have hd := hE.live (id := id) (by rw [ho]; simp)
 exact (hE.obj id o ho).mono (.refl E) hd (b5 _ (hE.lt id hd))
theorem zQv {P : Program} {f : FuncId} {args : List Value} {t : Value} {H : Tr AObj} {n : Nat} (h : ∀ (E : Env) (w : World) (args' : Array Value), VL E args args'.toList → HR P E H.get w → CallsIn Fence.wide 0 P f args' w fun e w' => ∃ x, e = .returned x ∧ Below w.heap.size w w' ∧ ∀ F : Nat → Option Obj, (∀ b, w.heap.size ≤ b → F b = w'.heap[b]?) → DV F t x) : CallOK P 0 f args H n (.ret t H n []) := by
 refine ⟨Grw.refl _ _ _, fun E w args' _ hva hE _ _ => ?_⟩
 refine (h E w args' hva hE).mono fun e w' ⟨x, he, hb, hx⟩ => ?_
 subst he
 obtain ⟨k1, k2⟩ := hr_keepT hE hb
 obtain ⟨b1, b2, b3, b4, b5⟩ := hb
 have hlt : ∀ b ob, E.fz b = some ob → b < w.heap.size := fun b ob hb => (Array.getElem?_eq_some_iff.1 (hE.fz b ob hb)).1
 let E1 : Env := { E with fz := fzNew E.fz w.heap.size w' }
 have hx1 : Ext E E1 := ⟨fun _ h => h, fun _ _ => rfl, fun _ _ => rfl, fun _ _ => rfl, fun _ _ => rfl, fun _ _ => Iff.rfl, fun b ob hb => by show (if _ then _ else _) = _; rw [if_pos (hlt b ob hb)]; exact hb⟩
 refine ⟨E1, x, rfl, (hx (fzNew E.fz w.heap.size w') (fun b hb => by show (if _ then _ else _) = _; rw [if_neg (by omega)])).vr, hx1, fun _ => ⟨.inl, fun h => h.resolve_right (by omega)⟩, ⟨k1.lt, k1.dom, fun id o ho => ?_, k1.inj, k1.ro, fun b ob hb => ?_, fun id hi hr => ?_, k1.pos⟩, ⟨hx1, b1, b2, b3, b4, fun b hb _ => b5 b hb, fun id h1 h2 => absurd h2 h1, fun b ob hb => ?_⟩⟩
 ·have hd := hE.live (id := id) (by rw [ho]; simp)
  exact (hE.obj id o ho).mono hx1 hd (b5 _ (hE.lt id hd))
 ·have hb : (if b < w.heap.size then E.fz b else w'.heap[b]?) = some ob := hb
  by_cases hbl : b < w.heap.size
  ·rw [if_pos hbl] at hb; rw [b5 b hbl]; exact hE.fz b ob hb
  ·rw [if_neg hbl] at hb; exact hb
 ·show (if _ then _ else _) = _
  rw [if_pos (hE.lt id (hE.live hi))]; exact hE.fn id hi hr
 ·have hb : (if b < w.heap.size then E.fz b else w'.heap[b]?) = some ob := hb
  by_cases hbl : b < w.heap.size
  ·rw [if_pos hbl] at hb; exact .inl hb
  ·exact .inr (.inl (by omega))
theorem zRp {l : List Value} {H : Tr AObj} {n : Nat} {ks : List Int} (h : zBa l H = some ks) : CallOK Try.prog 0 28 l H n (.ret (trI (isortI ks)) H n []) := by
 refine zQv fun E w args' hva hE => (zKf h E w args' hva hE).mono ?_
 rintro e w' ⟨v, rfl, hb, hrow, _⟩
 refine ⟨v, rfl, hb, fun F hF => ?_⟩
 have hlen : (isortI ks).length = ks.length := (zAe ks).length_eq
 unfold trI
 rw [flatI, hlen]
 refine row_dvI hF hrow (by rw [List.length_map, hlen, Nat.mul_one]) fun j u y hu hy => ?_
 have : u = y := by
  rw [show (isortI ks).map iV = (isortI ks).map (Value.int .i64) from rfl] at hu
  exact Option.some.inj (hu.symm.trans hy)
 subst this
 obtain ⟨a, _, rfl⟩ := List.mem_map.1 (List.mem_of_getElem? hu)
 exact .plain _ rfl
noncomputable def ct_sortTC : Ct Try.prog 0 :=
 CtR.ct { f := 28, X := SoA, pre := fun x a H _ => a = x.as ∧ H.get x.c = some (.cells [.map (some x.mb)] 52) ∧ H.get x.mb = some (.map (encC x.l) x.ck) ∧ (keysC x.l).Nodup ∧ rangeC x.l ∧ x.l.length ≤ 1000000,
          out := fun x H n => .ret (trI (isortI (keysC x.l))) H n [],
          ok := fun x a H n ⟨h1, h2, h3, h4, h5, h6⟩ => by
           subst h1
           refine zRp (ks := keysC x.l) ?_
           unfold zBa SoA.as
           simp only [h2, h3, zEz h5, zIm h4]
           rw [show ((keysC x.l).length.ble 1000000) = true from Nat.ble_eq_true_of_le (by unfold keysC; rw [List.length_map]; exact h6)]
           rfl,
          uniq := fun x y a H n ⟨h1, h2, h3, _⟩ ⟨k1, k2, k3, _⟩ => by
           rw [h1] at k1
           obtain ⟨c, mb, l, ck⟩ := x
           obtain ⟨c', mb', l', ck'⟩ := y
           simp only [SoA.as, List.cons.injEq, Value.func.injEq, Array.mk.injEq, Value.pointer.injEq, Option.some.injEq, Addr.mk.injEq, true_and, and_true] at k1
           subst k1
           have h2 : H.get c = _ := h2
           have k2 : H.get c = _ := k2
           rw [h2] at k2
           simp only [Option.some.injEq, AObj.cells.injEq, List.cons.injEq, Value.map.injEq, and_true] at k2
           subst k2
           have h3 : H.get mb = _ := h3
           have k3 : H.get mb = _ := k3
           rw [h3] at k3
           simp only [Option.some.injEq, AObj.map.injEq] at k3
           obtain ⟨e2, rfl⟩ := k3
           rw [zHj e2] }
noncomputable def inl_allT : Ct Try.prog 0 := Ct.inl (tbOf mixed [zEm, zJy, ct_sortTC]) mixed [] 20 Try.f20 Try.func20 (bodyOf Try.f20) (by kernel_rfl)
theorem zLt {a b : List Int} (h : trI a = trI b) : a = b := zNa layI h
noncomputable def tbTq11 : Tb Try.prog 0 := tbOf mixed []
theorem sameI_tr (a b : List Int) (hl : a.length ≤ 1000000000) : ∃ r, FnS Try.prog 0 21 [trI a, trI b] .e 0 r ∧ ∃ H m wr, r = .ret (.bool (decide (a = b))) H m wr := by
 refine zHg mixed tbTq11 [] Try.func21 (c := bodyOf Try.f21) (by kernel_rfl) ?_
 refine ifK (fun h => ?_) (fun h => ?_)
 ·have h : ((a.length : Int) != (b.length : Int)) = true := h
  have h : a.length ≠ b.length := by have : (a.length : Int) ≠ (b.length : Int) := by simpa using h
                                     omega
  rw [decide_eq_false (fun e => h (by rw [e]))]
  exact ⟨_, _, _, rfl⟩
 have h : ((a.length : Int) != (b.length : Int)) = false := h
 have h : a.length = b.length := by have : (a.length : Int) = (b.length : Int) := by simpa using h
                                    omega
 refine zCh (fun (i : Nat) f => ⟨slots 5 [(0, trI a), (1, trI b), (5, .int .i64 (i : Nat))] f, heap 0 [], 0, [], []⟩) (fun i => a.length - i) (fun i => i ≤ a.length ∧ a.take i = b.take i) 0 ⟨Nat.zero_le _, rfl⟩ (rcq [] ⟨⟨_, rfl, zAb 8 rfl⟩, ⟨_, rfl, zAb 8 rfl⟩, ⟨_, rfl, .int _ _⟩, trivial⟩ trivial .nil) ?_
 rintro i f ⟨hi, heq⟩
 have hi : i ≤ a.length := hi
 refine zJb tbTq11 [] 0 _ none mixed _ _ _ ?_
 refine ifK (fun h1 => ?_) (fun h1 => ?_)
 ·have h1 : i < a.length := by have h1 : ((i : Nat) : Int) < (a.length : Int) := of_decide_eq_true h1; omega
  have h1b : i < b.length := by omega
  refine And.intro (by kernel_rfl) ?_
  refine ifK (fun _ => ?_) (fun h2 => absurd h2 (by simp [inI]; omega))
  refine Exists.intro a[i] (And.intro (zBw layI h1) ?_)
  refine ifK (fun _ => ?_) (fun h2 => absurd h2 (by simp [inI]; omega))
  refine Exists.intro b[i] (And.intro (zBw layI h1b) ?_)
  refine ifK (fun h3 => ?_) (fun h3 => ?_)
  ·have h3 : (a[i] != b[i]) = true := h3
   have h3 : a[i] ≠ b[i] := by simpa using h3
   rw [decide_eq_false (fun e => h3 (by subst e; rfl))]
   exact And.intro rfl (zDx (rcq [] (d := 5) (d2 := 0) (lv := [(4, .bool false)]) (bs := []) (W := []) (m := 0) (df := []) ⟨⟨_, rfl, zEp 8 rfl⟩, trivial⟩ trivial .nil) (fun f => ⟨_, _, _, rfl⟩))
  ·have h3 : (a[i] != b[i]) = false := h3
   have h3 : a[i] = b[i] := by simpa using h3
   exact ⟨i + 1, ⟨h1, by rw [List.take_succ_eq_append_getElem h1, List.take_succ_eq_append_getElem h1b, heq, h3]⟩, by show a.length - (i + 1) < a.length - i; omega, rcq [] ⟨⟨_, rfl, zAb 8 rfl⟩, ⟨_, rfl, zAb 8 rfl⟩, zAc rfl (by show IntKind.i64.wrap ((i : Int) + 1) = ((i + 1 : Nat) : Int); rw [wrapN (by omega) (by omega)]; omega), trivial⟩ trivial .nil⟩
 ·have h1 : i = a.length := by have h1 : ¬ ((i : Nat) : Int) < (a.length : Int) := of_decide_eq_false h1; omega
  have e : a = b := by rw [h1, List.take_of_length_le (Nat.le_refl _), List.take_of_length_le (by omega)] at heq; exact heq
  rw [decide_eq_true e]
  exact And.intro rfl (zDx (rcq [] (d := 5) (d2 := 0) (lv := []) (bs := []) (W := []) (m := 0) (df := []) trivial trivial .nil) (fun f => ⟨_, _, _, rfl⟩))
noncomputable def ct_sameI : Ct Try.prog 0 := CtR.tree 21 (List Int × List Int) (fun x => [trI x.1, trI x.2]) (fun x => x.1.length ≤ 1000000000) (fun x => .bool (decide (x.1 = x.2))) (fun a b h => by simp only [List.cons.injEq, and_true] at h; exact Prod.ext (zLt h.1) (zLt h.2)) (fun _ => rfl)
 (fun x hl => by obtain ⟨r, hF, H, m, wr, rfl⟩ := sameI_tr x.1 x.2 hl; exact ⟨_, _, _, _, hF, .one _ _ (.plain _ rfl)⟩)
end Go.Proofs.Ytpdeidlkeplegaa
namespace Go.Proofs.Ytpdeidlkeplegaa
open Go Go.RowKit
structure KvX where
 n : Int
 v : Value
def KvX.e (c : KvX) : MapEntry := { key := .int .i64 c.n, val := c.v, born := 0 }
def encV (l : List KvX) : List MapEntry := l.map KvX.e
theorem zEd (a b : List KvX) : encV (a ++ b) = encV a ++ encV b := List.map_append
theorem zKy (a : Int) (c : KvX) : eqK Try.prog 3 (.int .i64 a) c.e = some (a == c.n) := by kernel_rfl
theorem zBz (l : List KvX) : zAa (encV l) = true := by
 unfold zAa encV
 rw [List.all_map]
 exact List.all_eq_true.2 fun _ _ => rfl
def keysV (l : List KvX) : List Int := l.map KvX.n
theorem zEi {a : Int} : ∀ {l : List KvX} (i : Nat), a ∉ keysV l → zBk Try.prog 3 (.int .i64 a) (encV l) i = some none
 | [], _, _ => rfl
 | c :: l, i, h => by
  have h1 : (a == c.n) = false := by
   have : a ≠ c.n := fun e => h (by rw [e]; exact List.mem_cons_self ..)
   simpa using this
  show zBk _ _ _ (c.e :: encV l) i = _
  unfold zBk
  rw [zKy, h1]
  exact zEi (i + 1) (fun hm => h (List.mem_cons_of_mem _ hm))
theorem zEj {c : KvX} {B : List KvX} : ∀ {A : List KvX} (i : Nat), (keysV (A ++ c :: B)).Nodup → zBk Try.prog 3 (.int .i64 c.n) (encV (A ++ c :: B)) i = some (some (i + A.length, c.v))
 | [], i, hn => by
  have hn : (c.n :: keysV B).Nodup := hn
  rw [List.nodup_cons] at hn
  show zBk _ _ _ (c.e :: encV B) i = _
  unfold zBk
  rw [zKy, show (c.n == c.n) = true by simp]
  have hall : ∀ x ∈ encV B, eqK Try.prog 3 (.int .i64 c.n) x = some false := fun x hx => by
   obtain ⟨d, hd, rfl⟩ := List.mem_map.1 hx
   have : (c.n == d.n) = false := by
    have : c.n ≠ d.n := fun e => hn.1 (by rw [e]; exact List.mem_map_of_mem hd)
    simpa using this
   rw [zKy, this]
  have key : ∀ (p : MapEntry → Bool), (∀ x ∈ encV B, p x = true) → (encV B).all p = true := fun p hp => List.all_eq_true.2 hp
  simp only []
  rw [key]
  ·rfl
  ·intro x hx
   rw [hall x hx]
 | d :: A, i, hn => by
  have hn : (d.n :: keysV (A ++ c :: B)).Nodup := hn
  rw [List.nodup_cons] at hn
  have h1 : (c.n == d.n) = false := by
   have : c.n ≠ d.n := fun e => hn.1 (by rw [← e]; exact List.mem_map_of_mem (by simp))
   simpa using this
  show zBk _ _ _ (d.e :: encV (A ++ c :: B)) i = _
  unfold zBk
  rw [zKy, h1]
  have := zEj (A := A) (i + 1) hn.2
  rw [List.length_cons, show i + (A.length + 1) = i + 1 + A.length by omega]
  exact this
def plainVs (l : List KvX) : Prop := ∀ c ∈ l, plainV 8 c.v = true
theorem encV_rm {σ : Nat → Nat → Prop} : ∀ {l : List KvX}, plainVs l → RM σ (encV l) (encV l)
 | [], _ => .nil
 | x :: l, h => .cons _ _ _ _ (.int _ _) (zEp 8 (h x (List.mem_cons_self ..))) (encV_rm fun c hc => h c (List.mem_cons_of_mem _ hc))
theorem zAf {σ : Nat → Nat → Prop} {l : List KvX} (h : plainVs l) (k : Nat) : RO Try.prog σ (.map (encV l) k) (.map (encV l) k) := RO.map _ _ _ (encV_rm h)
theorem splitV {l : List KvX} {a : Int} (h : a ∈ keysV l) : ∃ A c B, l = A ++ c :: B ∧ c.n = a := by
 obtain ⟨c, hc, rfl⟩ := List.mem_map.1 h
 obtain ⟨A, B, rfl⟩ := List.append_of_mem hc
 exact ⟨A, c, B, rfl, rfl⟩
def getV (l : List KvX) (a : Int) : Option KvX := l.find? fun c => c.n == a
def valV (l : List KvX) (a : Int) (z0 : Value) : Value := ((getV l a).map KvX.v).getD z0
def hasV (l : List KvX) (a : Int) : Bool := (getV l a).isSome
def putV (l : List KvX) (a : Int) (u : Value) : List KvX := if hasV l a then l.map (fun c => if c.n == a then ⟨a, u⟩ else c) else l ++ [⟨a, u⟩]
def delV (l : List KvX) (a : Int) : List KvX := l.filter fun c => !(c.n == a)
theorem getV_none {l : List KvX} {a : Int} (h : a ∉ keysV l) : getV l a = none := by
 unfold getV
 rw [List.find?_eq_none]
 intro c hc
 have : c.n ≠ a := fun e => h (by rw [← e]; exact List.mem_map_of_mem hc)
 simpa using this
theorem zPo {A B : List KvX} {c : KvX} (hn : (keysV (A ++ c :: B)).Nodup) : getV (A ++ c :: B) c.n = some c := by
 unfold getV
 have hA : A.find? (fun x => x.n == c.n) = none := by
  rw [List.find?_eq_none]
  intro d hd e
  unfold keysV at hn
  rw [List.map_append, List.nodup_append] at hn
  exact hn.2.2 d.n (List.mem_map_of_mem hd) c.n (by simp) (by simpa using e)
 rw [List.find?_append, hA]
 simp
theorem zMi {A B : List KvX} {c : KvX} (hn : (keysV (A ++ c :: B)).Nodup) : (∀ d ∈ A, (d.n == c.n) = false) ∧ ∀ d ∈ B, (d.n == c.n) = false := by
 unfold keysV at hn
 rw [List.map_append, List.map_cons, List.nodup_append, List.nodup_cons] at hn
 refine ⟨fun d hd => ?_, fun d hd => ?_⟩
 ·have : d.n ≠ c.n := hn.2.2 d.n (List.mem_map_of_mem hd) c.n (List.mem_cons_self ..)
  simpa using this
 ·have : d.n ≠ c.n := fun e => hn.2.1.1 (by rw [← e]; exact List.mem_map_of_mem hd)
  simpa using this
theorem zCf {l : List KvX} {a : Int} : hasV l a = true ↔ a ∈ keysV l := by
 unfold hasV getV keysV
 rw [List.find?_isSome]
 constructor
 ·rintro ⟨c, hc, e⟩
  have e : c.n = a := by simpa using e
  exact e ▸ List.mem_map_of_mem hc
 ·intro h
  obtain ⟨c, hc, rfl⟩ := List.mem_map.1 h
  exact ⟨c, hc, by simp⟩
theorem putV_mid {A B : List KvX} {c : KvX} (hn : (keysV (A ++ c :: B)).Nodup) (u : Value) : putV (A ++ c :: B) c.n u = A ++ ⟨c.n, u⟩ :: B := by
 obtain ⟨h1, h2⟩ := zMi hn
 unfold putV
 rw [if_pos (by unfold hasV; rw [zPo hn]; rfl), List.map_append, List.map_cons]
 congr 1
 ·conv => rhs; rw [← List.map_id A]
  exact List.map_congr_left fun d hd => by rw [if_neg (by rw [h1 d hd]; simp)]; rfl
 ·congr 1
  ·rw [if_pos (by simp)]
  ·conv => rhs; rw [← List.map_id B]
   exact List.map_congr_left fun d hd => by rw [if_neg (by rw [h2 d hd]; simp)]; rfl
theorem delV_mid {A B : List KvX} {c : KvX} (hn : (keysV (A ++ c :: B)).Nodup) : delV (A ++ c :: B) c.n = A ++ B := by
 obtain ⟨h1, h2⟩ := zMi hn
 unfold delV
 rw [List.filter_append, List.filter_cons_of_neg (by simp), List.filter_eq_self.2 fun d hd => by rw [h1 d hd]; rfl, List.filter_eq_self.2 fun d hd => by rw [h2 d hd]; rfl]
section
variable {ev : Operand → Value} {G : Gh} {n : Nat} {o : Oper}
theorem aop_kvY {t e : TypeId} {x y : Operand} {r ck : Nat} {A B : List KvX} {c : KvX} {ok : Bool} (ho : o.op = .lookup t x y ok) (hx : ev x = .map (some r)) (hy : ev y = .int .i64 c.n) (hu : Try.prog.underlying t = some (.map 3 e)) (hG : G r = some (.map (encV (A ++ c :: B)) ck)) (hn : (keysV (A ++ c :: B)).Nodup) :
  aop Try.prog o ev G n = .val (bif ok then .tuple #[c.v, .bool true] else c.v) [] 0 := by
 unfold aop aop0 aStr
 simp only [ho, ORes.or]
 unfold zCx
 simp only [hu, hx, hy, hG, Try.underlying3, zBz, zCb, Bool.and_self, cond_true, zEj 0 hn]
theorem aop_kvN {t e : TypeId} {x y : Operand} {r ck : Nat} {l : List KvX} {a : Int} {ok : Bool} {z0 : Value} (ho : o.op = .lookup t x y ok) (hx : ev x = .map (some r)) (hy : ev y = .int .i64 a) (hu : Try.prog.underlying t = some (.map 3 e)) (hz : ((Try.prog.info? e).bind (·.zero)) = some z0) (hp : plainV 8 z0 = true) (hG : G r = some (.map (encV l) ck)) (h : a ∉ keysV l) :
  aop Try.prog o ev G n = .val (bif ok then .tuple #[z0, .bool false] else z0) [] 0 := by
 obtain ⟨i, h1, h2⟩ := Option.bind_eq_some_iff.1 hz
 unfold aop aop0 aStr
 simp only [ho, ORes.or]
 unfold zCx
 simp only [hu, hx, hy, hG, Try.underlying3, zBz, zCb, Bool.and_self, cond_true, zEi 0 h, h1, h2, hp]
theorem aop_kvU {t e : TypeId} {x y z : Operand} {r ck : Nat} {A B : List KvX} {c : KvX} {u : Value} (ho : o.op = .mapUpdate t x y z) (hx : ev x = .map (some r)) (hy : ev y = .int .i64 c.n) (hz : ev z = u) (hu : Try.prog.underlying t = some (.map 3 e)) (hG : G r = some (.map (encV (A ++ c :: B)) ck)) (hn : (keysV (A ++ c :: B)).Nodup) :
  aop Try.prog o ev G n = .val undef [(r, some (.map (encV (A ++ ⟨c.n, u⟩ :: B)) ck))] 0 := by
 have hsb : ∀ a : Int, Instr.sameBits 10000 (.int .i64 a) (.int .i64 a) = true := fun a => by unfold Instr.sameBits; simp
 have hkey : (((encV (A ++ c :: B))[0 + A.length]?).map (·.key)).getD (.int .i64 c.n) = .int .i64 c.n := by
  rw [zEd, List.getElem?_append_right (by simp [encV]), show 0 + A.length - (encV A).length = 0 by simp [encV]]
  rfl
 unfold aop aop0 aStr
 simp only [ho, ORes.or]
 unfold zCk
 simp only [hu, hx, hy, hz, hG, Try.underlying3, zBz, zCb, Bool.and_self, cond_true, zEj 0 hn, hkey, hsb]
 have : modE (encV (A ++ c :: B)) (0 + A.length) (.int .i64 c.n) (u) = encV (A ++ ⟨c.n, u⟩ :: B) := by
  unfold modE
  rw [zEd, zEd, Nat.zero_add, show A.length = (encV A).length by simp [encV]]
  exact zEo _
 rw [this]
theorem aop_kvI {t e : TypeId} {x y z : Operand} {r ck : Nat} {l : List KvX} {a : Int} {u : Value} (ho : o.op = .mapUpdate t x y z) (hx : ev x = .map (some r)) (hy : ev y = .int .i64 a) (hz : ev z = u) (hu : Try.prog.underlying t = some (.map 3 e)) (hG : G r = some (.map (encV l) ck)) (h : a ∉ keysV l) :
  aop Try.prog o ev G n = .val undef [(r, some (.map (encV (l ++ [⟨a, u⟩])) (ck + 1)))] 0 := by
 unfold aop aop0 aStr
 simp only [ho, ORes.or]
 unfold zCk
 simp only [hu, hx, hy, hz, hG, Try.underlying3, zBz, zCb, Bool.and_self, cond_true, zEi 0 h]
 rw [zEd]; rfl
theorem aop_kvD {t e xT : TypeId} {x y : Operand} {r ck : Nat} {A B : List KvX} {c : KvX} (ho : o.op = .call ⟨.builtin .delete, #[x, y], #[t, xT]⟩) (hx : ev x = .map (some r)) (hy : ev y = .int .i64 c.n) (hu : Try.prog.underlying t = some (.map 3 e)) (hG : G r = some (.map (encV (A ++ c :: B)) ck)) (hn : (keysV (A ++ c :: B)).Nodup) :
  aop Try.prog o ev G n = .val (.tuple #[]) [(r, some (.map (encV (A ++ B)) ck))] 0 := by
 unfold aop aop0 aStr
 simp only [ho, ORes.or, zBs, List.map_cons, List.map_nil]
 unfold zGd
 simp only [hu, hx, hy, hG, Try.underlying3, zBz, zCb, Bool.and_self, cond_true, zEj 0 hn]
 have : (encV (A ++ c :: B)).eraseIdx (0 + A.length) = encV (A ++ B) := by
  rw [zEd, zEd, Nat.zero_add, show A.length = (encV A).length by simp [encV]]
  exact zFl
 rw [this]
theorem zHw {t e : TypeId} {x y : Operand} {r ck : Nat} {l : List KvX} {a : Int} {ok : Bool} {z0 : Value} (ho : o.op = .lookup t x y ok) (hx : ev x = .map (some r)) (hy : ev y = .int .i64 a) (hu : Try.prog.underlying t = some (.map 3 e)) (hz : ((Try.prog.info? e).bind (·.zero)) = some z0) (hp : plainV 8 z0 = true) (hG : G r = some (.map (encV l) ck)) (hn : (keysV l).Nodup) :
  aop Try.prog o ev G n = .val (bif ok then .tuple #[valV l a z0, .bool (hasV l a)] else valV l a z0) [] 0 := by
 by_cases h : a ∈ keysV l
 ·obtain ⟨A, c, B, rfl, rfl⟩ := splitV h
  rw [aop_kvY ho hx hy hu hG hn]
  unfold valV hasV
  rw [zPo hn]; rfl
 ·rw [aop_kvN ho hx hy hu hz hp hG h]
  unfold valV hasV
  rw [getV_none h]; rfl
theorem aop_kvP {t e : TypeId} {x y z : Operand} {r ck : Nat} {l : List KvX} {a : Int} {u : Value} (ho : o.op = .mapUpdate t x y z) (hx : ev x = .map (some r)) (hy : ev y = .int .i64 a) (hz : ev z = u) (hu : Try.prog.underlying t = some (.map 3 e)) (hG : G r = some (.map (encV l) ck)) (hn : (keysV l).Nodup) :
  aop Try.prog o ev G n = .val undef [(r, some (.map (encV (putV l a u)) (bif hasV l a then ck else ck + 1)))] 0 := by
 by_cases h : a ∈ keysV l
 ·have hh := zCf.2 h
  obtain ⟨A, c, B, rfl, rfl⟩ := splitV h
  rw [aop_kvU ho hx hy hz hu hG hn, putV_mid hn, hh]; rfl
 ·have hh : hasV l a = false := by cases hb : hasV l a; rfl; exact absurd (zCf.1 hb) h
  rw [aop_kvI ho hx hy hz hu hG h, hh]
  unfold putV
  rw [if_neg (by rw [hh]; simp)]; rfl
theorem aop_kvR {t e xT : TypeId} {x y : Operand} {r ck : Nat} {l : List KvX} {a : Int} (ho : o.op = .call ⟨.builtin .delete, #[x, y], #[t, xT]⟩) (hx : ev x = .map (some r)) (hy : ev y = .int .i64 a) (hu : Try.prog.underlying t = some (.map 3 e)) (hG : G r = some (.map (encV l) ck)) (hn : (keysV l).Nodup) (h : hasV l a = true) :
  aop Try.prog o ev G n = .val (.tuple #[]) [(r, some (.map (encV (delV l a)) ck))] 0 := by
 obtain ⟨A, c, B, rfl, rfl⟩ := splitV (zCf.1 h)
 rw [aop_kvD ho hx hy hu hG hn, delV_mid hn]
end
end Go.Proofs.Ytpdeidlkeplegaa
namespace Go.Proofs.Ytpdeidlkeplegaa
open Go Go.RowKit
def kB (E : List (Int × Bool)) : List KvX := E.map fun p => ⟨p.1, .bool p.2⟩
def kI (E : List (Int × Int)) : List KvX := E.map fun p => ⟨p.1, .int .i64 p.2⟩
theorem zAo (E : List (Int × Bool)) : plainVs (kB E) := fun c hc => by obtain ⟨p, _, rfl⟩ := List.mem_map.1 hc; rfl
theorem zBy (E : List (Int × Int)) : plainVs (kI E) := fun c hc => by obtain ⟨p, _, rfl⟩ := List.mem_map.1 hc; rfl
def getB (E : List (Int × Bool)) (a : Int) : Bool := ((E.find? fun p => p.1 == a).map Prod.snd).getD false
def getI (E : List (Int × Int)) (a : Int) : Int := ((E.find? fun p => p.1 == a).map Prod.snd).getD 0
theorem zLv : ∀ (E : List (Int × Bool)) (a : Int), valV (kB E) a (.bool false) = .bool (getB E a)
 | [], _ => rfl
 | p :: E, a => by
  have ih := zLv E a
  unfold valV getV getB kB at ih ⊢
  rw [List.map_cons, List.find?_cons, List.find?_cons]
  cases h : (p.1 == a) with
  | true => simp only [h]; rfl
  | false => simp only [h]; exact ih
theorem zOu : ∀ (E : List (Int × Int)) (a : Int), valV (kI E) a (.int .i64 0) = .int .i64 (getI E a)
 | [], _ => rfl
 | p :: E, a => by
  have ih := zOu E a
  unfold valV getV getI kI at ih ⊢
  rw [List.map_cons, List.find?_cons, List.find?_cons]
  cases h : (p.1 == a) with
  | true => simp only [h]; rfl
  | false => simp only [h]; exact ih
theorem keys_kI (E : List (Int × Int)) : keysV (kI E) = E.map Prod.fst := by unfold keysV kI; rw [List.map_map]; rfl
theorem zGk (E : List (Int × Bool)) : keysV (kB E) = E.map Prod.fst := by unfold keysV kB; rw [List.map_map]; rfl
theorem zJg : ((Try.prog.info? 4).bind (·.zero)) = some (.bool false) := by kernel_rfl
theorem zQn : ((Try.prog.info? 3).bind (·.zero)) = some (.int .i64 0) := by kernel_rfl
noncomputable def tbTq12 : Tb Try.prog 0 := tbOf mixed []
theorem any_fn (L : List Int) (E : List (Int × Bool)) (ck : Nat) (hn : (keysV (kB E)).Nodup) (hl : L.length ≤ 1000000000) : ∃ r, FnS Try.prog 0 24 [trI L, .map (some 0)] (heap 1 [(0, .map (encV (kB E)) ck)]) 1 r ∧ ∃ H m wr, r = .ret (.bool (L.any (getB E))) H m wr ∧ ∀ k ∈ wr, 1 ≤ k := by
 refine zHg mixed tbTq12 [900005] Try.func24 (c := bodyOf Try.f24) (by kernel_rfl) ?_
 refine zCh (fun (i : Nat) f => ⟨slots 5 [(0, trI L), (1, .map (some 0)), (5, .int .i64 (i : Nat))] f, heap 1 [(0, .map (encV (kB E)) ck)], 1, [], []⟩) (fun i => L.length - i) (fun i => i ≤ L.length ∧ L.any (getB E) = (L.drop i).any (getB E)) 0 ⟨Nat.zero_le _, rfl⟩ (rcq [] ⟨⟨_, rfl, zAb 8 rfl⟩, ⟨_, rfl, .map _ _ rfl⟩, ⟨_, rfl, .int _ _⟩, trivial⟩ ⟨⟨by decide, _, rfl, zAf (zAo E) ck⟩, trivial⟩ .nil) ?_
 rintro i f ⟨hi, heq⟩
 have hi : i ≤ L.length := hi
 refine zJb tbTq12 [900005] 1 _ none mixed _ _ _ ?_
 refine ifK (fun h1 => ?_) (fun h1 => ?_)
 ·have h1 : i < L.length := by have h1 : ((i : Nat) : Int) < (L.length : Int) := of_decide_eq_true h1; omega
  have hst : (L.drop i).any (getB E) = (getB E L[i] || (L.drop (i + 1)).any (getB E)) := by rw [List.drop_eq_getElem_cons h1]; rfl
  rw [hst] at heq
  refine ifK (fun _ => ?_) (fun h2 => absurd h2 (by simp [inI]; omega))
  refine Exists.intro L[i] (And.intro (zBw layI h1) ?_)
  refine Exists.intro (.bool (getB E L[i])) (Exists.intro [] (Exists.intro 0 (And.intro (Eq.trans (zHw (e := 4) (l := kB E) (a := L[i]) (ck := ck) (r := 0) (ok := false) rfl rfl rfl (by kernel_rfl) zJg rfl rfl hn) (by rw [zLv]; rfl)) ?_)))
  refine ifK (fun h3 => ?_) (fun h3 => ?_)
  ·rw [heq, show getB E L[i] = true from h3]
   exact And.intro rfl (zDx (rcq [] (d := 5) (d2 := 0) (lv := [(4, .bool true)]) (bs := []) (W := []) (m := 1) (df := []) ⟨⟨_, rfl, zEp 8 rfl⟩, trivial⟩ trivial .nil) (fun f => ⟨_, _, _, rfl, fun k hk => by cases hk⟩))
  ·rw [show getB E L[i] = false from h3, Bool.false_or] at heq
   exact ⟨i + 1, ⟨h1, heq⟩, by show L.length - (i + 1) < L.length - i; omega, rcq [] ⟨⟨_, rfl, zAb 8 rfl⟩, ⟨_, rfl, .map _ _ rfl⟩, zAc rfl (by show IntKind.i64.wrap ((i : Int) + 1) = ((i + 1 : Nat) : Int); rw [wrapN (by omega) (by omega)]; omega), trivial⟩ ⟨⟨by decide, _, rfl, zAf (zAo E) ck⟩, trivial⟩ .nil⟩
 ·have h1 : ¬ i < L.length := by have h1 : ¬ ((i : Nat) : Int) < (L.length : Int) := of_decide_eq_false h1; omega
  rw [heq, List.drop_eq_nil_of_le (by omega)]
  exact And.intro rfl (zDx (rcq [] (d := 5) (d2 := 0) (lv := []) (bs := []) (W := []) (m := 1) (df := []) trivial trivial .nil) (fun f => ⟨_, _, _, rfl, fun k hk => by cases hk⟩))
structure AnA where
 ib : Nat
 L : List Int
 E : List (Int × Bool)
 ck : Nat
theorem encV_inj {a b : List KvX} (h : encV a = encV b) : a = b := by
 induction a generalizing b with
 | nil => cases b with
  | nil => rfl
  | cons _ _ => cases h
 | cons x a ih => cases b with
  | nil => cases h
  | cons y b =>
   obtain ⟨n, v⟩ := x
   obtain ⟨n', v'⟩ := y
   have h2 : KvX.e ⟨n, v⟩ :: encV a = KvX.e ⟨n', v'⟩ :: encV b := h
   clear h
   simp only [List.cons.injEq, KvX.e, MapEntry.mk.injEq, Value.int.injEq, true_and, and_true] at h2
   obtain ⟨⟨e1, e2⟩, h3⟩ := h2
   subst e1 e2
   rw [ih h3]
theorem kB_inj : ∀ {a b : List (Int × Bool)}, kB a = kB b → a = b
 | [], [], _ => rfl
 | [], _ :: _, h => by cases h
 | _ :: _, [], h => by cases h
 | (n, v) :: a, (n', v') :: b, h => by
  have h2 : (⟨n, .bool v⟩ : KvX) :: kB a = ⟨n', .bool v'⟩ :: kB b := h
  simp only [List.cons.injEq, KvX.mk.injEq, Value.bool.injEq] at h2
  obtain ⟨⟨e1, e2⟩, h3⟩ := h2
  rw [e1, e2, kB_inj h3]
noncomputable def ct_any : Ct Try.prog 0 :=
 CtR.ct { f := 24, X := AnA, pre := fun x a H _ => a = [trI x.L, .map (some x.ib)] ∧ H.get x.ib = some (.map (encV (kB x.E)) x.ck) ∧ (keysV (kB x.E)).Nodup ∧ x.L.length ≤ 1000000000,
          out := fun x H n => .ret (.bool (x.L.any (getB x.E))) H n [],
          ok := fun x a H n ⟨h1, h2, h3, h4⟩ => by
           subst h1
           obtain ⟨r, hF, H', m, wr, rfl, hw⟩ := any_fn x.L x.E x.ck h3 h4
           exact zDr [x.ib] hF hw (zDs (by simp)) (.cons _ _ _ _ (.deep _ _ _ _ _ _) (.cons _ _ _ _ (.map _ _ rfl) .nil)) (zKu ⟨⟨x.ib, _, rfl, h2, zAf (zAo _) _⟩, trivial⟩) rfl,
          uniq := fun x y a H n ⟨h1, h2, _⟩ ⟨k1, k2, _⟩ => by
           rw [h1] at k1
           obtain ⟨ib, L, E, ck⟩ := x
           obtain ⟨ib', L', E', ck'⟩ := y
           simp only [List.cons.injEq, Value.map.injEq, Option.some.injEq, and_true] at k1
           obtain ⟨e1, rfl⟩ := k1
           have e1 := zLt e1
           have h2 : H.get ib = _ := h2
           have k2 : H.get ib = _ := k2
           rw [h2] at k2
           simp only [Option.some.injEq, AObj.map.injEq] at k2
           have e2 := kB_inj (encV_inj k2.1)
           subst e1 e2
           rfl }
end Go.Proofs.Ytpdeidlkeplegaa
namespace Go.Proofs.Ytpdeidlkeplegaa
open Go Go.RowKit
def whenL (l : List CliX) (L : List Int) : List (Int × Int) := L.map fun a => (a, whenC l a)
noncomputable def tbTq13 : Tb Try.prog 0 := tbOf mixed [ct_when]
theorem whens_fn (L : List Int) (most : Int) (l : List CliX) (ck : Nat) (hg : goodC most l) (hL : L.Nodup) (hl : L.length ≤ 1000000000) : ∃ r, FnS Try.prog 0 23 [.pointer (some ⟨0, 0, none⟩), trI L] (tabH most l ck) 2 r ∧ ∃ H m wr, r = .ret (.map (some 2)) H m wr ∧ (∀ k ∈ wr, 2 ≤ k) ∧ H.get 2 = some (.map (encV (kI (whenL l L))) L.length) := by
 refine zHg mixed tbTq13 [900006] Try.func23 (c := bodyOf Try.f23) (by kernel_rfl) ?_
 refine zCh (fun (i : Nat) f => ⟨slots 6 [(0, .pointer (some ⟨0, 0, none⟩)), (1, trI L), (5, .map (some 2)), (6, .int .i64 (i : Nat))] f, heap 2 [(0, tabO most 1), (1, .map (encC l) ck), (2, .map (encV (kI (whenL l (L.take i)))) i)], 3, [], []⟩) (fun i => L.length - i) (fun i => i ≤ L.length) 0 (Nat.zero_le _) (rcq [2] ⟨⟨_, rfl, .ptr _ _ _ rfl⟩, ⟨_, rfl, zAb 8 rfl⟩, ⟨_, rfl, .map _ _ rfl⟩, ⟨_, rfl, .int _ _⟩, trivial⟩ ⟨⟨by decide, _, rfl, zAk rfl⟩, ⟨by decide, _, rfl, zAd l ck⟩, ⟨by decide, _, rfl, RO.map _ _ _ .nil⟩, trivial⟩ .nil) ?_
 rintro i f hi
 have hi : i ≤ L.length := hi
 refine zJb tbTq13 [900006] 2 _ none mixed _ _ _ ?_
 refine ifK (fun h1 => ?_) (fun h1 => ?_)
 ·have h1 : i < L.length := by have h1 : ((i : Nat) : Int) < (L.length : Int) := of_decide_eq_true h1; omega
  refine ifK (fun _ => ?_) (fun h2 => absurd h2 (by simp [inI]; omega))
  refine Exists.intro L[i] (And.intro (zBw layI h1) ?_)
  refine Exists.intro ⟨0, 1, most, l, ck, L[i], true⟩ (And.intro ⟨⟨rfl, rfl⟩, ⟨by kernel_rfl, by kernel_rfl⟩, hg⟩ ?_)
  refine ifK (fun _ => ?_) (fun h2 => absurd h2 (by simp [inI]; omega))
  refine Exists.intro L[i] (And.intro (zBw layI h1) ?_)
  have hno : L[i] ∉ keysV (kI (whenL l (L.take i))) := by
   rw [keys_kI]
   unfold whenL
   rw [List.map_map]
   intro hm
   obtain ⟨a, ha, e⟩ := List.mem_map.1 hm
   have e : a = L[i] := e
   subst e
   obtain ⟨j, hj, hje⟩ := List.getElem_of_mem ha
   rw [List.getElem_take] at hje
   rw [List.length_take] at hj
   have := (List.getElem_inj hL).1 hje
   omega
  refine Exists.intro undef (Exists.intro [((2 : Nat), some (AObj.map (encV (kI (whenL l (L.take i)) ++ [⟨L[i], .int .i64 (whenC l L[i])⟩])) (i + 1)))] (Exists.intro (0 : Nat) (And.intro (aop_kvI (e := 3) (l := kI (whenL l (L.take i))) (a := L[i]) (u := .int .i64 (whenC l L[i])) (ck := i) (r := 2) rfl rfl rfl rfl (by kernel_rfl) rfl hno) ?_)))
  have htk : kI (whenL l (L.take (i + 1))) = kI (whenL l (L.take i)) ++ [⟨L[i], .int .i64 (whenC l L[i])⟩] := by
   unfold kI whenL
   rw [List.take_succ_eq_append_getElem h1, List.map_append, List.map_append]; rfl
  exact ⟨i + 1, h1, by show L.length - (i + 1) < L.length - i; omega, rcq [2] ⟨⟨_, rfl, .ptr _ _ _ rfl⟩, ⟨_, rfl, zAb 8 rfl⟩, ⟨_, rfl, .map _ _ rfl⟩, zAc rfl (by show IntKind.i64.wrap ((i : Int) + 1) = ((i + 1 : Nat) : Int); rw [wrapN (by omega) (by omega)]; omega), trivial⟩ ⟨⟨by decide, _, rfl, zAk rfl⟩, ⟨by decide, _, rfl, zAd l ck⟩, ⟨by decide, _, rfl, by rw [htk]; exact zAf (by rw [← htk]; exact zBy _) _⟩, trivial⟩ .nil⟩
 ·have h1 : i = L.length := by have h1 : ¬ ((i : Nat) : Int) < (L.length : Int) := of_decide_eq_false h1; omega
  subst h1
  rw [List.take_of_length_le (Nat.le_refl _)]
  refine And.intro rfl (zDx (rcq [2] (d := 6) (d2 := 2) (lv := [(5, .map (some 2))]) (bs := [(2, .map (encV (kI (whenL l L))) L.length)]) (W := []) (m := 3) (df := []) ⟨⟨_, rfl, .map _ _ rfl⟩, trivial⟩ ⟨⟨by decide, _, rfl, zAf (zBy _) _⟩, trivial⟩ .nil) (fun f => ?_))
  exact ⟨_, _, _, rfl, wr_ge2 rfl, by kernel_rfl⟩
structure WhA where
 tb : Nat
 mb : Nat
 most : Int
 l : List CliX
 ck : Nat
 L : List Int
noncomputable def ct_whens : Ct Try.prog 0 :=
 CtR.ct { f := 23, X := WhA, pre := fun x a H _ => a = [.pointer (some ⟨x.tb, 0, none⟩), trI x.L] ∧ (H.get x.tb = some (tabO x.most x.mb) ∧ H.get x.mb = some (.map (encC x.l) x.ck)) ∧ goodC x.most x.l ∧ x.L.Nodup ∧ x.L.length ≤ 1000000000,
          out := fun x H n => .ret (.map (some n)) (H.set n (some (.map (encV (kI (whenL x.l x.L))) x.L.length))) (n + 1) [x.tb, x.mb],
          ok := fun x a H n ⟨h1, h2, h3, h4, h5⟩ => by
           subst h1
           obtain ⟨r, hF, H', m, wr, rfl, hw, g2⟩ := whens_fn x.L x.most x.l x.ck h3 h4 h5
           have hat : TcA.at ⟨x.tb, x.mb, x.most, x.l, x.ck, 0, 0⟩ H := h2
           refine zEy (n := n) [x.tb, x.mb] [2] [(n, some (.map (encV (kI (whenL x.l x.L))) x.L.length))] hF (TcA.ne hat) (zLq hat) (.cons _ _ _ _ (.ptr _ _ _ rfl) (.cons _ _ _ _ (.deep _ _ _ _ _ _) .nil)) (fun k o ho hk => ?_) (fun j hj => ?_) (by simp) (fun y hy => ?_) (.map _ _ (tau_new (Nat.le_refl _))) (fun p hp => ?_) (fun k j e hk => ?_) (fun j o ho => ?_)
           ·match k, hk, ho with
            | 0, _, ho => have ho : some (AObj.cells _ _) = some o := ho; cases ho; exact fun h => h
            | 1, _, ho => have ho : some (AObj.map _ _) = some o := ho; cases ho; exact fun h => h
            | k + 2, hk, _ => have hk : k + 2 < 2 := hk; omega
           ·simp only [List.mem_cons, List.not_mem_nil, or_false] at hj
            rcases hj with rfl | rfl
            ·exact ⟨_, h2.1, fun h => h⟩
            ·exact ⟨_, h2.2, fun h => h⟩
           ·simp only [List.mem_singleton] at hy
            subst hy
            exact ⟨Nat.le_refl _, by decide, by rw [g2]; simp⟩
           ·simp only [List.mem_singleton] at hp
            subst hp
            exact .inr ⟨Nat.le_refl _, Nat.lt_succ_self _⟩
           ·have h2 := hw k hk
            rw [List.getElem?_eq_none (by show 2 ≤ k; exact h2)] at e; cases e
           ·simp only [List.mem_singleton, Prod.mk.injEq, Option.some.injEq] at ho
            obtain ⟨rfl, rfl⟩ := ho
            exact ⟨2, _, tau_new (Nat.le_refl _), g2, zAf (zBy _) _, fun h => absurd h (Nat.lt_irrefl _)⟩,
          uniq := fun x y a H n ⟨h1, h2, _⟩ ⟨k1, k2, _⟩ => by
           rw [h1] at k1
           obtain ⟨tb, mb, most, l, ck, L⟩ := x
           obtain ⟨tb', mb', most', l', ck', L'⟩ := y
           simp only [List.cons.injEq, Value.pointer.injEq, Option.some.injEq, Addr.mk.injEq, and_true] at k1
           obtain ⟨rfl, e1⟩ := k1
           have e1 := zLt e1
           obtain ⟨rfl, rfl, rfl, rfl⟩ := zLr h2.1 h2.2 k2.1 k2.2
           subst e1
           rfl }
end Go.Proofs.Ytpdeidlkeplegaa
namespace Go.Proofs.Ytpdeidlkeplegaa
open Go Go.RowKit
def putB (E : List (Int × Bool)) (a : Int) (b : Bool) : List (Int × Bool) := if hasV (kB E) a then E.map (fun p => if p.1 == a then (a, b) else p) else E ++ [(a, b)]
def delB (E : List (Int × Bool)) (a : Int) : List (Int × Bool) := E.filter fun p => !(p.1 == a)
theorem kB_put (E : List (Int × Bool)) (a : Int) (b : Bool) : putV (kB E) a (.bool b) = kB (putB E a b) := by
 unfold putV putB
 split
 ·unfold kB
  rw [List.map_map, List.map_map]
  refine List.map_congr_left fun p _ => ?_
  show (if p.1 == a then _ else _) = (⟨(if p.1 == a then (a, b) else p).1, .bool (if p.1 == a then (a, b) else p).2⟩ : KvX)
  split <;> rfl
 ·unfold kB; rw [List.map_append]; rfl
theorem zPt (E : List (Int × Bool)) (a : Int) : delV (kB E) a = kB (delB E a) := by
 unfold delV delB kB
 rw [List.filter_map]; rfl
theorem zRf {E : List (Int × Bool)} (h : (keysV (kB E)).Nodup) (a : Int) (b : Bool) : (keysV (kB (putB E a b))).Nodup := by
 rw [zGk] at h ⊢
 unfold putB
 split
 ·rw [List.map_map]
  have : (Prod.fst ∘ fun p : Int × Bool => if p.1 == a then (a, b) else p) = Prod.fst := by
   funext p
   show (if p.1 == a then (a, b) else p).1 = p.1
   split
   ·rename_i e; exact (by simpa using e : p.1 = a).symm
   ·rfl
  rw [this]; exact h
 ·rename_i hn
  rw [List.map_append, List.nodup_append]
  refine ⟨h, by simp, fun x hx y hy => ?_⟩
  simp at hy
  subst hy
  intro e
  subst e
  exact hn (zCf.2 (by rw [zGk]; exact hx))
theorem zCr {E : List (Int × Bool)} (h : (keysV (kB E)).Nodup) (a : Int) : (keysV (kB (delB E a))).Nodup := by
 rw [zGk] at h ⊢
 exact h.sublist (List.Sublist.map _ (List.filter_sublist ..))
theorem getB_put (E : List (Int × Bool)) (a : Int) (b : Bool) (c : Int) : getB (putB E a b) c = if c = a then b else getB E c := by
 unfold putB
 split
 ·rename_i hh
  induction E with
  | nil => cases hh
  | cons p E ih =>
   unfold getB at ih ⊢
   rw [List.map_cons, List.find?_cons, List.find?_cons]
   by_cases hp : p.1 = a
   ·rw [if_pos (by simpa using hp)]
    by_cases hc : c = a
    ·subst hc; simp
    ·have h1 : ((a, b).1 == c) = false := by simpa using fun e : a = c => hc e.symm
     have h2 : (p.1 == c) = false := by rw [hp]; simpa using fun e : a = c => hc e.symm
     rw [h1, h2, if_neg hc]
     by_cases hh2 : hasV (kB E) a = true
     ·have := ih hh2
      rw [if_neg hc] at this
      exact this
     ·have hno : ∀ q ∈ E, q.1 ≠ a := fun q hq e => hh2 (zCf.2 (by rw [zGk]; exact e ▸ List.mem_map_of_mem hq))
      rw [show E.map (fun p => if p.1 == a then (a, b) else p) = E from by
       conv => rhs; rw [← List.map_id E]
       exact List.map_congr_left fun q hq => by rw [if_neg (by simpa using hno q hq)]; rfl]
   ·have hp' : (p.1 == a) = false := by simpa using hp
    rw [if_neg (by rw [hp']; simp)]
    have hh2 : hasV (kB E) a = true := by
     rw [zCf, zGk] at hh ⊢
     rcases List.mem_cons.1 hh with e | e
     ·exact absurd e.symm hp
     ·exact e
    by_cases hpc : p.1 = c
    ·have h1 : (p.1 == c) = true := by simpa using hpc
     rw [h1, if_neg (fun e => hp (hpc.trans e))]
    ·have h1 : (p.1 == c) = false := by simpa using hpc
     rw [h1]
     exact ih hh2
 ·rename_i hh
  unfold getB
  rw [List.find?_append]
  by_cases hc : c = a
  ·subst hc
   have : E.find? (fun p => p.1 == c) = none := List.find?_eq_none.2 fun q hq e => hh (zCf.2 (by rw [zGk]; exact (by simpa using e : q.1 = c) ▸ List.mem_map_of_mem hq))
   rw [this]; simp
  ·rw [if_neg hc]
   cases hf : E.find? (fun p => p.1 == c) with
   | some q => rfl
   | none => simp [List.find?_cons, show (a == c) = false from by simpa using fun e : a = c => hc e.symm]
theorem zPm (E : List (Int × Bool)) (a c : Int) : getB (delB E a) c = if c = a then false else getB E c := by
 unfold getB delB
 rw [List.find?_filter]
 by_cases hc : c = a
 ·subst hc
  rw [if_pos rfl, List.find?_eq_none.2 (fun q _ e => by simp at e)]; rfl
 ·rw [if_neg hc]
  congr 2
  refine congrArg (fun f => List.find? f E) (funext fun p => ?_)
  by_cases hp : p.1 = c
  ·subst hp
   have : (p.1 == a) = false := by simpa using hc
   simp [this]
  ·have : (p.1 == c) = false := by simpa using hp
   simp [this]
def agreeC (l : List CliX) (E : List (Int × Bool)) : Prop := ∀ a ∈ keysC l, getB E a = idleC l a
theorem zIf {l : List CliX} : ∀ {L : List Int} {a : Int}, a ∈ L → getI (whenL l L) a = whenC l a
 | b :: L, a, h => by
  unfold getI whenL
  rw [List.map_cons, List.find?_cons]
  by_cases hb : b = a
  ·subst hb; simp
  ·have : (b == a) = false := by simpa using hb
   simp only [this]
   rcases List.mem_cons.1 h with e | e
   ·exact absurd e.symm hb
   ·exact zIf e
theorem fold_le {l : List CliX} : ∀ (L : List Int) (m : Int), ∀ y ∈ m :: L, whenC l (L.foldl (fun m x => bif before l x m then x else m) m) ≤ whenC l y
 | [], m, y, hy => by rw [List.mem_singleton.1 hy]; exact Int.le_refl _
 | x :: L, m, y, hy => by
  show whenC l (L.foldl _ (bif before l x m then x else m)) ≤ _
  have ih := fold_le (l := l) L (bif before l x m then x else m)
  have hx : whenC l (bif before l x m then x else m) ≤ whenC l x ∧ whenC l (bif before l x m then x else m) ≤ whenC l m := by
   cases hb : before l x m with
   | true =>
    refine ⟨Int.le_refl _, ?_⟩
    show whenC l x ≤ whenC l m
    unfold before cmpI at hb
    by_cases h1 : whenC l x < whenC l m
    ·omega
    ·by_cases h2 : whenC l x > whenC l m
     ·rw [decide_eq_false h1, decide_eq_true h2] at hb; simp at hb
     ·omega
   | false =>
    refine ⟨?_, Int.le_refl _⟩
    show whenC l m ≤ whenC l x
    unfold before cmpI at hb
    by_cases h1 : whenC l x < whenC l m
    ·rw [decide_eq_true h1] at hb; simp at hb
    ·omega
  have h0 := ih _ (List.mem_cons_self ..)
  simp only [List.mem_cons] at hy
  rcases hy with e | e | e
  ·rw [e]; omega
  ·rw [e]; omega
  ·exact ih y (List.mem_cons_of_mem _ e)
theorem minF_le {l : List CliX} {L : List Int} {y : Int} (h : y ∈ L) : whenC l (minF l L) ≤ whenC l y := by
 cases L with
 | nil => cases h
 | cons x L => exact fold_le L x y h
theorem put_key (a w : Int) (b : Bool) (d : CliX) : (if d.n == a then (⟨a, w, b⟩ : CliX) else d).n = d.n := by
 split
 ·rename_i e; exact (by simpa using e : d.n = a).symm
 ·rfl
theorem zCg {l : List CliX} {a w : Int} {b : Bool} (h : hasC l a = true) : keysC (putC l a w b) = keysC l := by
 unfold putC keysC
 rw [if_pos h, List.map_map]
 refine List.map_congr_left fun c _ => ?_
 show (if c.n == a then (⟨a, w, b⟩ : CliX) else c).n = c.n
 split
 ·rename_i e; exact (by simpa using e : c.n = a).symm
 ·rfl
theorem zPq {l : List CliX} {a w : Int} {b : Bool} (h : hasC l a = true) (c : Int) : idleC (putC l a w b) c = if c = a then b else idleC l c := by
 unfold putC
 rw [if_pos h]
 unfold idleC getC
 rw [List.find?_map]
 by_cases hc : c = a
 ·subst hc
  rw [if_pos rfl]
  have hs := h
  unfold hasC getC at hs
  have e : ((fun d : CliX => d.n == c) ∘ fun d : CliX => if d.n == c then (⟨c, w, b⟩ : CliX) else d) = fun d => d.n == c := funext fun d => congrArg (· == c) (put_key c w b d)
  rw [e]
  cases hf : l.find? (fun d => d.n == c) with
  | none => rw [hf] at hs; cases hs
  | some d => have := List.find?_some hf; simp only [Option.map_some, this, if_true, Option.getD_some]
 ·rw [if_neg hc]
  have e : ((fun d : CliX => d.n == c) ∘ fun d : CliX => if d.n == a then (⟨a, w, b⟩ : CliX) else d) = fun d => d.n == c := funext fun d => congrArg (· == c) (put_key a w b d)
  rw [e]
  cases hf : l.find? (fun d => d.n == c) with
  | none => rfl
  | some d =>
   have h1 : d.n = c := by simpa using List.find?_some hf
   simp only [Option.map_some, show (d.n == a) = false from by rw [h1]; simpa using hc]
   rfl
end Go.Proofs.Ytpdeidlkeplegaa
namespace Go.Proofs.Ytpdeidlkeplegaa
open Go Go.RowKit
section
variable {ev : Operand → Value} {G : Gh} {n : Nat} {o : Oper}
theorem delV_none {l : List KvX} {a : Int} (h : a ∉ keysV l) : delV l a = l := by
 unfold delV
 refine List.filter_eq_self.2 fun c hc => ?_
 have : c.n ≠ a := fun e => h (e ▸ List.mem_map_of_mem hc)
 simp [this]
theorem zKs {t e xT : TypeId} {x y : Operand} {r ck : Nat} {l : List KvX} {a : Int} (ho : o.op = .call ⟨.builtin .delete, #[x, y], #[t, xT]⟩) (hx : ev x = .map (some r)) (hy : ev y = .int .i64 a) (hu : Try.prog.underlying t = some (.map 3 e)) (hG : G r = some (.map (encV l) ck)) (hn : (keysV l).Nodup) :
  aop Try.prog o ev G n = .val (.tuple #[]) [(r, some (.map (encV (delV l a)) ck))] 0 := by
 by_cases h : a ∈ keysV l
 ·exact aop_kvR ho hx hy hu hG hn (zCf.2 h)
 ·rw [delV_none h]
  unfold aop aop0 aStr
  simp only [ho, ORes.or, zBs, List.map_cons, List.map_nil]
  unfold zGd
  simp only [hu, hx, hy, hG, Try.underlying3, zBz, zCb, Bool.and_self, cond_true, zEi 0 h]
end
end Go.Proofs.Ytpdeidlkeplegaa
namespace Go.Proofs.Ytpdeidlkeplegaa
open Go Go.RowKit
end Go.Proofs.Ytpdeidlkeplegaa
