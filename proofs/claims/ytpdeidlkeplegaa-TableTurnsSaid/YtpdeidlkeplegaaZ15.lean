/- DERIVED. Texts put together: Sorted, Tq1, Tq2, Tq3, Tq4, Tq5, Tq6, Aw20, Tq7. -/
import Derived.Test.YtpdeidlkeplegaaZ12
import Derived.Test.YtpdeidlkeplegaaZ13
import Derived.Test.YtpdeidlkeplegaaZ14
set_option maxRecDepth 1000000
set_option maxHeartbeats 32000000
namespace Go.Proofs.Ytpdeidlkeplegaa
open Go Go.RowKit Go.Maps
open Go.WideElems (Fit rd rg rg_of rd_mk)
def insI (x : Int) : List Int → List Int
 | [] => [x]
 | y :: l => bif decide (x ≤ y) then x :: y :: l else y :: insI x l
def isortI : List Int → List Int
 | [] => []
 | x :: l => insI x (isortI l)
theorem zHc (x : Int) : ∀ l, (insI x l).Perm (x :: l)
 | [] => .refl _
 | y :: l => by
  unfold insI
  cases decide (x ≤ y) with
  | true => exact .refl _
  | false => exact ((zHc x l).cons y).trans (.swap x y l)
theorem zBq : ∀ l, (isortI l).Perm l
 | [] => .refl _
 | x :: l => (zHc x _).trans ((zBq l).cons x)
theorem zHd {x : Int} : ∀ {l : List Int}, l.Pairwise (· ≤ ·) → (insI x l).Pairwise (· ≤ ·)
 | [], _ => by simp [insI]
 | y :: l, h => by
  rw [List.pairwise_cons] at h
  unfold insI
  cases hd : decide (x ≤ y) with
  | true =>
   have := of_decide_eq_true hd
   refine List.pairwise_cons.2 ⟨fun z hz => ?_, List.pairwise_cons.2 h⟩
   rcases List.mem_cons.1 hz with rfl | hz
   ·exact this
   ·have := h.1 z hz; omega
  | false =>
   have := of_decide_eq_false hd
   refine List.pairwise_cons.2 ⟨fun z hz => ?_, zHd h.2⟩
   have hz := (zHc x l).mem_iff.1 hz
   rcases List.mem_cons.1 hz with rfl | hz
   ·omega
   ·exact h.1 z hz
theorem zEp : ∀ l, (isortI l).Pairwise (· ≤ ·)
 | [] => .nil
 | x :: l => zHd (zEp l)
theorem zPh {ss ks : List Int} (h : ss.Perm ks) : (ss.mergeSort fun x y => decide (x ≤ y)) = isortI ks := by
 have tr : ∀ a b c : Int, leI a b = true → leI b c = true → leI a c = true := fun a b c h1 h2 => by simp only [leI, decide_eq_true_eq] at *; exact Int.le_trans h1 h2
 have to : ∀ a b : Int, (leI a b || leI b a) = true := fun a b => by simp only [leI, Bool.or_eq_true, decide_eq_true_eq]; exact Int.le_total a b
 refine List.Perm.eq_of_pairwise (le := fun a b => leI a b = true) (fun a b _ _ h1 h2 => ?_) (List.pairwise_mergeSort tr to ss) ((zEp ks).imp fun {a b} h => by simpa [leI] using h) (((List.mergeSort_perm ss leI).trans h).trans (zBq ks).symm)
 simp only [leI, decide_eq_true_eq] at h1 h2
 exact Int.le_antisymm h1 h2
def zCn : List MapEntry → Option (List Int)
 | [] => some []
 | e :: l => match e.key with
  | .int .i64 k => bif decide (-9223372036854775808 ≤ k) && decide (k ≤ 9223372036854775807) then (zCn l).map (k :: ·) else none
  | _ => none
def nodupI : List Int → Bool
 | [] => true
 | x :: l => (l.all fun y => !decide (x = y)) && nodupI l
theorem zHj : ∀ {l : List Int}, nodupI l = true → l.Nodup
 | [], _ => .nil
 | x :: l, h => by
  simp only [nodupI, Bool.and_eq_true] at h
  refine List.nodup_cons.2 ⟨fun hx => ?_, zHj h.2⟩
  have := List.all_eq_true.1 h.1 x hx
  simp at this
theorem zIo {E : Env} : ∀ {es l : List MapEntry} {ks : List Int}, zCn es = some ks → ML E es l → l.map (·.key) = ks.map (Value.int .i64) ∧ ∀ k ∈ ks, -9223372036854775808 ≤ k ∧ k ≤ 9223372036854775807
 | [], _, ks, h, .nil => by simp [zCn] at h; subst h; simp
 | e :: es, _, ks, h, .cons _ e' _ l' hk hv ht => by
  unfold zCn at h
  split at h
  ·rename_i k hke
   cases hc : (decide (-9223372036854775808 ≤ k) && decide (k ≤ 9223372036854775807)) with
   | false => simp [hc] at h
   | true =>
    simp only [hc, cond_true, Option.map_eq_some_iff] at h
    obtain ⟨ks', h1, rfl⟩ := h
    obtain ⟨h2, h3⟩ := zIo h1 ht
    rw [hke] at hk
    simp only [Bool.and_eq_true, decide_eq_true_eq] at hc
    refine ⟨by simp [h2, hk.int_eq], fun k' hk' => ?_⟩
    rcases List.mem_cons.1 hk' with rfl | hk'
    ·exact hc
    ·exact h3 k' hk'
  ·cases h
def anyR {H : Type} : Value → Option (DataW H × List MemPlace) := fun _ => some (.nil, [])
def intOfV : Value → Int
 | .int _ a => a
 | _ => 0
theorem list_end {P : Program} {E : Env} {H : Tr AObj} {n : Nat} {w w' : World} {e : TypeId} {sz : Nat} {xs : List Value} {len : Nat} {v : Value} (hE : HR P E H.get w) (hf : len ≠ 0 → Free E n (n + 1)) (hx : plainL xs = true) (hi : (P.info? e).map (·.size) = some sz) (hne : P.underlying e ≠ some (.int .u8))
  (hb : Below w.heap.size w w') (hrow : w'.ownsRow w.heap.size e sz v len xs) (hz0 : len = 0 → v = .slice none 0 0) : CallEnd P E n w (listOut e sz xs len id H n) (.returned v) w' := by
 unfold listOut
 cases hz : len.beq 0 with
 | true =>
  have hz := Nat.eq_of_beq_eq_true hz
  simp only [cond_true]
  have hv := hz0 hz
  subst hv
  obtain ⟨b1, b2, b3, b4, b5⟩ := hb
  refine ⟨E, _, rfl, .snil 0 0, .refl E, .refl E _, ⟨fun id hd => Nat.lt_of_lt_of_le (hE.lt id hd) b4, hE.dom, fun id o ho => ?_, hE.inj, hE.ro, hE.fz_below b5, hE.fn, Nat.lt_of_lt_of_le hE.pos b4⟩, .refl E, b1, b2, b3, b4, fun b hb _ => b5 b hb, fun id h1 h2 => absurd h2 h1, fun _ _ h => .inl h⟩
  have hd := hE.live (id := id) (by rw [ho]; simp)
  exact (hE.obj id o ho).mono (.refl E) hd (b5 _ (hE.lt id hd))
 | false =>
  have hz : len ≠ 0 := fun e => by subst e; simp at hz
  simp only [cond_false]
  obtain ⟨hxl, hown⟩ := hrow
  rcases hown with ⟨_, h0⟩ | ⟨g, cap, cur, rfl, hg, hc, h1, h2, h3, h4⟩
  ·exact absurd h0 hz
  ·have hnd : ¬ E.dom n := hf hz n (Nat.le_refl _) (by omega)
   have hle : xs.length ≤ cur.size := by
    rw [h3, hxl]; exact Nat.mul_le_mul_right _ h1
   obtain ⟨k1, k2⟩ := hr_fresh hE hnd hb hg hc hi (xs := xs) (by rw [hxl]; exact h4) hx hle hne
   refine ⟨_, _, rfl, ?_, k2.ext, dom1, by rw [zBn]; exact k1, k2⟩
   have := VR.su (E := E.push n g cur.size sz) n 0 len cap (E.push_dom n g cur.size sz) h1 h2 (by rw [Env.push_sz, Env.push_tot, h3]; omega)
   rwa [Env.push_ρ, Env.push_sh] at this
def zBg (l : List Value) (H : Tr AObj) : Option (List Int) :=
 match l with
 | [.func (.func g) fs cap] =>
  bif g.beq 38 && fs.size.beq 0 then
   (match cap.toList with
   | [.pointer (some ⟨c, 0, none⟩)] => (match H.get c with
    | some (.cells [.map (some mb)] _) => (match H.get mb with
     | some (.map es _) => (match zCn es with
      | some ks => bif nodupI ks && ks.length.ble 1000000 then some ks else none
      | none => none)
     | _ => none)
    | _ => none)
   | _ => none)
  else none
 | _ => none
theorem sorts_law (m : Nat) : AnyZI.SortsIn Try.prog zDx Fence.wide m :=
 ⟨fun blk off cap ss W hH hblk hsz => callsIn_wide.2 (AnyM.slices_Sort_int zOa blk off cap ss W hH hblk hsz),
  fun p cap W => callsIn_wide.2 (AnyM.slices_Sort_int_none zOa p cap W)⟩
theorem zLg {l : List Value} {H : Tr AObj} {n : Nat} {ks : List Int} (h : zBg l H = some ks) : TOK Try.prog 0 (.call 28 l) ⟨.e, H, n, [], []⟩ (listOut 3 1 ((isortI ks).map (Value.int .i64)) ks.length id H n) := by
 have main : ∀ (E : Env) (w : World) (args' : Array Value), VL E l args'.toList → HR Try.prog E H.get w → (ks.length ≠ 0 → Free E n (n + 1)) → CallsIn Fence.wide 0 Try.prog 28 args' w (CallEnd Try.prog E n w (listOut 3 1 ((isortI ks).map (Value.int .i64)) ks.length id H n)) := by
  intro E w args' hva hE hf
  unfold zBg at h
  split at h
  case h_2 => cases h
  rename_i g fs cap
  cases hg : (g.beq 38 && fs.size.beq 0) with
  | false => simp [hg] at h
  | true =>
  simp only [hg, cond_true] at h
  simp only [Bool.and_eq_true] at hg
  have hg1 := Nat.eq_of_beq_eq_true hg.1
  have hg2 := Nat.eq_of_beq_eq_true hg.2
  subst hg1
  split at h
  case h_2 => cases h
  rename_i c hcap
  split at h
  case h_2 => cases h
  rename_i mb bt hHc
  split at h
  case h_2 => cases h
  rename_i es ck hHm
  split at h
  case h_2 => cases h
  rename_i ks' hks
  cases hnd : (nodupI ks' && ks'.length.ble 1000000) with
  | false => simp [hnd] at h
  | true =>
  simp only [hnd, cond_true, Option.some.injEq] at h
  subst h
  simp only [Bool.and_eq_true] at hnd
  have hlen : ks'.length ≤ 1000000 := Nat.le_of_ble_eq_true hnd.2
  have hnodup := zHj hnd.1
  have hsh : E.sh c = 0 := by obtain ⟨_, _, _, _, _, _, _, _, h7, _⟩ := hE.obj c _ hHc; exact h7
  have harg : args' = #[.func (.func 38) #[] #[.pointer (some ⟨E.ρ c, 0, none⟩)]] := by
   have hv : ∃ v', args'.toList = [v'] ∧ VR E (.func (.func 38) fs cap) v' := by
    generalize args'.toList = x at hva
    cases hva with | cons _ v' _ l' hv ht => cases ht; exact ⟨v', rfl, hv⟩
   obtain ⟨v', h1, h2⟩ := hv
   have : v' = .func (.func 38) #[] #[.pointer (some ⟨E.ρ c, 0, none⟩)] := by
    cases h2 with
    | func _ _ fs' _ cap' _ ha hc =>
     have e1 : fs' = #[] := by
      have : fs'.toList.length = 0 := by rw [← ha.length, Array.length_toList, hg2]
      exact Array.ext' (List.eq_nil_of_length_eq_zero this)
     have e2 : cap' = #[.pointer (some ⟨E.ρ c, 0, none⟩)] := by
      rw [hcap] at hc
      generalize hy : cap'.toList = y at hc
      cases hc with
      | cons _ u _ l' hu ht =>
       cases ht
       cases hu
       rw [hsh] at hy
       exact Array.ext' hy
     rw [e1, e2]
   rw [this] at h1
   exact Array.ext' h1
  subst harg
  obtain ⟨es', hb, hmp⟩ := hE.obj mb _ hHm
  obtain ⟨cell', hc1, _, hc3⟩ := zAj (hE.obj c _ hHc) 0 (.map (some mb)) rfl
  have hc2 : cell' = .map (some (E.ρ mb)) := by cases hc3; rfl
  subst hc2
  have hclt : E.ρ c < w.heap.size := hE.lt c (hE.live (by rw [hHc]; simp))
  obtain ⟨pl, hperm, hml⟩ := hmp.perm
  obtain ⟨hkeys, hrange⟩ := zIo hks hml
  have hkp : (ks'.map (Value.int .i64)).Perm (es'.toList.map (·.key)) := by rw [← hkeys]; exact hperm.map _
  have hread : ∀ x ∈ es'.toList, ∃ k : Int, k ∈ ks' ∧ x.key = .int .i64 k := fun x hx => by
   have : x.key ∈ ks'.map (Value.int .i64) := hkp.mem_iff.2 (List.mem_map.2 ⟨x, hx, rfl⟩)
   obtain ⟨k, hk, e⟩ := List.mem_map.1 this
   exact ⟨k, hk, e.symm⟩
  have hkey : ∀ x ∈ es'.toList, ∃ k : Int, k ∈ ks' ∧ x.key = .int .i64 k ∧ keyOf Try.prog 3 x.key = some (.int .i64 k) := fun x hx => by
   obtain ⟨k, hk, e⟩ := hread x hx
   refine ⟨k, hk, e, ?_⟩
   rw [e]
   have := hrange k hk
   have e1 : IntKind.min .i64 = -9223372036854775808 := by decide
   have e2 : IntKind.max .i64 = 9223372036854775807 := by decide
   exact keyOf_int_mk Try.underlying3 (by simp only [Lit.wf, Bool.and_eq_true, decide_eq_true_eq, e1, e2]; exact this)
  have hsize : es'.size = ks'.length := by have := hkp.length_eq; simpa using this.symm
  have hfit : Fit Try.prog 3 (anyR (H := Unit)) es' ck := ⟨by rw [hsize]; unfold maxLen; omega, ⟨hmp.lt, hmp.nd, (hkp.nodup_iff).1 (List.pairwise_map.2 (hnodup.imp fun {a b} hne e => hne (by simpa using e)))⟩, fun x hx => by
   obtain ⟨k, _, _, hk⟩ := hkey x hx
   exact ⟨_, rd_mk hk (by rfl)⟩⟩
  obtain ⟨D0, hD0⟩ : ∃ D0 : DataW Unit, D0 = .map ((es'.toList.map (rg Try.prog 3 (anyR (H := Unit)))).foldr DataW.insert []) := ⟨_, rfl⟩
  have hown : w.ownsMap Try.prog 3 (anyR (H := Unit)) (E.ρ mb) es'.size D0 := ⟨es', ck, hb, hfit, Nat.le_refl _, hD0⟩
  have hik : (Go.intKeys D0).Perm ks' := by
   have h1 : (Go.intKeys D0).Perm ((es'.toList.map (rg Try.prog 3 (anyR (H := Unit)))).map fun p => Go.intOf p.1) := by
    rw [hD0]
    exact (Go.WideShapes.sorted_perm _).map _
   refine h1.trans ?_
   have h2 : ((es'.toList.map (rg Try.prog 3 (anyR (H := Unit)))).map fun p => Go.intOf p.1).map (Value.int .i64) = es'.toList.map (·.key) := by
    rw [List.map_map, List.map_map]
    refine List.map_congr_left fun x hx => ?_
    obtain ⟨k, _, e, hk⟩ := hkey x hx
    have : rd Try.prog 3 (anyR (H := Unit)) x = some (.int .i64 k, .nil) := by
     cases x; exact rd_mk (R := anyR (H := Unit)) (yv := (.nil, [])) hk rfl
    show Value.int .i64 (Go.intOf (rg Try.prog 3 (anyR (H := Unit)) x).1) = x.key
    rw [rg_of this, e]; rfl
   have h3 : (((es'.toList.map (rg Try.prog 3 (anyR (H := Unit)))).map fun p => Go.intOf p.1).map (Value.int .i64)).Perm (ks'.map (Value.int .i64)) := by rw [h2]; exact hkp.symm
   have h4 := h3.map intOfV
   simpa [List.map_map, Function.comp_def, intOfV] using h4
  have hms : Maps.size D0 = es'.size := by
   rw [hD0]
   show List.length _ = _
   rw [(Go.WideShapes.sorted_perm _).length_eq]; simp
  have hseq : SeqGives Fence.wide 2 Try.prog 38 #[.pointer (some ⟨E.ρ c, 0, none⟩)] encZ (fun ss => ss.Perm (Go.intKeys D0)) (Maps.size D0) w :=
   AnyZI.keys_gives (ρ := zFv) { lay_keys with } Fence.wide 2 trivial rfl (by omega) (E.ρ c) (E.ρ mb) es'.size D0 w hclt hc1 hown
  have cS := AnyZI.sorted_in zOx Fence.wide 5 trivial trivial trivial trivial rfl (by omega) (sorts_law _) (enters_of Try.func37 (by kernel_rfl) rfl) 38 #[.pointer (some ⟨E.ρ c, 0, none⟩)] trivial (enters_of Try.func38 (by kernel_rfl) rfl) _ _ (by rw [hms, hsize]; unfold maxLen; omega) (by rw [hms, hsize]; omega) w hseq
  change CallsIn _ _ Try.prog 28 _ _ _ at cS
  refine (callsIn_wide.2 (callsIn_wide.1 cS)).mono ?_
  rintro e w' ⟨v, ss, rfl, hS, hrow, hnil, hbel⟩
  have hsk : ss.Perm ks' := hS.trans hik
  have hrow' : w'.ownsRow w.heap.size 3 1 v ks'.length ((isortI ks').map (Value.int .i64)) := by
   have := hrow
   rw [zPh hsk, hsk.length_eq] at this
   exact this
  refine list_end hE hf ?_ (by kernel_rfl) (fun h => by rw [Try.underlying3] at h; cases h) hbel hrow' (fun h0 => hnil.2 (List.eq_nil_of_length_eq_zero (by rw [hsk.length_eq]; exact h0)))
  simp [plainL, plainV]
 unfold listOut at main ⊢
 cases hz : ks.length.beq 0 with
 | true =>
  simp only [hz, cond_true] at main ⊢
  exact ⟨Grw.refl _ _ _, fun E w args' hgl hva hE hl hf => main E w args' hva hE (fun h0 => absurd (Nat.eq_of_beq_eq_true hz) h0)⟩
 | false =>
  simp only [hz, cond_false] at main ⊢
  exact ⟨⟨Nat.le_succ _, fun k hk _ => Tr.get_set_ne _ _ (by have hk : k < n := hk; omega), fun h0 => h0.new _⟩, fun E w args' hgl hva hE hl hf => main E w args' hva hE (fun _ => hf)⟩
def zKi : Ct Try.prog 0 where
 f := 28
 res l H n := match zBg l H with | some ks => listOut 3 1 ((isortI ks).map (Value.int .i64)) ks.length id H n | none => .bad "sorted" []
 ok l H n := by
  cases h : zBg l H with
  | none => trivial
  | some ks => exact zLg h
 ck l H n K := match zBg l H with | some ks => K (listOut 3 1 ((isortI ks).map (Value.int .i64)) ks.length id H n) | none => False
 imp l H n K h := by
  cases hs : zBg l H with
  | none => rw [hs] at h; exact h.elim
  | some ks => rw [hs] at h; exact h
end Go.Proofs.Ytpdeidlkeplegaa
namespace Go.Proofs.Ytpdeidlkeplegaa
open Go Go.RowKit
theorem wrapN {x : Int} (h1 : 0 ≤ x) (h2 : x < 9223372036854775808) : IntKind.i64.wrap x = x := zKc (by omega) h2
structure CliX where
 n : Int
 w : Int
 i : Bool
def CliX.val (c : CliX) : Value := .agg #[.int .i64 c.w, .bool c.i]
def CliX.e (c : CliX) : MapEntry := { key := .int .i64 c.n, val := .agg #[.int .i64 c.w, .bool c.i], born := 0 }
def encC (l : List CliX) : List MapEntry := l.map CliX.e
theorem zDj (a b : List CliX) : encC (a ++ b) = encC a ++ encC b := List.map_append
theorem zJi (a : Int) (c : CliX) : eqK Try.prog 3 (.int .i64 a) c.e = some (a == c.n) := by kernel_rfl
theorem zHg (em : Bool) (a : Int) : keyOk Try.prog 3 em (.int .i64 a) = true := by cases em <;> kernel_rfl
theorem zCe (l : List CliX) : zAa (encC l) = true := by
 unfold zAa encC
 rw [List.all_map]
 exact List.all_eq_true.2 fun _ _ => rfl
def keysC (l : List CliX) : List Int := l.map CliX.n
theorem zFd {a : Int} : ∀ {l : List CliX} (i : Nat), a ∉ keysC l → zBp Try.prog 3 (.int .i64 a) (encC l) i = some none
 | [], _, _ => rfl
 | c :: l, i, h => by
  have h1 : (a == c.n) = false := by
   have : a ≠ c.n := fun e => h (by rw [e]; exact List.mem_cons_self ..)
   simpa using this
  show zBp _ _ _ (c.e :: encC l) i = _
  unfold zBp
  rw [zJi, h1]
  exact zFd (i + 1) (fun hm => h (List.mem_cons_of_mem _ hm))
theorem zDn {c : CliX} {B : List CliX} : ∀ {A : List CliX} (i : Nat), (keysC (A ++ c :: B)).Nodup → zBp Try.prog 3 (.int .i64 c.n) (encC (A ++ c :: B)) i = some (some (i + A.length, c.val))
 | [], i, hn => by
  have hn : (c.n :: keysC B).Nodup := hn
  rw [List.nodup_cons] at hn
  show zBp _ _ _ (c.e :: encC B) i = _
  unfold zBp
  rw [zJi, show (c.n == c.n) = true by simp]
  have hall : ∀ x ∈ encC B, eqK Try.prog 3 (.int .i64 c.n) x = some false := fun x hx => by
   obtain ⟨d, hd, rfl⟩ := List.mem_map.1 hx
   have : (c.n == d.n) = false := by
    have : c.n ≠ d.n := fun e => hn.1 (by rw [e]; exact List.mem_map_of_mem hd)
    simpa using this
   rw [zJi, this]
  have key : ∀ (p : MapEntry → Bool), (∀ x ∈ encC B, p x = true) → (encC B).all p = true := fun p hp => List.all_eq_true.2 hp
  simp only []
  rw [key]
  ·rfl
  ·intro x hx
   rw [hall x hx]
 | d :: A, i, hn => by
  have hn : (d.n :: keysC (A ++ c :: B)).Nodup := hn
  rw [List.nodup_cons] at hn
  have h1 : (c.n == d.n) = false := by
   have : c.n ≠ d.n := fun e => hn.1 (by rw [← e]; exact List.mem_map_of_mem (by simp))
   simpa using this
  show zBp _ _ _ (d.e :: encC (A ++ c :: B)) i = _
  unfold zBp
  rw [zJi, h1]
  have := zDn (A := A) (i + 1) hn.2
  rw [List.length_cons, show i + (A.length + 1) = i + 1 + A.length by omega]
  exact this
theorem encC_rm {σ : Nat → Nat → Prop} (l : List CliX) : RM σ (encC l) (encC l) := by
 induction l with
 | nil => exact .nil
 | cons x l ih => exact .cons _ _ _ _ (.int _ _) (.agg _ _ (.cons _ _ _ _ (.int _ _) (.cons _ _ _ _ (.bool _) .nil))) ih
theorem zAx {σ : Nat → Nat → Prop} (l : List CliX) (k : Nat) : RO Try.prog σ (.map (encC l) k) (.map (encC l) k) := RO.map _ _ _ (encC_rm _)
theorem splitC {l : List CliX} {a : Int} (h : a ∈ keysC l) : ∃ A c B, l = A ++ c :: B ∧ c.n = a := by
 obtain ⟨c, hc, rfl⟩ := List.mem_map.1 h
 obtain ⟨A, B, rfl⟩ := List.append_of_mem hc
 exact ⟨A, c, B, rfl, rfl⟩
def getC (l : List CliX) (a : Int) : Option CliX := l.find? fun c => c.n == a
def whenC (l : List CliX) (a : Int) : Int := ((getC l a).map CliX.w).getD 0
def idleC (l : List CliX) (a : Int) : Bool := ((getC l a).map CliX.i).getD false
def hasC (l : List CliX) (a : Int) : Bool := (getC l a).isSome
theorem getC_none {l : List CliX} {a : Int} (h : a ∉ keysC l) : getC l a = none := by
 unfold getC
 rw [List.find?_eq_none]
 intro c hc
 have : c.n ≠ a := fun e => h (by rw [← e]; exact List.mem_map_of_mem hc)
 simpa using this
theorem getC_mid {A B : List CliX} {c : CliX} (hn : (keysC (A ++ c :: B)).Nodup) : getC (A ++ c :: B) c.n = some c := by
 unfold getC
 have hA : A.find? (fun x => x.n == c.n) = none := by
  rw [List.find?_eq_none]
  intro d hd e
  unfold keysC at hn
  rw [List.map_append, List.nodup_append] at hn
  exact hn.2.2 d.n (List.mem_map_of_mem hd) c.n (by simp) (by simpa using e)
 rw [List.find?_append, hA]
 simp
theorem zNv {l : List CliX} {a : Int} : hasC l a = true ↔ a ∈ keysC l := by
 unfold hasC getC keysC
 rw [List.find?_isSome]
 constructor
 ·rintro ⟨c, hc, e⟩
  have e : c.n = a := by simpa using e
  exact e ▸ List.mem_map_of_mem hc
 ·intro h
  obtain ⟨c, hc, rfl⟩ := List.mem_map.1 h
  exact ⟨c, hc, by simp⟩
section
variable {ev : Operand → Value} {G : Gh} {n : Nat} {o : Oper}
theorem zJd {t e : TypeId} {x y : Operand} {r ck : Nat} {A B : List CliX} {c : CliX} {ok : Bool} (ho : o.op = .lookup t x y ok) (hx : ev x = .map (some r)) (hy : ev y = .int .i64 c.n) (hu : Try.prog.underlying t = some (.map 3 e)) (hG : G r = some (.map (encC (A ++ c :: B)) ck)) (hn : (keysC (A ++ c :: B)).Nodup) :
  aop Try.prog o ev G n = .val (bif ok then .tuple #[c.val, .bool true] else c.val) [] 0 := by
 unfold aop aop0 aStr
 simp only [ho, ORes.or]
 unfold zDy
 simp only [hu, hx, hy, hG, Try.underlying3, zCe, zHg, Bool.and_self, cond_true, zDn 0 hn]
theorem zNm {t e : TypeId} {x y : Operand} {r ck : Nat} {l : List CliX} {a : Int} {ok : Bool} (ho : o.op = .lookup t x y ok) (hx : ev x = .map (some r)) (hy : ev y = .int .i64 a) (hu : Try.prog.underlying t = some (.map 3 e)) (hz : ((Try.prog.info? e).bind (·.zero)) = some (.agg #[.int .i64 0, .bool false])) (hG : G r = some (.map (encC l) ck)) (h : a ∉ keysC l) :
  aop Try.prog o ev G n = .val (bif ok then .tuple #[.agg #[.int .i64 0, .bool false], .bool false] else .agg #[.int .i64 0, .bool false]) [] 0 := by
 obtain ⟨i, h1, h2⟩ := Option.bind_eq_some_iff.1 hz
 unfold aop aop0 aStr
 simp only [ho, ORes.or]
 unfold zDy
 simp only [hu, hx, hy, hG, Try.underlying3, zCe, zHg, Bool.and_self, cond_true, zFd 0 h, h1, h2]
 rfl
theorem zNn {t e : TypeId} {x y z : Operand} {r ck : Nat} {A B : List CliX} {c : CliX} {w : Int} {b : Bool} (ho : o.op = .mapUpdate t x y z) (hx : ev x = .map (some r)) (hy : ev y = .int .i64 c.n) (hz : ev z = .agg #[.int .i64 w, .bool b]) (hu : Try.prog.underlying t = some (.map 3 e)) (hG : G r = some (.map (encC (A ++ c :: B)) ck)) (hn : (keysC (A ++ c :: B)).Nodup) :
  aop Try.prog o ev G n = .val undef [(r, some (.map (encC (A ++ ⟨c.n, w, b⟩ :: B)) ck))] 0 := by
 have hsb : ∀ a : Int, Instr.sameBits 10000 (.int .i64 a) (.int .i64 a) = true := fun a => by unfold Instr.sameBits; simp
 have hkey : (((encC (A ++ c :: B))[0 + A.length]?).map (·.key)).getD (.int .i64 c.n) = .int .i64 c.n := by
  rw [zDj, List.getElem?_append_right (by simp [encC]), show 0 + A.length - (encC A).length = 0 by simp [encC]]
  rfl
 unfold aop aop0 aStr
 simp only [ho, ORes.or]
 unfold zCz
 simp only [hu, hx, hy, hz, hG, Try.underlying3, zCe, zHg, Bool.and_self, cond_true, zDn 0 hn, hkey, hsb]
 have : modE (encC (A ++ c :: B)) (0 + A.length) (.int .i64 c.n) (.agg #[.int .i64 w, .bool b]) = encC (A ++ ⟨c.n, w, b⟩ :: B) := by
  unfold modE
  rw [zDj, zDj, Nat.zero_add, show A.length = (encC A).length by simp [encC]]
  exact zFi _
 rw [this]
theorem zNl {t e : TypeId} {x y z : Operand} {r ck : Nat} {l : List CliX} {a w : Int} {b : Bool} (ho : o.op = .mapUpdate t x y z) (hx : ev x = .map (some r)) (hy : ev y = .int .i64 a) (hz : ev z = .agg #[.int .i64 w, .bool b]) (hu : Try.prog.underlying t = some (.map 3 e)) (hG : G r = some (.map (encC l) ck)) (h : a ∉ keysC l) :
  aop Try.prog o ev G n = .val undef [(r, some (.map (encC (l ++ [⟨a, w, b⟩])) (ck + 1)))] 0 := by
 unfold aop aop0 aStr
 simp only [ho, ORes.or]
 unfold zCz
 simp only [hu, hx, hy, hz, hG, Try.underlying3, zCe, zHg, Bool.and_self, cond_true, zFd 0 h]
 rw [zDj]; rfl
theorem aop_cliD {t e xT : TypeId} {x y : Operand} {r ck : Nat} {A B : List CliX} {c : CliX} (ho : o.op = .call ⟨.builtin .delete, #[x, y], #[t, xT]⟩) (hx : ev x = .map (some r)) (hy : ev y = .int .i64 c.n) (hu : Try.prog.underlying t = some (.map 3 e)) (hG : G r = some (.map (encC (A ++ c :: B)) ck)) (hn : (keysC (A ++ c :: B)).Nodup) :
  aop Try.prog o ev G n = .val (.tuple #[]) [(r, some (.map (encC (A ++ B)) ck))] 0 := by
 unfold aop aop0 aStr
 simp only [ho, ORes.or, zBt, List.map_cons, List.map_nil]
 unfold zIy
 simp only [hu, hx, hy, hG, Try.underlying3, zCe, zHg, Bool.and_self, cond_true, zDn 0 hn]
 have : (encC (A ++ c :: B)).eraseIdx (0 + A.length) = encC (A ++ B) := by
  rw [zDj, zDj, Nat.zero_add, show A.length = (encC A).length by simp [encC]]
  exact zGu
 rw [this]
theorem zGd {t e : TypeId} {x y : Operand} {r ck : Nat} {l : List CliX} {a : Int} {ok : Bool} (ho : o.op = .lookup t x y ok) (hx : ev x = .map (some r)) (hy : ev y = .int .i64 a) (hu : Try.prog.underlying t = some (.map 3 e)) (hz : ((Try.prog.info? e).bind (·.zero)) = some (.agg #[.int .i64 0, .bool false])) (hG : G r = some (.map (encC l) ck)) (hn : (keysC l).Nodup) :
  aop Try.prog o ev G n = .val (bif ok then .tuple #[.agg #[.int .i64 (whenC l a), .bool (idleC l a)], .bool (hasC l a)] else .agg #[.int .i64 (whenC l a), .bool (idleC l a)]) [] 0 := by
 by_cases h : a ∈ keysC l
 ·obtain ⟨A, c, B, rfl, rfl⟩ := splitC h
  rw [zJd ho hx hy hu hG hn]
  unfold whenC idleC hasC
  rw [getC_mid hn]; rfl
 ·rw [zNm ho hx hy hu hz hG h]
  unfold whenC idleC hasC
  rw [getC_none h]; rfl
end
end Go.Proofs.Ytpdeidlkeplegaa
namespace Go.Proofs.Ytpdeidlkeplegaa
open Go Go.RowKit
def iV (a : Int) : Value := .int .i64 a
def fnV (g cb : Nat) : Value := .func (.func g) #[] #[.pointer (some ⟨cb, 0, none⟩)]
def tabO (most : Int) (mb : Nat) : AObj := .cells [.int .i64 most, .map (some mb)] 54
def boxO (tb : Nat) : AObj := .cells [.pointer (some ⟨tb, 0, none⟩)] 24
def tblH (C : List Int) (most : Int) (l : List CliX) (ck : Nat) : Tr AObj := heap 3 [(0, .cells (C.map iV) 3), (1, boxO 2), (2, tabO most 3), (3, .map (encC l) ck)]
theorem zAs (C : List Int) : plainL (C.map iV) = true := by simp [plainL, plainV, iV]
theorem zBz {σ : Nat → Nat → Prop} {a b : Nat} (h : σ a b) : RO Try.prog σ (boxO a) (boxO b) := RO.cells _ [] _ _ (.cons _ _ _ _ (.ptr _ _ _ h) .nil)
theorem zBl {σ : Nat → Nat → Prop} {most : Int} {a b : Nat} (h : σ a b) : RO Try.prog σ (tabO most a) (tabO most b) := RO.cells _ [] _ _ (.cons _ _ _ _ (.int _ _) (.cons _ _ _ _ (.map _ _ h) .nil))
def ixF (l : List CliX) : List Int → Option Nat
 | [] => none
 | a :: L => if idleC l a then (ixF l L).map (· + 1) else some 0
def ixV (l : List CliX) (L : List Int) : Int := match ixF l L with | some i => (i : Int) | none => -1
noncomputable def inl_g1 : Ct Try.prog 0 := Ct.inl (tbOf mixed []) mixed [900005] 31 Try.f31 Try.func31 (bodyOf Try.f31) (by kernel_rfl)
noncomputable def tbTq2 : Tb Try.prog 0 := tbOf mixed [inl_g1]
theorem zEy : ((Try.prog.info? 62).bind (·.zero)) = some (.agg #[.int .i64 0, .bool false]) := by kernel_rfl
theorem ix_fn (L : List Int) (most : Int) (l : List CliX) (ck : Nat) (hn : (keysC l).Nodup) (hL : L.length ≤ 1000000) : ∃ r, FnS Try.prog 0 39 [.slice (some ⟨0, 0, none⟩) L.length U, fnV 31 1] (tblH L most l ck) 4 r ∧ ∃ H m wr, r = .ret (.int .i64 (ixV l L)) H m wr ∧ ∀ k ∈ wr, 4 ≤ k := by
 refine zOt mixed tbTq2 [0] Try.func39 (c := bodyOf Try.f39) (by kernel_rfl) ?_
 refine zGh (fun (i : Nat) f => ⟨slots 5 [(0, .slice (some ⟨0, 0, none⟩) L.length U), (1, fnV 31 1), (7, .int .i64 (L.length : Nat)), (8, .int .i64 (i : Nat))] f, tblH L most l ck, 4, [], []⟩) (fun i => L.length - i) (fun i => i ≤ L.length ∧ ixF l L = (ixF l (L.drop i)).map (· + i)) 0 ⟨Nat.zero_le _, by rw [List.drop_zero]; cases ixF l L <;> rfl⟩ (rcq [] ⟨⟨_, rfl, .sl _ _ _ _ _ rfl⟩, ⟨_, rfl, .func _ _ _ _ _ rfl .nil (.cons _ _ _ _ (.ptr _ _ _ rfl) .nil)⟩, ⟨_, rfl, .int _ _⟩, ⟨_, rfl, .int _ _⟩, trivial⟩ ⟨bpo (zAs L), ⟨by decide, _, rfl, zBz rfl⟩, ⟨by decide, _, rfl, zBl rfl⟩, ⟨by decide, _, rfl, zAx l ck⟩, trivial⟩ .nil) ?_
 rintro i f ⟨hi, heq⟩
 have hi : i ≤ L.length := hi
 refine sx_ok tbTq2 [0] 4 _ none mixed _ _ _ ?_
 refine ifK (fun h1 => ?_) (fun h1 => ?_)
 ·have h1 : i < L.length := by have h1 : ((i : Nat) : Int) < (L.length : Int) := of_decide_eq_true h1; omega
  refine ifK (fun _ => ?_) (fun h2 => absurd h2 (by simp [inI]; omega))
  refine Exists.intro L[i] (And.intro (by show (L.map iV)[0 + (i : Int).toNat * 1]? = _; simp [h1, iV]) ?_)
  have hst : ixF l (L.drop i) = if idleC l L[i] then (ixF l (L.drop (i + 1))).map (· + 1) else some 0 := by rw [List.drop_eq_getElem_cons h1]; rfl
  refine Exists.intro (.agg #[.int .i64 (whenC l L[i]), .bool (idleC l L[i])]) (Exists.intro [] (Exists.intro 0 (And.intro (zGd (e := 62) (l := l) (a := L[i]) (ck := ck) (r := 3) (ok := false) rfl rfl rfl (by kernel_rfl) zEy rfl hn) ?_)))
  refine ifK (fun h3 => ?_) (fun h3 => ?_)
  ·have h3 : (!idleC l L[i]) = true := h3
   have h3 : idleC l L[i] = false := by simpa using h3
   have hv : ixV l L = (i : Int) := by unfold ixV; rw [heq, hst, h3]; simp
   rw [hv]
   exact And.intro rfl (zKx (rcq [] (d := 5) (d2 := 0) (lv := [(4, .int .i64 (i : Nat))]) (bs := []) (W := []) (m := 4) (df := []) ⟨⟨_, rfl, .int _ _⟩, trivial⟩ trivial .nil) (fun f => ⟨_, _, _, rfl, fun k hk => by cases hk⟩))
  ·have h3 : (!idleC l L[i]) = false := h3
   have h3 : idleC l L[i] = true := by simpa using h3
   refine ⟨i + 1, ⟨h1, ?_⟩, by show L.length - (i + 1) < L.length - i; omega, rcq [] ⟨⟨_, rfl, .sl _ _ _ _ _ rfl⟩, ⟨_, rfl, .func _ _ _ _ _ rfl .nil (.cons _ _ _ _ (.ptr _ _ _ rfl) .nil)⟩, ⟨_, rfl, .int _ _⟩, zAp rfl (by rw [wrapN (by omega) (by omega)]; omega), trivial⟩ ⟨bpo (zAs L), ⟨by decide, _, rfl, zBz rfl⟩, ⟨by decide, _, rfl, zBl rfl⟩, ⟨by decide, _, rfl, zAx l ck⟩, trivial⟩ .nil⟩
   rw [heq, hst, h3, if_pos rfl, Option.map_map]
   congr 1
   funext x
   show x + 1 + i = x + (i + 1)
   omega
 ·have h1 : ¬ i < L.length := by have h1 : ¬ ((i : Nat) : Int) < (L.length : Int) := of_decide_eq_false h1; omega
  have hv : ixV l L = -1 := by unfold ixV; rw [heq, List.drop_eq_nil_of_le (by omega)]; rfl
  rw [hv]
  exact And.intro rfl (zKx (rcq [] (d := 5) (d2 := 0) (lv := []) (bs := []) (W := []) (m := 4) (df := []) trivial trivial .nil) (fun f => ⟨_, _, _, rfl, fun k hk => by cases hk⟩))
end Go.Proofs.Ytpdeidlkeplegaa
namespace Go.Proofs.Ytpdeidlkeplegaa
open Go Go.RowKit
structure TbA where
 lb : Nat
 cb : Nat
 tb : Nat
 mb : Nat
 k : Nat
 L : List Int
 most : Int
 l : List CliX
 ck : Nat
def TbA.at (x : TbA) (H : Tr AObj) : Prop := H.get x.lb = some (.cells (x.L.map iV) 3) ∧ H.get x.cb = some (boxO x.tb) ∧ H.get x.tb = some (tabO x.most x.mb) ∧ H.get x.mb = some (.map (encC x.l) x.ck) ∧ [x.lb, x.cb, x.tb, x.mb].Nodup
def TbA.as (x : TbA) (g : Nat) : List Value := [.slice (some ⟨x.lb, 0, none⟩) x.k U, fnV g x.cb]
theorem zNo {a b : List CliX} (h : encC a = encC b) : a = b := by
 induction a generalizing b with
 | nil => cases b with
  | nil => rfl
  | cons _ _ => cases h
 | cons x a ih => cases b with
  | nil => cases h
  | cons y b =>
   obtain ⟨n, w, i⟩ := x
   obtain ⟨n', w', i'⟩ := y
   have h2 : CliX.e ⟨n, w, i⟩ :: encC a = CliX.e ⟨n', w', i'⟩ :: encC b := h
   clear h
   simp only [List.cons.injEq, CliX.e, MapEntry.mk.injEq, Value.int.injEq, Value.agg.injEq, Array.mk.injEq, Value.bool.injEq, true_and, and_true] at h2
   obtain ⟨⟨e1, e2, e3⟩, h3⟩ := h2
   subst e1 e2 e3
   rw [ih h3]
theorem iV_inj : ∀ {a b : List Int}, a.map iV = b.map iV → a = b
 | [], [], _ => rfl
 | [], _ :: _, h => by cases h
 | _ :: _, [], h => by cases h
 | x :: a, y :: b, h => by
  simp only [List.map_cons, List.cons.injEq, iV, Value.int.injEq, true_and] at h
  obtain ⟨rfl, h⟩ := h
  rw [iV_inj h]
theorem TbA.uniq {x y : TbA} {g : Nat} {H : Tr AObj} (e : x.as g = y.as g) (h : x.at H) (k : y.at H) : x = y := by
 obtain ⟨lb, cb, tb, mb, n, L, most, l, ck⟩ := x
 obtain ⟨lb', cb', tb', mb', n', L', most', l', ck'⟩ := y
 obtain ⟨h1, h2, h3, h4, _⟩ := h
 obtain ⟨k1, k2, k3, k4, _⟩ := k
 simp only [TbA.as, fnV, List.cons.injEq, Value.slice.injEq, Option.some.injEq, Addr.mk.injEq, Value.func.injEq, Array.mk.injEq, Value.pointer.injEq, true_and, and_true] at e
 obtain ⟨⟨rfl, rfl⟩, rfl⟩ := e
 have h1 : H.get lb = _ := h1
 have k1 : H.get lb = _ := k1
 rw [h1] at k1
 simp only [Option.some.injEq, AObj.cells.injEq, and_true] at k1
 have e1 := iV_inj k1
 have h2 : H.get cb = _ := h2
 have k2 : H.get cb = _ := k2
 rw [h2] at k2
 simp only [boxO, Option.some.injEq, AObj.cells.injEq, List.cons.injEq, Value.pointer.injEq, Addr.mk.injEq, and_true] at k2
 subst k2
 have h3 : H.get tb = _ := h3
 have k3 : H.get tb = _ := k3
 rw [h3] at k3
 simp only [tabO, Option.some.injEq, AObj.cells.injEq, List.cons.injEq, Value.map.injEq, Value.int.injEq, true_and, and_true] at k3
 obtain ⟨rfl, rfl⟩ := k3
 have h4 : H.get mb = _ := h4
 have k4 : H.get mb = _ := k4
 rw [h4] at k4
 simp only [Option.some.injEq, AObj.map.injEq] at k4
 obtain ⟨e2, rfl⟩ := k4
 have e2 := zNo e2
 subst e1 e2
 rfl
theorem TbA.callB {x : TbA} {H : Tr AObj} (h : x.at H) : CallB Try.prog [x.lb, x.cb, x.tb, x.mb] H (tblH x.L x.most x.l x.ck) :=
 callB_of ⟨⟨x.lb, _, rfl, h.1, .same (zAs _)⟩, ⟨x.cb, _, rfl, h.2.1, zBz rfl⟩, ⟨x.tb, _, rfl, h.2.2.1, zBl rfl⟩, ⟨x.mb, _, rfl, h.2.2.2.1, zAx _ _⟩, trivial⟩
theorem TbA.rl (x : TbA) (g : Nat) : RL (caR [x.lb, x.cb, x.tb, x.mb]) (x.as g) [.slice (some ⟨0, 0, none⟩) x.k U, fnV g 1] :=
 .cons _ _ _ _ (.sl _ _ _ _ _ rfl) (.cons _ _ _ _ (.func _ _ _ _ _ rfl .nil (.cons _ _ _ _ (.ptr _ _ _ rfl) .nil)) .nil)
noncomputable def ct_tbl (f g : FuncId) (D : List Int → Nat → List CliX → Value) (pre : List Int → Nat → List CliX → Prop) (hp : ∀ L k l, plainV 8 (D L k l) = true)
  (hfn : ∀ (L : List Int) (k : Nat) (most : Int) (l : List CliX) (ck : Nat), pre L k l → ∃ r, FnS Try.prog 0 f [.slice (some ⟨0, 0, none⟩) k U, fnV g 1] (tblH L most l ck) 4 r ∧ ∃ H m wr, r = .ret (D L k l) H m wr ∧ ∀ j ∈ wr, 4 ≤ j) : Ct Try.prog 0 :=
 CtR.ct { f := f, X := TbA, pre := fun x a H _ => a = x.as g ∧ x.at H ∧ pre x.L x.k x.l, out := fun x H n => .ret (D x.L x.k x.l) H n [],
          ok := fun x a H n ⟨h1, h2, h3⟩ => by
           subst h1
           obtain ⟨r, hF, H', m, wr, rfl, hw⟩ := hfn x.L x.k x.most x.l x.ck h3
           exact zKg [x.lb, x.cb, x.tb, x.mb] hF hw (zGt h2.2.2.2.2) (x.rl g) (TbA.callB h2) (hp _ _ _),
          uniq := fun x y a H n ⟨h1, h2, _⟩ ⟨k1, k2, _⟩ => by
           rw [h1] at k1
           rw [TbA.uniq k1 h2 k2] }
noncomputable def ct_ix : Ct Try.prog 0 := ct_tbl 39 31 (fun L _ l => .int .i64 (ixV l L)) (fun L k l => k = L.length ∧ (keysC l).Nodup ∧ L.length ≤ 1000000) (fun _ _ _ => rfl)
 (fun L k most l ck ⟨h1, h2, h3⟩ => by subst h1; exact ix_fn L most l ck h2 h3)
end Go.Proofs.Ytpdeidlkeplegaa
namespace Go.Proofs.Ytpdeidlkeplegaa
open Go Go.RowKit
def delF (l : List CliX) (L : List Int) : List Int := L.filter (idleC l)
def delL (l : List CliX) (L : List Int) : List Int := delF l L ++ List.replicate (L.length - (delF l L).length) 0
theorem zNy {l : List CliX} : ∀ {L : List Int} {i : Nat}, ixF l L = some i → ∃ h : i < L.length, idleC l L[i] = false ∧ (L.take (i + 1)).filter (idleC l) = L.take i
 | [], _, h => by cases h
 | a :: L, i, h => by
  unfold ixF at h
  by_cases ha : idleC l a = true
  ·rw [if_pos ha] at h
   cases hx : ixF l L with
   | none => rw [hx] at h; cases h
   | some j =>
    rw [hx] at h
    simp only [Option.map_some, Option.some.injEq] at h
    subst h
    obtain ⟨h1, h2, h3⟩ := zNy hx
    refine ⟨by simpa using h1, h2, ?_⟩
    rw [List.take_succ_cons, List.filter_cons_of_pos ha, h3]; rfl
  ·rw [if_neg ha] at h
   cases h
   have ha : idleC l a = false := by simpa using ha
   exact ⟨by simp, ha, by rw [List.take_succ_cons, List.filter_cons_of_neg (by rw [ha]; simp)]; rfl⟩
theorem zNx {l : List CliX} : ∀ {L : List Int}, ixF l L = none → L.filter (idleC l) = L
 | [], _ => rfl
 | a :: L, h => by
  unfold ixF at h
  by_cases ha : idleC l a = true
  ·rw [if_pos ha] at h
   cases hx : ixF l L with
   | none => rw [List.filter_cons_of_pos ha, zNx hx]
   | some j => rw [hx] at h; cases h
  ·rw [if_neg ha] at h; cases h
theorem int_ty : TyIs Try.prog 3 1 8 (.int .i64 0) := tyIs_of (by kernel_rfl)
theorem set_iV (C : List Int) (j : Nat) (b : Int) (h : j < C.length) : (C.map iV).take (0 + j * 1) ++ [iV b] ++ (C.map iV).drop (0 + j * 1 + 1) = (C.set j b).map iV := by
 rw [Nat.zero_add, Nat.mul_one, List.map_set, List.set_eq_take_append_cons_drop, if_pos (by rw [List.length_map]; exact h)]
 simp
theorem zero_ints (n : Nat) : zeroL (Value.int .i64 0).cells n = (List.replicate n (0 : Int)).map iV := by
 unfold zeroL
 rw [show (Value.int .i64 0).cells = #[.int .i64 0] from rfl]
 show (List.range (n * 1)).map _ = _
 rw [Nat.mul_one, List.map_replicate]
 refine List.eq_replicate_iff.2 ⟨by simp, fun b hb => ?_⟩
 obtain ⟨i, _, rfl⟩ := List.mem_map.1 hb
 rw [show i % (#[Value.int .i64 0] : Array Value).size = 0 from Nat.mod_one i]; rfl
theorem aop_clrI {ev : Operand → Value} {G : Gh} {m : Nat} {o : Oper} {x : Operand} {t e : TypeId} {b off n c : Nat} {C : List Int} (ho : o.op = .call ⟨.builtin .clear, #[x], #[t]⟩) (hx : ev x = .slice (some ⟨b, off, none⟩) n c) (hu : Try.prog.underlying t = some (.slice 3)) (hg : G b = some (.cells (C.map iV) e)) (hl : off + n ≤ C.length) (hn : n ≠ 0) :
  aop Try.prog o ev G m = .val (.tuple #[]) [(b, some (.cells ((C.take off ++ List.replicate n 0 ++ C.drop (off + n)).map iV) e))] 0 := by
 obtain ⟨i, hi, _, _, hz⟩ := int_ty
 have hb0 : n.beq 0 = false := by cases hb : n.beq 0; rfl; exact absurd (Nat.eq_of_beq_eq_true hb) hn
 have hlen : ((List.replicate n (0 : Int)).map iV).length = n := by simp
 have h1 : oneL ((List.replicate n (0 : Int)).map iV) = true := by unfold oneL; simp [iV]; exact .inr rfl
 have h2 : (((List.replicate n (0 : Int)).map iV).all (plainV 8)) = true := by simp [iV, plainV]
 unfold aop aop0 aStr
 simp only [ho, ORes.or, zBt, List.map_cons, List.map_nil]
 unfold zNe
 simp only [hu, hx, hb0, cond_false, hi, hz, hg, zero_ints, hlen, h1, h2, Bool.and_true, List.length_map]
 rw [Nat.ble_eq_true_of_le hl, cond_true, List.map_append, List.map_append, List.map_take, List.map_drop]
theorem wr_04 {w : List Nat} (h : (w.all fun k => Nat.beq k 0 || Nat.ble 4 k) = true) : ∀ k ∈ w, k = 0 ∨ 4 ≤ k := fun k hk => by
 have := List.all_eq_true.1 h k hk
 rcases Bool.or_eq_true_iff.1 this with h | h
 ·exact .inl (Nat.eq_of_beq_eq_true h)
 ·exact .inr (Nat.le_of_ble_eq_true h)
noncomputable def tbTq4 : Tb Try.prog 0 := tbOf mixed [inl_g1, ct_ix]
theorem del_fn (L : List Int) (most : Int) (l : List CliX) (ck : Nat) (hn : (keysC l).Nodup) (hL : L.length ≤ 1000000) : ∃ r, FnS Try.prog 0 30 [.slice (some ⟨0, 0, none⟩) L.length U, fnV 31 1] (tblH L most l ck) 4 r ∧ ∃ H m wr, r = .ret (.slice (some ⟨0, 0, none⟩) (delF l L).length U) H m wr ∧ (∀ k ∈ wr, k = 0 ∨ 4 ≤ k) ∧ H.get 0 = some (.cells ((delL l L).map iV) 3) ∧ (0 ∉ wr → delL l L = L) := by
 refine zOt mixed tbTq4 [0, 900003, 900008] Try.func30 (c := bodyOf Try.f30) (by kernel_rfl) ?_
 refine Exists.intro ⟨0, 1, 2, 3, L.length, L, most, l, ck⟩ (And.intro ⟨rfl, ⟨by kernel_rfl, by kernel_rfl, by kernel_rfl, by kernel_rfl, (show [0, 1, 2, 3].Nodup by decide)⟩, rfl, hn, hL⟩ ?_)
 cases hx : ixF l L with
 | none =>
  have hv : ixV l L = -1 := by unfold ixV; rw [hx]
  have hf := zNx hx
  have h1 : delF l L = L := hf
  have h2 : delL l L = L := by unfold delL; rw [h1, Nat.sub_self]; simp
  rw [h1, h2]
  refine ifK (fun _ => ?_) (fun h => absurd (show (ixV l L == -1) = false from h) (by rw [hv]; decide))
  exact ⟨_, _, _, rfl, fun k hk => (by have hk : k ∈ ([] : List Nat) := hk; cases hk), rfl, fun _ => rfl⟩
 | some i0 =>
  have hv : ixV l L = (i0 : Int) := by unfold ixV; rw [hx]
  obtain ⟨hi0, hp0, ht0⟩ := zNy hx
  refine ifK (fun h => absurd (show (ixV l L == -1) = true from h) (by rw [hv]; simp)) (fun _ => ?_)
  refine zGh (fun (s : Nat × List Int × Nat) f => ⟨slots 6 [(0, .slice (some ⟨0, 0, none⟩) L.length U), (1, fnV 31 1), (5, .int .i64 (s.2.2 : Nat)), (6, .int .i64 (s.1 : Nat))] f, tblH s.2.1 most l ck, 4, [0], []⟩) (fun s => L.length - s.1) (fun s => s.1 ≤ L.length ∧ s.2.1.length = L.length ∧ s.2.1.drop s.1 = L.drop s.1 ∧ s.2.1.take s.2.2 = (L.take s.1).filter (idleC l) ∧ s.2.2 < s.1) (i0 + 1, L, i0) ⟨hi0, rfl, rfl, ht0.symm, Nat.lt_succ_self _⟩ (rcq [] ⟨⟨_, rfl, .sl _ _ _ _ _ rfl⟩, ⟨_, rfl, .func _ _ _ _ _ rfl .nil (.cons _ _ _ _ (.ptr _ _ _ rfl) .nil)⟩, zAp rfl hv, zAp rfl (by rw [hv, wrapN (by omega) (by omega)]; show ((i0 : Nat) : Int) + 1 = ((i0 + 1 : Nat) : Int); omega), trivial⟩ ⟨bpo (zAs L), ⟨by decide, _, rfl, zBz rfl⟩, ⟨by decide, _, rfl, zBl rfl⟩, ⟨by decide, _, rfl, zAx l ck⟩, trivial⟩ .nil) ?_
  rintro ⟨j, S, i⟩ f ⟨hj, hS, hd, ht, hij⟩
  have hj : j ≤ L.length := hj
  have hS : S.length = L.length := hS
  have hd : S.drop j = L.drop j := hd
  have ht : S.take i = (L.take j).filter (idleC l) := ht
  have hij : i < j := hij
  refine sx_ok tbTq4 [0, 900003, 900008] 4 _ none mixed _ _ _ ?_
  refine ifK (fun h1 => ?_) (fun h1 => ?_)
  ·have h1 : j < L.length := by have h1 : ((j : Nat) : Int) < (L.length : Int) := of_decide_eq_true h1; omega
   have hjS : j < S.length := by omega
   refine ifK (fun _ => ?_) (fun h2 => absurd h2 (by simp [inI]; omega))
   refine Exists.intro S[j] (And.intro (by show (S.map iV)[0 + (j : Int).toNat * 1]? = _; simp [hjS, iV]) ?_)
   refine Exists.intro (.agg #[.int .i64 (whenC l S[j]), .bool (idleC l S[j])]) (Exists.intro [] (Exists.intro 0 (And.intro (zGd (e := 62) (l := l) (a := S[j]) (ck := ck) (r := 3) (ok := false) rfl rfl rfl (by kernel_rfl) zEy rfl hn) ?_)))
   refine ifK (fun h3 => ?_) (fun h3 => ?_)
   ·have h3 : (!(!idleC l S[j])) = true := h3
    have h3 : idleC l S[j] = true := by simpa using h3
    refine ifK (fun _ => ?_) (fun h2 => absurd h2 (by simp [inI]; omega))
    refine Exists.intro undef (Exists.intro [((0 : Nat), some (AObj.cells ((S.set i S[j]).map iV) 3))] (Exists.intro (0 : Nat) (And.intro ?_ ?_)))
    ·refine aop_store (b := 0) (off := 0 + i * 1) (sz := 1) (bytes := 8) (z := .int .i64 0) (v := iV S[j]) (C := S.map iV) rfl ?_ rfl rfl int_ty rfl rfl (by rw [List.length_map]; omega) (set_iV S i S[j] (by omega))
     show Value.pointer _ = _
     rw [show (Try.prog.types[3]).size = 1 by kernel_rfl]; rfl
    have hSj : S[j] = L[j] := by
     have e1 : (S.drop j)[0]? = (L.drop j)[0]? := by rw [hd]
     rw [List.getElem?_drop, List.getElem?_drop, Nat.add_zero, List.getElem?_eq_getElem hjS, List.getElem?_eq_getElem h1] at e1
     exact Option.some.inj e1
    refine ⟨(j + 1, S.set i S[j], i + 1), ⟨h1, by show (S.set i S[j]).length = _; rw [List.length_set]; exact hS, ?_, ?_, by show i + 1 < j + 1; omega⟩, by show L.length - (j + 1) < L.length - j; omega, rcq [] ⟨⟨_, rfl, .sl _ _ _ _ _ rfl⟩, ⟨_, rfl, .func _ _ _ _ _ rfl .nil (.cons _ _ _ _ (.ptr _ _ _ rfl) .nil)⟩, zAp rfl (by show IntKind.i64.wrap ((i : Int) + 1) = ((i + 1 : Nat) : Int); rw [wrapN (by omega) (by omega)]; omega), zAp rfl (by show IntKind.i64.wrap ((j : Int) + 1) = ((j + 1 : Nat) : Int); rw [wrapN (by omega) (by omega)]; omega), trivial⟩ ⟨bpo (zAs _), ⟨by decide, _, rfl, zBz rfl⟩, ⟨by decide, _, rfl, zBl rfl⟩, ⟨by decide, _, rfl, zAx l ck⟩, trivial⟩ .nil⟩
    ·show (S.set i S[j]).drop (j + 1) = L.drop (j + 1)
     rw [List.drop_set_of_lt (by omega)]
     have : (S.drop j).drop 1 = (L.drop j).drop 1 := by rw [hd]
     rwa [List.drop_drop, List.drop_drop] at this
    ·show (S.set i S[j]).take (i + 1) = (L.take (j + 1)).filter (idleC l)
     rw [List.take_succ_eq_append_getElem (by rw [List.length_set]; omega), List.take_set_of_le (Nat.le_refl _), List.getElem_set_self, ht, List.take_succ_eq_append_getElem h1, List.filter_append, ← hSj, List.filter_cons_of_pos h3]; rfl
   ·have h3 : (!(!idleC l S[j])) = false := h3
    have h3 : idleC l S[j] = false := by simpa using h3
    have hSj : S[j] = L[j] := by
     have e1 : (S.drop j)[0]? = (L.drop j)[0]? := by rw [hd]
     rw [List.getElem?_drop, List.getElem?_drop, Nat.add_zero, List.getElem?_eq_getElem hjS, List.getElem?_eq_getElem h1] at e1
     exact Option.some.inj e1
    refine ⟨(j + 1, S, i), ⟨h1, hS, ?_, ?_, by show i < j + 1; omega⟩, by show L.length - (j + 1) < L.length - j; omega, rcq [] ⟨⟨_, rfl, .sl _ _ _ _ _ rfl⟩, ⟨_, rfl, .func _ _ _ _ _ rfl .nil (.cons _ _ _ _ (.ptr _ _ _ rfl) .nil)⟩, ⟨_, rfl, .int _ _⟩, zAp rfl (by show IntKind.i64.wrap ((j : Int) + 1) = ((j + 1 : Nat) : Int); rw [wrapN (by omega) (by omega)]; omega), trivial⟩ ⟨bpo (zAs _), ⟨by decide, _, rfl, zBz rfl⟩, ⟨by decide, _, rfl, zBl rfl⟩, ⟨by decide, _, rfl, zAx l ck⟩, trivial⟩ .nil⟩
    ·show S.drop (j + 1) = L.drop (j + 1)
     have : (S.drop j).drop 1 = (L.drop j).drop 1 := by rw [hd]
     rwa [List.drop_drop, List.drop_drop] at this
    ·show S.take i = (L.take (j + 1)).filter (idleC l)
     rw [ht, List.take_succ_eq_append_getElem h1, List.filter_append, ← hSj, List.filter_cons_of_neg (by rw [h3]; simp)]; simp
  ·have h1 : j = L.length := by have h1 : ¬ ((j : Nat) : Int) < (L.length : Int) := of_decide_eq_false h1; omega
   subst h1
   refine And.intro rfl (zKx (rcq [] (d := 6) (d2 := 3) (lv := [(0, .slice (some ⟨0, 0, none⟩) L.length U), (5, .int .i64 (i : Nat))]) (bs := [(0, .cells (S.map iV) 3), (1, boxO 2), (2, tabO most 3), (3, .map (encC l) ck)]) (W := [0]) (m := 4) (df := []) ⟨⟨_, rfl, .sl _ _ _ _ _ rfl⟩, ⟨_, rfl, .int _ _⟩, trivial⟩ ⟨bpo (zAs _), ⟨by decide, _, rfl, zBz rfl⟩, ⟨by decide, _, rfl, zBl rfl⟩, ⟨by decide, _, rfl, zAx l ck⟩, trivial⟩ .nil) (fun f => ?_))
   refine And.intro (by simp [inLH]; omega) ?_
   refine Exists.intro (.tuple #[]) (Exists.intro [((0 : Nat), some (AObj.cells ((S.take i ++ List.replicate (S.length - i) 0 ++ S.drop (i + (S.length - i))).map iV) 3))] (Exists.intro (0 : Nat) (And.intro (aop_clrI (b := 0) (off := i) (n := S.length - i) (C := S) (c := U) rfl ?_ (by kernel_rfl) rfl (by omega) (by omega)) ?_)))
   ·show Value.slice (some ⟨0, 0 + ((i : Nat) : Int).toNat * (Try.prog.types[3]).size, none⟩) (((L.length : Nat) : Int).toNat - ((i : Nat) : Int).toNat) U = _
    rw [show (Try.prog.types[3]).size = 1 by kernel_rfl, Int.toNat_natCast, Int.toNat_natCast, hS, Nat.mul_one, Nat.zero_add]
   refine And.intro (by simp [inLH]; omega) ?_
   have hf : S.take i = delF l L := by rw [ht, List.take_of_length_le (Nat.le_refl _)]; rfl
   have hdl : (delF l L).length = i := by rw [← hf, List.length_take]; omega
   have hN : ((i : Nat) : Int).toNat - (0 : Int).toNat = (delF l L).length := by rw [hdl, Int.toNat_natCast]; rfl
   have hC : S.take i ++ List.replicate (S.length - i) 0 ++ S.drop (i + (S.length - i)) = delL l L := by
    rw [List.drop_eq_nil_of_le (by omega), List.append_nil, hf]
    unfold delL
    rw [hdl, hS]
   exact ⟨_, _, _, congrArg (fun n => Res.ret (.slice (some ⟨0, 0, none⟩) n U) _ _ _) hN, wr_04 rfl, Eq.trans (b := some (AObj.cells ((S.take i ++ List.replicate (S.length - i) 0 ++ S.drop (i + (S.length - i))).map iV) 3)) (by kernel_rfl) (congrArg (fun C : List Int => some (AObj.cells (C.map iV) 3)) hC), fun h => absurd (List.mem_of_elem_eq_true (by kernel_rfl)) h⟩
end Go.Proofs.Ytpdeidlkeplegaa
namespace Go.Proofs.Ytpdeidlkeplegaa
open Go Go.RowKit
def cmpI (x y : Int) : Int := bif decide (x < y) then -1 else bif decide (x > y) then 1 else 0
noncomputable def inl_nan : Ct Try.prog 0 := Ct.inl (tbOf mixed []) mixed [] 40 Try.f40 Try.func40 (bodyOf Try.f40) (by kernel_rfl)
theorem cmp_fn (x y : Int) : ∃ r, FnS Try.prog 0 35 [.int .i64 x, .int .i64 y] .e 0 r ∧ ∃ H m wr, r = .ret (.int .i64 (cmpI x y)) H m wr := by
 refine zOt mixed (tbOf mixed [inl_nan]) [] Try.func35 (c := bodyOf Try.f35) (by kernel_rfl) ?_
 refine ifK (fun h => absurd (show (x != x) = true from h) (by simp)) (fun _ => ?_)
 refine ifK (fun h => absurd (show (y != y) = true from h) (by simp)) (fun _ => ?_)
 refine ifK (fun h => ?_) (fun h => ?_)
 ·have h : decide (x < y) = true := h
  rw [show cmpI x y = -1 by unfold cmpI; rw [h]; rfl]
  exact ⟨_, _, _, rfl⟩
 have h : decide (x < y) = false := h
 refine ifK (fun h2 => ?_) (fun h2 => ?_)
 ·have h2 : decide (x > y) = true := h2
  rw [show cmpI x y = 1 by unfold cmpI; rw [h, h2]; rfl]
  exact ⟨_, _, _, rfl⟩
 have h2 : decide (x > y) = false := h2
 rw [show cmpI x y = 0 by unfold cmpI; rw [h, h2]; rfl]
 exact ⟨_, _, _, rfl⟩
def ct_cmp : Ct Try.prog 0 := Ct.int2 35 cmpI (fun x y => by obtain ⟨r, h, H, m, wr, rfl⟩ := cmp_fn x y; exact ⟨H, m, wr, h⟩)
noncomputable def inl_or : Ct Try.prog 0 := Ct.inl (tbOf mixed []) mixed [] 34 Try.f34 Try.func34 (bodyOf Try.f34) (by kernel_rfl)
noncomputable def inl_g2 : Ct Try.prog 0 := Ct.inl (tbOf mixed [ct_cmp, inl_or]) mixed [900005] 33 Try.f33 Try.func33 (bodyOf Try.f33) (by kernel_rfl)
def before (l : List CliX) (x m : Int) : Bool := bif cmpI (whenC l x) (whenC l m) != 0 then decide (cmpI (whenC l x) (whenC l m) < 0) else decide (cmpI x m < 0)
def minF (l : List CliX) : List Int → Int
 | [] => 0
 | x :: L => L.foldl (fun m x => bif before l x m then x else m) x
theorem minF_succ {l : List CliX} {F : List Int} {i : Nat} (h : i < F.length) (h1 : 1 ≤ i) : minF l (F.take (i + 1)) = bif before l F[i] (minF l (F.take i)) then F[i] else minF l (F.take i) := by
 cases F with
 | nil => exact absurd h (Nat.not_lt_zero _)
 | cons x F =>
  cases i with
  | zero => omega
  | succ i =>
   have h' : i < F.length := by simpa using h
   rw [List.take_succ_cons, List.take_succ_cons]
   show (F.take (i + 1)).foldl _ x = _
   rw [List.take_succ_eq_append_getElem h', List.foldl_append]
   rfl
noncomputable def tbTq5 : Tb Try.prog 0 := tbOf mixed [inl_g2]
theorem min_fn (C : List Int) (k : Nat) (most : Int) (l : List CliX) (ck : Nat) (hn : (keysC l).Nodup) (hk : 1 ≤ k ∧ k ≤ C.length) (hL : C.length ≤ 1000000) : ∃ r, FnS Try.prog 0 32 [.slice (some ⟨0, 0, none⟩) k U, fnV 33 1] (tblH C most l ck) 4 r ∧ ∃ H m wr, r = .ret (.int .i64 (minF l (C.take k))) H m wr ∧ ∀ j ∈ wr, 4 ≤ j := by
 have h0 : 0 < C.length := by omega
 refine zOt mixed tbTq5 [0] Try.func32 (c := bodyOf Try.f32) (by kernel_rfl) ?_
 refine ifK (fun h => absurd (show ((k : Nat) : Int) < 1 from of_decide_eq_true h) (by omega)) (fun _ => ?_)
 refine ifK (fun _ => ?_) (fun h2 => absurd h2 (by simp [inI]; omega))
 refine Exists.intro C[0] (And.intro (by show (C.map iV)[0 + (0 : Int).toNat * 1]? = _; simp [h0, iV]) ?_)
 refine zGh (fun (s : Nat × Int) f => ⟨slots 6 [(0, .slice (some ⟨0, 0, none⟩) k U), (1, fnV 33 1), (5, .int .i64 s.2), (6, .int .i64 (s.1 : Nat))] f, tblH C most l ck, 4, [], []⟩) (fun s => k - s.1) (fun s => (1 ≤ s.1 ∧ s.1 ≤ k) ∧ s.2 = minF l ((C.take k).take s.1)) (1, C[0]) ⟨⟨Nat.le_refl _, hk.1⟩, ?_⟩ ?_ ?_
 ·show C[0] = minF l ((C.take k).take 1)
  cases C with
  | nil => exact absurd h0 (Nat.not_lt_zero _)
  | cons c C =>
   cases k with
   | zero => exact absurd hk.1 (by decide)
   | succ k => rfl
 ·exact rcq [] ⟨⟨_, rfl, .sl _ _ _ _ _ rfl⟩, ⟨_, rfl, .func _ _ _ _ _ rfl .nil (.cons _ _ _ _ (.ptr _ _ _ rfl) .nil)⟩, ⟨_, rfl, .int _ _⟩, ⟨_, rfl, .int _ _⟩, trivial⟩ ⟨bpo (zAs _), ⟨by decide, _, rfl, zBz rfl⟩, ⟨by decide, _, rfl, zBl rfl⟩, ⟨by decide, _, rfl, zAx l ck⟩, trivial⟩ .nil
 rintro ⟨i, m⟩ f ⟨⟨hi1, hik⟩, hm⟩
 have hi1 : 1 ≤ i := hi1
 have hik : i ≤ k := hik
 have hm : m = minF l ((C.take k).take i) := hm
 refine sx_ok tbTq5 [0] 4 _ none mixed _ _ _ ?_
 refine ifK (fun h1 => ?_) (fun h1 => ?_)
 ·have h1 : i < k := by have h1 : ((i : Nat) : Int) < (k : Int) := of_decide_eq_true h1; omega
  have hiC : i < C.length := by omega
  refine ifK (fun _ => ?_) (fun h2 => absurd h2 (by simp [inI]; omega))
  refine Exists.intro C[i] (And.intro (by show (C.map iV)[0 + (i : Int).toNat * 1]? = _; simp [hiC, iV]) ?_)
  refine And.intro (by kernel_rfl) ?_
  refine Exists.intro (.agg #[.int .i64 (whenC l C[i]), .bool (idleC l C[i])]) (Exists.intro [] (Exists.intro 0 (And.intro (zGd (e := 62) (l := l) (a := C[i]) (ck := ck) (r := 3) (ok := false) rfl rfl rfl (by kernel_rfl) zEy rfl hn) ?_)))
  refine Exists.intro (.agg #[.int .i64 (whenC l m), .bool (idleC l m)]) (Exists.intro [] (Exists.intro 0 (And.intro (zGd (e := 62) (l := l) (a := m) (ck := ck) (r := 3) (ok := false) rfl rfl rfl (by kernel_rfl) zEy rfl hn) ?_)))
  have hg : (C.take k)[i]'(by rw [List.length_take]; omega) = C[i] := List.getElem_take ..
  have hms := minF_succ (l := l) (F := C.take k) (i := i) (by rw [List.length_take]; omega) hi1
  rw [hg, ← hm] at hms
  have hT : before l C[i] m = true → C[i] = minF l ((C.take k).take (i + 1)) := fun h => by rw [hms, h]; rfl
  have hF : before l C[i] m = false → m = minF l ((C.take k).take (i + 1)) := fun h => by rw [hms, h]; rfl
  refine ifK (fun c1 => ?_) (fun c1 => ?_)
  ·have c1 : (cmpI (whenC l C[i]) (whenC l m) != 0) = true := c1
   refine ifK (fun c2 => ?_) (fun c2 => ?_)
   ·refine ifK (fun _ => ?_) (fun h2 => absurd h2 (by simp [inI]; omega))
    refine Exists.intro C[i] (And.intro (by show (C.map iV)[0 + (i : Int).toNat * 1]? = _; simp [hiC, iV]) ?_)
    exact ⟨(i + 1, C[i]), ⟨⟨by show 1 ≤ i + 1; omega, h1⟩, hT (by unfold before; rw [c1]; exact c2)⟩, by show k - (i + 1) < k - i; omega, rcq [] ⟨⟨_, rfl, .sl _ _ _ _ _ rfl⟩, ⟨_, rfl, .func _ _ _ _ _ rfl .nil (.cons _ _ _ _ (.ptr _ _ _ rfl) .nil)⟩, ⟨_, rfl, .int _ _⟩, zAp rfl (by show IntKind.i64.wrap ((i : Int) + 1) = ((i + 1 : Nat) : Int); rw [wrapN (by omega) (by omega)]; omega), trivial⟩ ⟨bpo (zAs _), ⟨by decide, _, rfl, zBz rfl⟩, ⟨by decide, _, rfl, zBl rfl⟩, ⟨by decide, _, rfl, zAx l ck⟩, trivial⟩ .nil⟩
   ·exact ⟨(i + 1, m), ⟨⟨by show 1 ≤ i + 1; omega, h1⟩, hF (by unfold before; rw [c1]; exact c2)⟩, by show k - (i + 1) < k - i; omega, rcq [] ⟨⟨_, rfl, .sl _ _ _ _ _ rfl⟩, ⟨_, rfl, .func _ _ _ _ _ rfl .nil (.cons _ _ _ _ (.ptr _ _ _ rfl) .nil)⟩, ⟨_, rfl, .int _ _⟩, zAp rfl (by show IntKind.i64.wrap ((i : Int) + 1) = ((i + 1 : Nat) : Int); rw [wrapN (by omega) (by omega)]; omega), trivial⟩ ⟨bpo (zAs _), ⟨by decide, _, rfl, zBz rfl⟩, ⟨by decide, _, rfl, zBl rfl⟩, ⟨by decide, _, rfl, zAx l ck⟩, trivial⟩ .nil⟩
  ·have c1 : (cmpI (whenC l C[i]) (whenC l m) != 0) = false := c1
   refine ifK (fun c3 => ?_) (fun c3 => ?_)
   ·refine ifK (fun c2 => ?_) (fun c2 => ?_)
    ·refine ifK (fun _ => ?_) (fun h2 => absurd h2 (by simp [inI]; omega))
     refine Exists.intro C[i] (And.intro (by show (C.map iV)[0 + (i : Int).toNat * 1]? = _; simp [hiC, iV]) ?_)
     exact ⟨(i + 1, C[i]), ⟨⟨by show 1 ≤ i + 1; omega, h1⟩, hT (by unfold before; rw [c1]; exact c2)⟩, by show k - (i + 1) < k - i; omega, rcq [] ⟨⟨_, rfl, .sl _ _ _ _ _ rfl⟩, ⟨_, rfl, .func _ _ _ _ _ rfl .nil (.cons _ _ _ _ (.ptr _ _ _ rfl) .nil)⟩, ⟨_, rfl, .int _ _⟩, zAp rfl (by show IntKind.i64.wrap ((i : Int) + 1) = ((i + 1 : Nat) : Int); rw [wrapN (by omega) (by omega)]; omega), trivial⟩ ⟨bpo (zAs _), ⟨by decide, _, rfl, zBz rfl⟩, ⟨by decide, _, rfl, zBl rfl⟩, ⟨by decide, _, rfl, zAx l ck⟩, trivial⟩ .nil⟩
    ·exact ⟨(i + 1, m), ⟨⟨by show 1 ≤ i + 1; omega, h1⟩, hF (by unfold before; rw [c1]; exact c2)⟩, by show k - (i + 1) < k - i; omega, rcq [] ⟨⟨_, rfl, .sl _ _ _ _ _ rfl⟩, ⟨_, rfl, .func _ _ _ _ _ rfl .nil (.cons _ _ _ _ (.ptr _ _ _ rfl) .nil)⟩, ⟨_, rfl, .int _ _⟩, zAp rfl (by show IntKind.i64.wrap ((i : Int) + 1) = ((i + 1 : Nat) : Int); rw [wrapN (by omega) (by omega)]; omega), trivial⟩ ⟨bpo (zAs _), ⟨by decide, _, rfl, zBz rfl⟩, ⟨by decide, _, rfl, zBl rfl⟩, ⟨by decide, _, rfl, zAx l ck⟩, trivial⟩ .nil⟩
   ·have c3 : (cmpI C[i] m != 0) = false := c3
    have c3 : cmpI C[i] m = 0 := by simpa using c3
    exact ⟨(i + 1, m), ⟨⟨by show 1 ≤ i + 1; omega, h1⟩, hF (by unfold before; rw [c1, c3]; rfl)⟩, by show k - (i + 1) < k - i; omega, rcq [] ⟨⟨_, rfl, .sl _ _ _ _ _ rfl⟩, ⟨_, rfl, .func _ _ _ _ _ rfl .nil (.cons _ _ _ _ (.ptr _ _ _ rfl) .nil)⟩, ⟨_, rfl, .int _ _⟩, zAp rfl (by show IntKind.i64.wrap ((i : Int) + 1) = ((i + 1 : Nat) : Int); rw [wrapN (by omega) (by omega)]; omega), trivial⟩ ⟨bpo (zAs _), ⟨by decide, _, rfl, zBz rfl⟩, ⟨by decide, _, rfl, zBl rfl⟩, ⟨by decide, _, rfl, zAx l ck⟩, trivial⟩ .nil⟩
 ·have h1 : i = k := by have h1 : ¬ ((i : Nat) : Int) < (k : Int) := of_decide_eq_false h1; omega
  rw [show minF l (C.take k) = m by rw [hm, h1, List.take_take, Nat.min_self]]
  exact And.intro rfl (zKx (rcq [] (d := 6) (d2 := 0) (lv := [(5, .int .i64 m)]) (bs := []) (W := []) (m := 4) (df := []) ⟨⟨_, rfl, .int _ _⟩, trivial⟩ trivial .nil) (fun f => ⟨_, _, _, rfl, fun k hk => by cases hk⟩))
end Go.Proofs.Ytpdeidlkeplegaa
namespace Go.Proofs.Ytpdeidlkeplegaa
open Go Go.RowKit
theorem FnS.wrT {f : FuncId} {args : List Value} {H H' : Tr AObj} {n0 n : Nat} {v : Value} {wr : List Nat} (W : List Nat) (h : FnS Try.prog 0 f args H n0 (.ret v H' n wr)) : FnS Try.prog 0 f args H n0 (.ret v H' n (W ++ wr)) := fun E w args' h1 h2 h3 h4 h5 =>
 (h E w args' h1 h2 h3 h4 h5).mono fun e w' ⟨E', v', q1, q2, q3, q4⟩ => ⟨E', v', q1, q2, q3, q4.sub (fun k hk _ => List.mem_append.2 (.inr hk))⟩
noncomputable def ct_min : Ct Try.prog 0 := ct_tbl 32 33 (fun L k l => .int .i64 (minF l (L.take k))) (fun L k l => (keysC l).Nodup ∧ (1 ≤ k ∧ k ≤ L.length) ∧ L.length ≤ 1000000) (fun _ _ _ => rfl)
 (fun L k most l ck ⟨h1, h2, h3⟩ => min_fn L k most l ck h1 h2 h3)
def delO (lb k : Nat) (C : List Int) (A : List Nat) (H : Tr AObj) (n : Nat) : Res := .ret (.slice (some ⟨lb, 0, none⟩) k U) (H.set lb (some (.cells (C.map iV) 3))) n A
noncomputable def ct_del : Ct Try.prog 0 :=
 CtR.ct { f := 30, X := TbA, pre := fun x a H _ => a = x.as 31 ∧ x.at H ∧ x.k = x.L.length ∧ (keysC x.l).Nodup ∧ x.L.length ≤ 1000000, out := fun x H n => delO x.lb (delF x.l x.L).length (delL x.l x.L) [x.lb, x.cb, x.tb, x.mb] H n,
          ok := fun x a H n ⟨h1, h2, h3, h4, h5⟩ => by
           subst h1
           obtain ⟨r, hF, H', m, wr, rfl, hw, hg, _⟩ := del_fn x.L x.most x.l x.ck h4 h5
           have hcb := TbA.callB h2
           have hnd := h2.2.2.2.2
           have hrl := x.rl 31
           rw [h3] at hrl
           refine zLw (n := n) [x.lb, x.cb, x.tb, x.mb] [] [(x.lb, some (.cells ((delL x.l x.L).map iV) 3))] (hF.wrT [0]) hnd hcb hrl (fun k o ho hk => ?_) (fun j hj => ?_) List.nodup_nil (fun y hy => by cases hy) (.sl _ _ _ _ _ (zNa rfl)) (fun p hp => ?_) (fun k j e hk => ?_) (fun j o ho => ?_)
           ·match k, hk, ho with
            | 0, _, ho => have ho : some (AObj.cells _ _) = some o := ho; cases ho; exact fun h => h
            | 1, _, ho => have ho : some (AObj.cells _ _) = some o := ho; cases ho; exact fun h => h
            | 2, _, ho => have ho : some (AObj.cells _ _) = some o := ho; cases ho; exact fun h => h
            | 3, _, ho => have ho : some (AObj.map _ _) = some o := ho; cases ho; exact fun h => h
            | k + 4, hk, _ => have hk : k + 4 < 4 := hk; omega
           ·simp only [List.mem_cons, List.not_mem_nil, or_false] at hj
            rcases hj with rfl | rfl | rfl | rfl
            ·exact ⟨_, h2.1, fun h => h⟩
            ·exact ⟨_, h2.2.1, fun h => h⟩
            ·exact ⟨_, h2.2.2.1, fun h => h⟩
            ·exact ⟨_, h2.2.2.2.1, fun h => h⟩
           ·simp only [List.mem_singleton] at hp
            subst hp
            exact .inl (List.mem_cons_self ..)
           ·rcases List.mem_append.1 hk with hk | hk
            ·simp only [List.mem_singleton] at hk
             subst hk
             cases e
             exact .inl (List.mem_cons_self ..)
            ·rcases hw k hk with rfl | hk4
             ·cases e
              exact .inl (List.mem_cons_self ..)
             ·rw [List.getElem?_eq_none (by show 4 ≤ k; exact hk4)] at e; cases e
           ·simp only [List.mem_singleton, Prod.mk.injEq, Option.some.injEq] at ho
            obtain ⟨rfl, rfl⟩ := ho
            exact ⟨0, _, zNa rfl, hg, .same (zAs _), fun _ => List.mem_append_left _ (List.mem_singleton.2 rfl)⟩,
          uniq := fun x y a H n ⟨h1, h2, _⟩ ⟨k1, k2, _⟩ => by
           rw [h1] at k1
           rw [TbA.uniq k1 h2 k2],
          tr := fun x H n K => frcN x.lb fun lb => frcN x.cb fun cb => frcN x.tb fun tb => frcN x.mb fun mb => K (delO lb (delF x.l x.L).length (delL x.l x.L) [lb, cb, tb, mb] H n),
          trOk := fun x H n K h => by rw [zBm, zBm, zBm, zBm] at h; exact h }
def rangeC (l : List CliX) : Prop := ∀ c ∈ l, -9223372036854775808 ≤ c.n ∧ c.n ≤ 9223372036854775807
theorem zHh : ∀ {l : List CliX}, rangeC l → zCn (encC l) = some (keysC l)
 | [], _ => rfl
 | c :: l, h => by
  have h1 := h c (List.mem_cons_self ..)
  have ih := zHh (l := l) (fun d hd => h d (List.mem_cons_of_mem _ hd))
  show zCn (c.e :: encC l) = _
  unfold zCn
  show (bif decide (-9223372036854775808 ≤ c.n) && decide (c.n ≤ 9223372036854775807) then (zCn (encC l)).map (c.n :: ·) else none) = _
  rw [decide_eq_true h1.1, decide_eq_true h1.2, ih]; rfl
theorem zKt : ∀ {l : List Int}, l.Nodup → nodupI l = true
 | [], _ => rfl
 | x :: l, h => by
  rw [List.nodup_cons] at h
  unfold nodupI
  rw [zKt h.2, Bool.and_true]
  exact List.all_eq_true.2 fun y hy => by
   have : x ≠ y := fun e => h.1 (e ▸ hy)
   simp [this]
structure SoA where
 c : Nat
 mb : Nat
 l : List CliX
 ck : Nat
def SoA.as (x : SoA) : List Value := [.func (.func 38) #[] #[.pointer (some ⟨x.c, 0, none⟩)]]
noncomputable def ct_sortC : Ct Try.prog 0 :=
 CtR.ct { f := 28, X := SoA, pre := fun x a H _ => a = x.as ∧ H.get x.c = some (.cells [.map (some x.mb)] 52) ∧ H.get x.mb = some (.map (encC x.l) x.ck) ∧ (keysC x.l).Nodup ∧ rangeC x.l ∧ x.l.length ≤ 1000000,
          out := fun x H n => listOut 3 1 ((isortI (keysC x.l)).map iV) (keysC x.l).length id H n,
          ok := fun x a H n ⟨h1, h2, h3, h4, h5, h6⟩ => by
           subst h1
           refine zLg (ks := keysC x.l) ?_
           unfold zBg SoA.as
           simp only [h2, h3, zHh h5, zKt h4]
           rw [show ((keysC x.l).length.ble 1000000) = true from Nat.ble_eq_true_of_le (by unfold keysC; rw [List.length_map]; exact h6)]
           rfl,
          uniq := fun x y a H n ⟨h1, h2, h3, _⟩ ⟨k1, k2, k3, _⟩ => by
           rw [h1] at k1
           obtain ⟨c, mb, l, ck⟩ := x
           obtain ⟨c', mb', l', ck'⟩ := y
           simp only [SoA.as, List.cons.injEq, Value.func.injEq, Array.mk.injEq, Value.pointer.injEq, Option.some.injEq, Addr.mk.injEq, true_and, and_true] at k1
           subst k1
           have h2 : H.get c = _ := h2
           have k2 : H.get c = _ := k2
           rw [h2] at k2
           simp only [Option.some.injEq, AObj.cells.injEq, List.cons.injEq, Value.map.injEq, and_true] at k2
           subst k2
           have h3 : H.get mb = _ := h3
           have k3 : H.get mb = _ := k3
           rw [h3] at k3
           simp only [Option.some.injEq, AObj.map.injEq] at k3
           obtain ⟨e2, rfl⟩ := k3
           rw [zNo e2],
          tr := fun x H n K => brK ((keysC x.l).length.beq 0) (K (.ret (.slice none 0 0) H n [])) (K (.ret (.slice (some ⟨n, 0, none⟩) (keysC x.l).length U) (H.set n (some (.cells ((isortI (keysC x.l)).map iV) 3))) (n + 1) [])),
          trOk := fun x H n K h => by
           unfold listOut
           cases hb : (keysC x.l).length.beq 0 with
           | true => rw [hb] at h; exact h
           | false => rw [hb] at h; exact h }
end Go.Proofs.Ytpdeidlkeplegaa
namespace Go.Proofs.Ytpdeidlkeplegaa
open Go Go.RowKit
theorem zKf : zJu (evT Try.prog 0 [zKi] 1000000 (.call 8 []) fs0) = true := by kernel_rfl
theorem zJf (w : World) (hpos : 0 < w.heap.size) : Calls Try.prog 8 #[] w fun e w' => e = .returned (.bool true) ∧ Below w.heap.size w w' := evT_true mixed [zKi] 1000000 _ zKf w hpos
end Go.Proofs.Ytpdeidlkeplegaa
namespace Go.Proofs.Ytpdeidlkeplegaa
open Go Go.RowKit
noncomputable def zDp : Ct Try.prog 0 := Ct.inl (tbOf mixed []) mixed [] 25 Try.f25 Try.func25 (bodyOf Try.f25) (by kernel_rfl)
noncomputable def zOw : Ct Try.prog 0 := Ct.inl (tbOf mixed []) mixed [] 29 Try.f29 Try.func29 (bodyOf Try.f29) (by kernel_rfl)
noncomputable def inl_all20 : Ct Try.prog 0 := Ct.inl (tbOf mixed [zDp, zOw, ct_sortC]) mixed [] 20 Try.f20 Try.func20 (bodyOf Try.f20) (by kernel_rfl)
noncomputable def zOu : Ct Try.prog 0 := Ct.inl (tbOf mixed [inl_all20, ct_del, ct_min]) mixed [] 26 Try.f26 Try.func26 (bodyOf Try.f26) (by kernel_rfl)
noncomputable def zMe : Ct Try.prog 0 := Ct.inl (tbOf mixed [zDp, zOu]) mixed [900005, 900006, 900007] 11 Try.f11 Try.func11 (bodyOf Try.f11) (by kernel_rfl)
noncomputable def zOv : Ct Try.prog 0 := Ct.inl (tbOf mixed [zDp]) mixed [900005, 900006] 12 Try.f12 Try.func12 (bodyOf Try.f12) (by kernel_rfl)
noncomputable def inl_len20 : Ct Try.prog 0 := Ct.inl (tbOf mixed [zDp]) mixed [] 13 Try.f13 Try.func13 (bodyOf Try.f13) (by kernel_rfl)
noncomputable def inl_new20 : Ct Try.prog 0 := Ct.inl (tbOf mixed []) mixed [] 10 Try.f10 Try.func10 (bodyOf Try.f10) (by kernel_rfl)
noncomputable def tbTq7 : Tb Try.prog 0 := tbOf mixed [Ct.yes 8 zJf, ct_pick, inl_new20, zMe, zOv, inl_len20]
def cliF (j : Nat) : CliX := ⟨1000 - (j : Int), j, true⟩
def Sf (P i : Nat) : List CliX := (List.range' (i - P) (min i P)).map cliF
theorem zKr {P i : Nat} {c : CliX} (h : c ∈ Sf P i) : ∃ j, c = cliF j ∧ i - P ≤ j ∧ j < i := by
 obtain ⟨j, hj, rfl⟩ := List.mem_map.1 h
 rw [List.mem_range'_1] at hj
 exact ⟨j, rfl, hj.1, by omega⟩
theorem Sf_mem {P i j : Nat} (h1 : i - P ≤ j) (h2 : j < i) : cliF j ∈ Sf P i := List.mem_map.2 ⟨j, List.mem_range'_1.2 ⟨h1, by omega⟩, rfl⟩
theorem zNc (P i : Nat) : (Sf P i).length = min i P := by simp [Sf]
theorem Sf_keys (P i : Nat) : keysC (Sf P i) = (List.range' (i - P) (min i P)).map fun j : Nat => 1000 - (j : Int) := by unfold keysC Sf; rw [List.map_map]; rfl
theorem zEe (P i : Nat) : (keysC (Sf P i)).Nodup := by
 rw [Sf_keys]
 exact List.Pairwise.map _ (fun a b (h : a ≠ b) => by show (1000 : Int) - a ≠ 1000 - b; omega) List.nodup_range'
theorem Sf_range {P i : Nat} (h : i ≤ 1000) : rangeC (Sf P i) := fun c hc => by
 obtain ⟨j, rfl, _, h2⟩ := zKr hc
 show -9223372036854775808 ≤ 1000 - (j : Int) ∧ 1000 - (j : Int) ≤ _
 omega
theorem zNd (P i : Nat) : (1000 - (i : Int)) ∉ keysC (Sf P i) := fun h => by
 obtain ⟨c, hc, e⟩ := List.mem_map.1 h
 obtain ⟨j, rfl, _, h2⟩ := zKr hc
 have e : (1000 : Int) - j = 1000 - i := e
 omega
theorem Sf_less {P i : Nat} (h : i < P) : Sf P (i + 1) = Sf P i ++ [cliF i] := by
 unfold Sf
 rw [show i + 1 - P = 0 by omega, show i - P = 0 by omega, show min (i + 1) P = i + 1 by omega, show min i P = i by omega, List.range'_concat, List.map_append]
 simp
theorem Sf_cons {P i : Nat} (hP : 1 ≤ P) (h : P ≤ i) : ∃ T, Sf P i = cliF (i - P) :: T ∧ Sf P (i + 1) = T ++ [cliF i] := by
 obtain ⟨P, rfl⟩ : ∃ p, P = p + 1 := ⟨P - 1, by omega⟩
 refine ⟨(List.range' (i - P) P).map cliF, ?_, ?_⟩
 ·unfold Sf
  rw [show min i (P + 1) = P + 1 by omega, List.range'_succ, List.map_cons, show i - (P + 1) + 1 = i - P by omega]
 ·unfold Sf
  rw [show min (i + 1) (P + 1) = P + 1 by omega, show i + 1 - (P + 1) = i - P by omega, List.range'_concat, List.map_append]
  congr 1
  show [cliF (i - P + 1 * P)] = [cliF i]
  rw [show i - P + 1 * P = i by omega]
theorem idle_all {l : List CliX} (h : ∀ c ∈ l, c.i = true) {a : Int} (ha : a ∈ keysC l) : idleC l a = true := by
 unfold idleC getC
 have hs := zNv.2 ha
 unfold hasC getC at hs
 cases hf : l.find? (fun c => c.n == a) with
 | none => rw [hf] at hs; cases hs
 | some c => show c.i = true; exact h c (List.mem_of_find?_eq_some hf)
theorem when_all {l : List CliX} {a w : Int} (ha : a ∈ keysC l) (h : ∀ c ∈ l, c.n = a → c.w = w) : whenC l a = w := by
 unfold whenC getC
 have hs := zNv.2 ha
 unfold hasC getC at hs
 cases hf : l.find? (fun c => c.n == a) with
 | none => rw [hf] at hs; cases hs
 | some c => exact h c (List.mem_of_find?_eq_some hf) (by simpa using List.find?_some hf)
theorem zIm {l : List CliX} {m0 : Int} : ∀ {L : List Int} {m : Int}, m0 ∈ m :: L → (∀ y ∈ m :: L, y ≠ m0 → whenC l m0 < whenC l y) → L.foldl (fun m x => bif before l x m then x else m) m = m0
 | [], m, h, _ => (List.mem_singleton.1 h).symm
 | y :: L, m, h, hl => by
  show L.foldl _ (bif before l y m then y else m) = m0
  have hy := hl y (by simp)
  have hm := hl m (by simp)
  refine zIm ?_ (fun z hz hne => hl z ?_ hne)
  ·by_cases e1 : m = m0
   ·by_cases e2 : y = m0
    ·rw [e1, e2]; cases before l m0 m0 <;> simp
    ·have h3 := hy e2
     have hb : before l y m = false := by
      unfold before cmpI
      rw [e1, decide_eq_false (by omega), decide_eq_true (by omega)]; rfl
     rw [hb, e1]; simp
   ·by_cases e2 : y = m0
    ·have h3 := hm e1
     have hb : before l y m = true := by
      unfold before cmpI
      rw [e2, decide_eq_true (by omega)]; rfl
     rw [hb, e2]; simp
    ·simp only [List.mem_cons] at h ⊢
     rcases h with h | h | h
     ·exact absurd h.symm e1
     ·exact absurd h.symm e2
     ·exact .inr h
  ·simp only [List.mem_cons] at hz ⊢
   rcases hz with hz | hz
   ·rw [hz]; cases before l y m <;> simp
   ·exact .inr (.inr hz)
theorem zPa {l : List CliX} {L : List Int} {m0 : Int} (h0 : m0 ∈ L) (h : ∀ y ∈ L, y ≠ m0 → whenC l m0 < whenC l y) : minF l L = m0 := by
 cases L with
 | nil => cases h0
 | cons x L => exact zIm h0 h
theorem Sf_min {P i : Nat} (hP : 1 ≤ P) (h : P ≤ i) : minF (Sf P i) (isortI (keysC (Sf P i))) = 1000 - ((i - P : Nat) : Int) := by
 have hw : ∀ j : Nat, i - P ≤ j → j < i → whenC (Sf P i) (1000 - (j : Int)) = j := fun j h1 h2 => by
  refine when_all (List.mem_map.2 ⟨cliF j, Sf_mem h1 h2, rfl⟩) fun c hc e => ?_
  obtain ⟨k, rfl, _, _⟩ := zKr hc
  have e : (1000 : Int) - k = 1000 - j := e
  show (k : Int) = j
  omega
 have hm : ∀ {y : Int}, y ∈ isortI (keysC (Sf P i)) ↔ y ∈ keysC (Sf P i) := fun {y} => (zBq _).mem_iff
 refine zPa (hm.2 (List.mem_map.2 ⟨cliF (i - P), Sf_mem (Nat.le_refl _) (by omega), rfl⟩)) fun y hy hne => ?_
 obtain ⟨c, hc, rfl⟩ := List.mem_map.1 (hm.1 hy)
 obtain ⟨j, rfl, h1, h2⟩ := zKr hc
 have hne : (1000 : Int) - j ≠ 1000 - ((i - P : Nat) : Int) := hne
 show whenC _ _ < whenC _ (1000 - (j : Int))
 rw [hw j h1 h2, hw (i - P) (Nat.le_refl _) (by omega)]
 omega
theorem turns_fn (x y : Int) : ∃ r, FnS Try.prog 0 3 [.int .i64 x, .int .i64 y] .e 0 r ∧ ∃ H k wr, r = .ret (.bool true) H k wr := by
 refine zOt mixed tbTq7 [] Try.func3 (c := bodyOf Try.f3) (by kernel_rfl) ?_
 obtain ⟨P, hP, hP1, hP2⟩ : ∃ P : Nat, IntKind.i64.wrap (1 + pickI x 30) = (P : Int) ∧ 1 ≤ P ∧ P ≤ 30 := by
  have h := zOd (x := x) (n := 30) (by decide) (by decide)
  have h1 := Int.emod_nonneg x (show (30 : Int) ≠ 0 by decide)
  have h2 := Int.emod_lt_of_pos x (show (0 : Int) < 30 by decide)
  rw [h, wrapN (by omega) (by omega)]
  exact ⟨(1 + x % 30).toNat, by omega, by omega, by omega⟩
 obtain ⟨Q, hQ, hQ2⟩ : ∃ Q : Nat, pickI y 100 = (Q : Int) ∧ Q ≤ 99 := by
  have h := zOd (x := y) (n := 100) (by decide) (by decide)
  have h1 := Int.emod_nonneg y (show (100 : Int) ≠ 0 by decide)
  have h2 := Int.emod_lt_of_pos y (show (0 : Int) < 100 by decide)
  rw [h]
  exact ⟨(y % 100).toNat, by omega, by omega⟩
 refine ifK (fun h => absurd (show IntKind.i64.wrap (1 + pickI x 30) < 1 from of_decide_eq_true h) (by rw [hP]; omega)) (fun _ => ?_)
 refine ifK (fun h => absurd (of_decide_eq_true h) (by rw [hP]; omega)) (fun _ => ?_)
 refine zGh (fun (i : Nat) f => ⟨slots 7 [(0, .int .i64 (P : Nat)), (1, .int .i64 (Q : Nat)), (5, .bool true), (6, .pointer (some ⟨1, 0, none⟩)), (8, .int .i64 (i : Nat))] f, heap 2 [(0, .map (encC (Sf P i)) i), (1, tabO (P : Nat) 0)], 2, [], []⟩) (fun i => Q - i) (fun i => i ≤ Q) 0 (Nat.zero_le _) (rcq [0, 1] ⟨zAp rfl hP, zAp rfl hQ, ⟨_, rfl, .bool _⟩, ⟨_, rfl, .ptr _ _ _ rfl⟩, ⟨_, rfl, .int _ _⟩, trivial⟩ ⟨⟨by decide, _, rfl, RO.map _ _ _ .nil⟩, ⟨by decide, _, rfl, by rw [← hP]; exact zBl rfl⟩, trivial⟩ .nil) ?_
 rintro i f hi
 have hi : i ≤ Q := hi
 refine sx_ok tbTq7 [] 0 _ none mixed _ _ _ ?_
 refine ifK (fun h1 => ?_) (fun h1 => ?_)
 ·have h1 : i < Q := by have h1 : ((i : Nat) : Int) < (Q : Int) := of_decide_eq_true h1; omega
  have hw : IntKind.i64.wrap (1000 - (i : Int)) = 1000 - (i : Int) := wrapN (by omega) (by omega)
  refine ifK (fun h => absurd (show ((P : Int) == 0) = true from h) (by simp; omega)) (fun _ => ?_)
  refine ifK (fun h => absurd (show ((i : Nat) : Int) > 1099511627776 from of_decide_eq_true h) (by omega)) (fun _ => ?_)
  refine Exists.intro (.tuple #[.agg #[.int .i64 0, .bool false], .bool false]) (Exists.intro [] (Exists.intro 0 (And.intro (zNm (e := 62) (l := Sf P i) (a := 1000 - (i : Int)) (ck := i) (r := 0) (ok := true) rfl rfl (congrArg (Value.int .i64) hw) (by kernel_rfl) zEy rfl (zNd P i)) ?_)))
  refine And.intro (by kernel_rfl) ?_
  have hel : (encC (Sf P i)).length = min i P := by unfold encC; rw [List.length_map, zNc]
  have hnd2 : ∀ b, (keysC (Sf P i ++ [⟨1000 - (i : Int), i, b⟩])).Nodup := fun b => by
   unfold keysC
   rw [List.map_append, List.nodup_append]
   exact ⟨zEe P i, by simp, fun a ha c hc => by simp at hc; subst hc; exact fun e => zNd P i (e ▸ ha)⟩
  refine ifK (fun h2 => ?_) (fun h2 => ?_)
  ·have h2 : i < P := by
    have h2 : (((encC (Sf P i)).length : Nat) : Int) < (P : Int) := of_decide_eq_true h2
    rw [hel] at h2; omega
   refine Exists.intro undef (Exists.intro [((0 : Nat), some (.map (encC (Sf P i ++ [⟨1000 - (i : Int), i, false⟩])) (i + 1)))] (Exists.intro 0 (And.intro (zNl (e := 62) (l := Sf P i) (a := 1000 - (i : Int)) (w := i) (b := false) (ck := i) (r := 0) rfl rfl (congrArg (Value.int .i64) hw) rfl (by kernel_rfl) rfl (zNd P i)) ?_)))
   refine ifK (fun h => absurd (show (!(false == decide (((i : Nat) : Int) ≥ (P : Int)))) = true from h) (by rw [decide_eq_false (by omega)]; decide)) (fun _ => ?_)
   refine ifK (fun h => absurd (show ((P : Int) == 0) = true from h) (by simp; omega)) (fun _ => ?_)
   refine Exists.intro (.tuple #[.agg #[.int .i64 i, .bool false], .bool true]) (Exists.intro [] (Exists.intro 0 (And.intro (zJd (e := 62) (A := Sf P i) (B := []) (c := ⟨1000 - (i : Int), i, false⟩) (ck := i + 1) (r := 0) (ok := true) rfl rfl (congrArg (Value.int .i64) hw) (by kernel_rfl) rfl (hnd2 false)) ?_)))
   refine And.intro (by kernel_rfl) ?_
   refine Exists.intro undef (Exists.intro [((0 : Nat), some (.map (encC (Sf P i ++ ⟨1000 - (i : Int), i, true⟩ :: [])) (i + 1)))] (Exists.intro 0 (And.intro (zNn (e := 62) (A := Sf P i) (B := []) (c := ⟨1000 - (i : Int), i, false⟩) (w := i) (b := true) (ck := i + 1) (r := 0) rfl rfl (congrArg (Value.int .i64) hw) rfl (by kernel_rfl) rfl (hnd2 false)) ?_)))
   exact ⟨i + 1, h1, by show Q - (i + 1) < Q - i; omega, rcq [0, 1] ⟨⟨_, rfl, .int _ _⟩, ⟨_, rfl, .int _ _⟩, ⟨_, rfl, .bool _⟩, ⟨_, rfl, .ptr _ _ _ rfl⟩, zAp rfl (by show IntKind.i64.wrap ((i : Int) + 1) = ((i + 1 : Nat) : Int); rw [wrapN (by omega) (by omega)]; omega), trivial⟩ ⟨⟨by decide, _, rfl, by rw [Sf_less h2]; exact zAx _ _⟩, ⟨by decide, _, rfl, zBl rfl⟩, trivial⟩ .nil⟩
  ·have h2 : P ≤ i := by
    have h2 : ¬ (((encC (Sf P i)).length : Nat) : Int) < (P : Int) := of_decide_eq_false h2
    rw [hel] at h2; omega
   obtain ⟨T, hT, hT2⟩ := Sf_cons hP1 h2
   refine ifK (fun h => absurd (show ((P : Int) == 0) = true from h) (by simp; omega)) (fun _ => ?_)
   have hkl : (keysC (Sf P i)).length = P := by unfold keysC; rw [List.length_map, zNc]; omega
   refine Exists.intro ⟨4, 0, Sf P i, i⟩ (And.intro ⟨rfl, by kernel_rfl, by kernel_rfl, zEe P i, Sf_range (by omega), by rw [zNc]; omega⟩ ?_)
   refine ifK (fun h => absurd (Nat.eq_of_beq_eq_true (show (keysC (Sf P i)).length.beq 0 = true from h)) (by omega)) (fun _ => ?_)
   have hL : (isortI (keysC (Sf P i))).length = (keysC (Sf P i)).length := (zBq _).length_eq
   have hdF : delF (Sf P i) (isortI (keysC (Sf P i))) = isortI (keysC (Sf P i)) := List.filter_eq_self.2 fun a ha => idle_all (fun c hc => by obtain ⟨j, rfl, _⟩ := zKr hc; rfl) ((zBq _).mem_iff.1 ha)
   have hdL : delL (Sf P i) (isortI (keysC (Sf P i))) = isortI (keysC (Sf P i)) := by unfold delL; rw [hdF, Nat.sub_self]; simp
   refine Exists.intro ⟨5, 3, 1, 0, (keysC (Sf P i)).length, isortI (keysC (Sf P i)), P, Sf P i, i⟩ (And.intro ⟨rfl, ⟨by kernel_rfl, by kernel_rfl, by kernel_rfl, by kernel_rfl, (show [5, 3, 1, 0].Nodup by decide)⟩, hL.symm, zEe P i, by show (isortI (keysC (Sf P i))).length ≤ _; omega⟩ ?_)
   have hdl : (delF (Sf P i) (isortI (keysC (Sf P i)))).length = P := by rw [hdF, hL, hkl]
   refine ifK (fun h => absurd (show ((((delF (Sf P i) (isortI (keysC (Sf P i)))).length : Nat) : Int) == 0) = true from h) (by rw [hdl]; simp; omega)) (fun _ => ?_)
   refine Exists.intro ⟨5, 3, 1, 0, (delF (Sf P i) (isortI (keysC (Sf P i)))).length, delL (Sf P i) (isortI (keysC (Sf P i))), P, Sf P i, i⟩ (And.intro ⟨rfl, ⟨by kernel_rfl, by kernel_rfl, by kernel_rfl, by kernel_rfl, (show [5, 3, 1, 0].Nodup by decide)⟩, zEe P i, ⟨by show 1 ≤ (delF (Sf P i) (isortI (keysC (Sf P i)))).length; omega, by show (delF (Sf P i) (isortI (keysC (Sf P i)))).length ≤ (delL (Sf P i) (isortI (keysC (Sf P i)))).length; rw [hdF, hdL]; exact Nat.le_refl _⟩, by show (delL (Sf P i) (isortI (keysC (Sf P i)))).length ≤ _; rw [hdL]; omega⟩ ?_)
   have hmin : minF (Sf P i) ((delL (Sf P i) (isortI (keysC (Sf P i)))).take (delF (Sf P i) (isortI (keysC (Sf P i)))).length) = (cliF (i - P)).n := by
    rw [hdF, hdL, List.take_of_length_le (Nat.le_refl _)]
    exact Sf_min hP1 h2
   have hnT : (keysC (cliF (i - P) :: T)).Nodup := hT ▸ zEe P i
   have hnot : (1000 - (i : Int)) ∉ keysC T := fun h => zNd P i (by rw [hT]; exact List.mem_cons_of_mem _ h)
   have hnd3 : ∀ b, (keysC (T ++ [⟨1000 - (i : Int), i, b⟩])).Nodup := fun b => by
    unfold keysC at hnT ⊢
    rw [List.map_cons, List.nodup_cons] at hnT
    rw [List.map_append, List.nodup_append]
    exact ⟨hnT.2, by simp, fun a ha c hc => by simp at hc; subst hc; exact fun e => hnot (e ▸ ha)⟩
   refine Exists.intro (.tuple #[]) (Exists.intro [((0 : Nat), some (AObj.map (encC T) i))] (Exists.intro (0 : Nat) (And.intro (aop_cliD (e := 62) (A := []) (B := T) (c := cliF (i - P)) (ck := i) (r := 0) rfl rfl (congrArg (Value.int .i64) hmin) (by kernel_rfl) (congrArg (fun l : List CliX => some (AObj.map (encC l) i)) hT) hnT) ?_)))
   refine Exists.intro undef (Exists.intro [((0 : Nat), some (AObj.map (encC (T ++ [⟨1000 - (i : Int), i, false⟩])) (i + 1)))] (Exists.intro (0 : Nat) (And.intro (zNl (e := 62) (l := T) (a := 1000 - (i : Int)) (w := i) (b := false) (ck := i) (r := 0) rfl rfl (congrArg (Value.int .i64) hw) rfl (by kernel_rfl) rfl hnot) ?_)))
   refine ifK (fun h => absurd (show (!(true == decide (((i : Nat) : Int) ≥ (P : Int)))) = true from h) (by rw [decide_eq_true (by omega)]; decide)) (fun _ => ?_)
   refine ifK (fun h => ?_) (fun _ => ?_)
   ·exfalso
    have h : (minF (Sf P i) ((delL (Sf P i) (isortI (keysC (Sf P i)))).take (delF (Sf P i) (isortI (keysC (Sf P i)))).length) != IntKind.i64.wrap (IntKind.i64.wrap (1000 - (i : Int)) + (P : Int))) = true := h
    rw [hmin, hw, wrapN (by omega) (by omega)] at h
    have : (cliF (i - P)).n = 1000 - (i : Int) + P := by show (1000 : Int) - ((i - P : Nat) : Int) = _; omega
    rw [this] at h
    simp at h
   refine ifK (fun h => absurd (show ((P : Int) == 0) = true from h) (by simp; omega)) (fun _ => ?_)
   refine Exists.intro (.tuple #[.agg #[.int .i64 i, .bool false], .bool true]) (Exists.intro [] (Exists.intro 0 (And.intro (zJd (e := 62) (A := T) (B := []) (c := ⟨1000 - (i : Int), i, false⟩) (ck := i + 1) (r := 0) (ok := true) rfl rfl (congrArg (Value.int .i64) hw) (by kernel_rfl) rfl (hnd3 false)) ?_)))
   refine And.intro (by kernel_rfl) ?_
   refine Exists.intro undef (Exists.intro [((0 : Nat), some (AObj.map (encC (T ++ ⟨1000 - (i : Int), i, true⟩ :: [])) (i + 1)))] (Exists.intro (0 : Nat) (And.intro (zNn (e := 62) (A := T) (B := []) (c := ⟨1000 - (i : Int), i, false⟩) (w := i) (b := true) (ck := i + 1) (r := 0) rfl rfl (congrArg (Value.int .i64) hw) rfl (by kernel_rfl) rfl (hnd3 false)) ?_)))
   exact ⟨i + 1, h1, by show Q - (i + 1) < Q - i; omega, rcq [0, 1] ⟨⟨_, rfl, .int _ _⟩, ⟨_, rfl, .int _ _⟩, ⟨_, rfl, .bool _⟩, ⟨_, rfl, .ptr _ _ _ rfl⟩, zAp rfl (by show IntKind.i64.wrap ((i : Int) + 1) = ((i + 1 : Nat) : Int); rw [wrapN (by omega) (by omega)]; omega), trivial⟩ ⟨⟨by decide, _, rfl, by rw [hT2]; exact zAx _ _⟩, ⟨by decide, _, rfl, zBl rfl⟩, trivial⟩ .nil⟩
 ·have h1 : i = Q := by have h1 : ¬ ((i : Nat) : Int) < (Q : Int) := of_decide_eq_false h1; omega
  subst h1
  refine And.intro rfl (zKx (rcq [0, 1] (d := 7) (d2 := 2) (lv := [(0, .int .i64 (P : Nat)), (1, .int .i64 (i : Nat)), (5, .bool true), (6, .pointer (some ⟨1, 0, none⟩))]) (bs := [(0, .map (encC (Sf P i)) i), (1, tabO (P : Nat) 0)]) (W := []) (m := 2) (df := []) ⟨⟨_, rfl, .int _ _⟩, ⟨_, rfl, .int _ _⟩, ⟨_, rfl, .bool _⟩, ⟨_, rfl, .ptr _ _ _ rfl⟩, trivial⟩ ⟨⟨by decide, _, rfl, zAx _ _⟩, ⟨by decide, _, rfl, zBl rfl⟩, trivial⟩ .nil) (fun f => ?_))
  refine ifK (fun h => absurd (show ((P : Int) == 0) = true from h) (by simp; omega)) (fun _ => ?_)
  have hel : (encC (Sf P i)).length = min i P := by unfold encC; rw [List.length_map, zNc]
  have hfin : ((((encC (Sf P i)).length : Nat) : Int) == minI (P : Int) (i : Int)) = true := by
   rw [hel]
   unfold minI
   split <;> simp <;> omega
  exact ⟨_, _, _, congrArg (fun b => Res.ret (.bool b) _ _ _) hfin⟩
end Go.Proofs.Ytpdeidlkeplegaa
