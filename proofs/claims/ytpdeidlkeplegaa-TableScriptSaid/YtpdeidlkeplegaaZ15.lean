/- DERIVED. Texts put together: Sorted, Tq1, Tq2, Tq3, Tq4, Tq5, Tq6, Tq8, Tq9, Tq11, Tq10, Tq12, Tq13, Tq15, Ts1, Ts2, Ts3, Ts4, Ts5, Ts6, Tq17, Aw20, Ts8. -/
import Derived.Test.YtpdeidlkeplegaaZ12
import Derived.Test.YtpdeidlkeplegaaZ13
import Derived.Test.YtpdeidlkeplegaaZ14
set_option maxRecDepth 1000000
set_option maxHeartbeats 32000000
namespace Go.Proofs.Ytpdeidlkeplegaa
open Go Go.RowKit Go.Maps
open Go.WideElems (Fit rd rg rg_of rd_mk)
def insI (x : Int) : List Int → List Int
 | [] => [x]
 | y :: l => bif decide (x ≤ y) then x :: y :: l else y :: insI x l
def isortI : List Int → List Int
 | [] => []
 | x :: l => insI x (isortI l)
theorem zJb (x : Int) : ∀ l, (insI x l).Perm (x :: l)
 | [] => .refl _
 | y :: l => by
  unfold insI
  cases decide (x ≤ y) with
  | true => exact .refl _
  | false => exact ((zJb x l).cons y).trans (.swap x y l)
theorem zAb : ∀ l, (isortI l).Perm l
 | [] => .refl _
 | x :: l => (zJb x _).trans ((zAb l).cons x)
theorem zJc {x : Int} : ∀ {l : List Int}, l.Pairwise (· ≤ ·) → (insI x l).Pairwise (· ≤ ·)
 | [], _ => by simp [insI]
 | y :: l, h => by
  rw [List.pairwise_cons] at h
  unfold insI
  cases hd : decide (x ≤ y) with
  | true =>
   have := of_decide_eq_true hd
   refine List.pairwise_cons.2 ⟨fun z hz => ?_, List.pairwise_cons.2 h⟩
   rcases List.mem_cons.1 hz with rfl | hz
   ·exact this
   ·have := h.1 z hz; omega
  | false =>
   have := of_decide_eq_false hd
   refine List.pairwise_cons.2 ⟨fun z hz => ?_, zJc h.2⟩
   have hz := (zJb x l).mem_iff.1 hz
   rcases List.mem_cons.1 hz with rfl | hz
   ·omega
   ·exact h.1 z hz
theorem zDr : ∀ l, (isortI l).Pairwise (· ≤ ·)
 | [] => .nil
 | x :: l => zJc (zDr l)
theorem zSq {ss ks : List Int} (h : ss.Perm ks) : (ss.mergeSort fun x y => decide (x ≤ y)) = isortI ks := by
 have tr : ∀ a b c : Int, leI a b = true → leI b c = true → leI a c = true := fun a b c h1 h2 => by simp only [leI, decide_eq_true_eq] at *; exact Int.le_trans h1 h2
 have to : ∀ a b : Int, (leI a b || leI b a) = true := fun a b => by simp only [leI, Bool.or_eq_true, decide_eq_true_eq]; exact Int.le_total a b
 refine List.Perm.eq_of_pairwise (le := fun a b => leI a b = true) (fun a b _ _ h1 h2 => ?_) (List.pairwise_mergeSort tr to ss) ((zDr ks).imp fun {a b} h => by simpa [leI] using h) (((List.mergeSort_perm ss leI).trans h).trans (zAb ks).symm)
 simp only [leI, decide_eq_true_eq] at h1 h2
 exact Int.le_antisymm h1 h2
def zDs : List MapEntry → Option (List Int)
 | [] => some []
 | e :: l => match e.key with
  | .int .i64 k => bif decide (-9223372036854775808 ≤ k) && decide (k ≤ 9223372036854775807) then (zDs l).map (k :: ·) else none
  | _ => none
def nodupI : List Int → Bool
 | [] => true
 | x :: l => (l.all fun y => !decide (x = y)) && nodupI l
theorem zJi : ∀ {l : List Int}, nodupI l = true → l.Nodup
 | [], _ => .nil
 | x :: l, h => by
  simp only [nodupI, Bool.and_eq_true] at h
  refine List.nodup_cons.2 ⟨fun hx => ?_, zJi h.2⟩
  have := List.all_eq_true.1 h.1 x hx
  simp at this
theorem zKu {E : Env} : ∀ {es l : List MapEntry} {ks : List Int}, zDs es = some ks → ML E es l → l.map (·.key) = ks.map (Value.int .i64) ∧ ∀ k ∈ ks, -9223372036854775808 ≤ k ∧ k ≤ 9223372036854775807
 | [], _, ks, h, .nil => by simp [zDs] at h; subst h; simp
 | e :: es, _, ks, h, .cons _ e' _ l' hk hv ht => by
  unfold zDs at h
  split at h
  ·rename_i k hke
   cases hc : (decide (-9223372036854775808 ≤ k) && decide (k ≤ 9223372036854775807)) with
   | false => simp [hc] at h
   | true =>
    simp only [hc, cond_true, Option.map_eq_some_iff] at h
    obtain ⟨ks', h1, rfl⟩ := h
    obtain ⟨h2, h3⟩ := zKu h1 ht
    rw [hke] at hk
    simp only [Bool.and_eq_true, decide_eq_true_eq] at hc
    refine ⟨by simp [h2, hk.int_eq], fun k' hk' => ?_⟩
    rcases List.mem_cons.1 hk' with rfl | hk'
    ·exact hc
    ·exact h3 k' hk'
  ·cases h
def anyR {H : Type} : Value → Option (DataW H × List MemPlace) := fun _ => some (.nil, [])
def intOfV : Value → Int
 | .int _ a => a
 | _ => 0
theorem list_end {P : Program} {E : Env} {H : Tr AObj} {n : Nat} {w w' : World} {e : TypeId} {sz : Nat} {xs : List Value} {len : Nat} {v : Value} (hE : HR P E H.get w) (hf : len ≠ 0 → Free E n (n + 1)) (hx : plainL xs = true) (hi : (P.info? e).map (·.size) = some sz) (hne : P.underlying e ≠ some (.int .u8))
  (hb : Below w.heap.size w w') (hrow : w'.ownsRow w.heap.size e sz v len xs) (hz0 : len = 0 → v = .slice none 0 0) : CallEnd P E n w (listOut e sz xs len id H n) (.returned v) w' := by
 unfold listOut
 cases hz : len.beq 0 with
 | true =>
  have hz := Nat.eq_of_beq_eq_true hz
  simp only [cond_true]
  have hv := hz0 hz
  subst hv
  obtain ⟨b1, b2, b3, b4, b5⟩ := hb
  refine ⟨E, _, rfl, .snil 0 0, .refl E, .refl E _, ⟨fun id hd => Nat.lt_of_lt_of_le (hE.lt id hd) b4, hE.dom, fun id o ho => ?_, hE.inj, hE.ro, hE.fz_below b5, hE.fn, Nat.lt_of_lt_of_le hE.pos b4⟩, .refl E, b1, b2, b3, b4, fun b hb _ => b5 b hb, fun id h1 h2 => absurd h2 h1, fun _ _ h => .inl h⟩
  have hd := hE.live (id := id) (by rw [ho]; simp)
  exact (hE.obj id o ho).mono (.refl E) hd (b5 _ (hE.lt id hd))
 | false =>
  have hz : len ≠ 0 := fun e => by subst e; simp at hz
  simp only [cond_false]
  obtain ⟨hxl, hown⟩ := hrow
  rcases hown with ⟨_, h0⟩ | ⟨g, cap, cur, rfl, hg, hc, h1, h2, h3, h4⟩
  ·exact absurd h0 hz
  ·have hnd : ¬ E.dom n := hf hz n (Nat.le_refl _) (by omega)
   have hle : xs.length ≤ cur.size := by
    rw [h3, hxl]; exact Nat.mul_le_mul_right _ h1
   obtain ⟨k1, k2⟩ := hr_fresh hE hnd hb hg hc hi (xs := xs) (by rw [hxl]; exact h4) hx hle hne
   refine ⟨_, _, rfl, ?_, k2.ext, dom1, by rw [zCg]; exact k1, k2⟩
   have := VR.su (E := E.push n g cur.size sz) n 0 len cap (E.push_dom n g cur.size sz) h1 h2 (by rw [Env.push_sz, Env.push_tot, h3]; omega)
   rwa [Env.push_ρ, Env.push_sh] at this
def zBt (l : List Value) (H : Tr AObj) : Option (List Int) :=
 match l with
 | [.func (.func g) fs cap] =>
  bif g.beq 38 && fs.size.beq 0 then
   (match cap.toList with
   | [.pointer (some ⟨c, 0, none⟩)] => (match H.get c with
    | some (.cells [.map (some mb)] _) => (match H.get mb with
     | some (.map es _) => (match zDs es with
      | some ks => bif nodupI ks && ks.length.ble 1000000 then some ks else none
      | none => none)
     | _ => none)
    | _ => none)
   | _ => none)
  else none
 | _ => none
theorem sorts_law (m : Nat) : AnyZI.SortsIn Try.prog zFm Fence.wide m :=
 ⟨fun blk off cap ss W hH hblk hsz => callsIn_wide.2 (AnyM.slices_Sort_int zQy blk off cap ss W hH hblk hsz),
  fun p cap W => callsIn_wide.2 (AnyM.slices_Sort_int_none zQy p cap W)⟩
theorem zSr {l : List Value} {H : Tr AObj} {ks : List Int} (h : zBt l H = some ks) : ∀ (E : Env) (w : World) (args' : Array Value), VL E l args'.toList → HR Try.prog E H.get w → CallsIn Fence.wide 0 Try.prog 28 args' w fun e w' => ∃ v, e = .returned v ∧ Below w.heap.size w w' ∧ w'.ownsRow w.heap.size 3 1 v ks.length ((isortI ks).map (Value.int .i64)) ∧ (ks.length = 0 → v = .slice none 0 0) := by
  intro E w args' hva hE
  unfold zBt at h
  split at h
  case h_2 => cases h
  rename_i g fs cap
  cases hg : (g.beq 38 && fs.size.beq 0) with
  | false => simp [hg] at h
  | true =>
  simp only [hg, cond_true] at h
  simp only [Bool.and_eq_true] at hg
  have hg1 := Nat.eq_of_beq_eq_true hg.1
  have hg2 := Nat.eq_of_beq_eq_true hg.2
  subst hg1
  split at h
  case h_2 => cases h
  rename_i c hcap
  split at h
  case h_2 => cases h
  rename_i mb bt hHc
  split at h
  case h_2 => cases h
  rename_i es ck hHm
  split at h
  case h_2 => cases h
  rename_i ks' hks
  cases hnd : (nodupI ks' && ks'.length.ble 1000000) with
  | false => simp [hnd] at h
  | true =>
  simp only [hnd, cond_true, Option.some.injEq] at h
  subst h
  simp only [Bool.and_eq_true] at hnd
  have hlen : ks'.length ≤ 1000000 := Nat.le_of_ble_eq_true hnd.2
  have hnodup := zJi hnd.1
  have hsh : E.sh c = 0 := by obtain ⟨_, _, _, _, _, _, _, _, h7, _⟩ := hE.obj c _ hHc; exact h7
  have harg : args' = #[.func (.func 38) #[] #[.pointer (some ⟨E.ρ c, 0, none⟩)]] := by
   have hv : ∃ v', args'.toList = [v'] ∧ VR E (.func (.func 38) fs cap) v' := by
    generalize args'.toList = x at hva
    cases hva with | cons _ v' _ l' hv ht => cases ht; exact ⟨v', rfl, hv⟩
   obtain ⟨v', h1, h2⟩ := hv
   have : v' = .func (.func 38) #[] #[.pointer (some ⟨E.ρ c, 0, none⟩)] := by
    cases h2 with
    | func _ _ fs' _ cap' _ ha hc =>
     have e1 : fs' = #[] := by
      have : fs'.toList.length = 0 := by rw [← ha.length, Array.length_toList, hg2]
      exact Array.ext' (List.eq_nil_of_length_eq_zero this)
     have e2 : cap' = #[.pointer (some ⟨E.ρ c, 0, none⟩)] := by
      rw [hcap] at hc
      generalize hy : cap'.toList = y at hc
      cases hc with
      | cons _ u _ l' hu ht =>
       cases ht
       cases hu
       rw [hsh] at hy
       exact Array.ext' hy
     rw [e1, e2]
   rw [this] at h1
   exact Array.ext' h1
  subst harg
  obtain ⟨es', hb, hmp⟩ := hE.obj mb _ hHm
  obtain ⟨cell', hc1, _, hc3⟩ := zAt (hE.obj c _ hHc) 0 (.map (some mb)) rfl
  have hc2 : cell' = .map (some (E.ρ mb)) := by cases hc3; rfl
  subst hc2
  have hclt : E.ρ c < w.heap.size := hE.lt c (hE.live (by rw [hHc]; simp))
  obtain ⟨pl, hperm, hml⟩ := hmp.perm
  obtain ⟨hkeys, hrange⟩ := zKu hks hml
  have hkp : (ks'.map (Value.int .i64)).Perm (es'.toList.map (·.key)) := by rw [← hkeys]; exact hperm.map _
  have hread : ∀ x ∈ es'.toList, ∃ k : Int, k ∈ ks' ∧ x.key = .int .i64 k := fun x hx => by
   have : x.key ∈ ks'.map (Value.int .i64) := hkp.mem_iff.2 (List.mem_map.2 ⟨x, hx, rfl⟩)
   obtain ⟨k, hk, e⟩ := List.mem_map.1 this
   exact ⟨k, hk, e.symm⟩
  have hkey : ∀ x ∈ es'.toList, ∃ k : Int, k ∈ ks' ∧ x.key = .int .i64 k ∧ keyOf Try.prog 3 x.key = some (.int .i64 k) := fun x hx => by
   obtain ⟨k, hk, e⟩ := hread x hx
   refine ⟨k, hk, e, ?_⟩
   rw [e]
   have := hrange k hk
   have e1 : IntKind.min .i64 = -9223372036854775808 := by decide
   have e2 : IntKind.max .i64 = 9223372036854775807 := by decide
   exact keyOf_int_mk Try.underlying3 (by simp only [Lit.wf, Bool.and_eq_true, decide_eq_true_eq, e1, e2]; exact this)
  have hsize : es'.size = ks'.length := by have := hkp.length_eq; simpa using this.symm
  have hfit : Fit Try.prog 3 (anyR (H := Unit)) es' ck := ⟨by rw [hsize]; unfold maxLen; omega, ⟨hmp.lt, hmp.nd, (hkp.nodup_iff).1 (List.pairwise_map.2 (hnodup.imp fun {a b} hne e => hne (by simpa using e)))⟩, fun x hx => by
   obtain ⟨k, _, _, hk⟩ := hkey x hx
   exact ⟨_, rd_mk hk (by rfl)⟩⟩
  obtain ⟨D0, hD0⟩ : ∃ D0 : DataW Unit, D0 = .map ((es'.toList.map (rg Try.prog 3 (anyR (H := Unit)))).foldr DataW.insert []) := ⟨_, rfl⟩
  have hown : w.ownsMap Try.prog 3 (anyR (H := Unit)) (E.ρ mb) es'.size D0 := ⟨es', ck, hb, hfit, Nat.le_refl _, hD0⟩
  have hik : (Go.intKeys D0).Perm ks' := by
   have h1 : (Go.intKeys D0).Perm ((es'.toList.map (rg Try.prog 3 (anyR (H := Unit)))).map fun p => Go.intOf p.1) := by
    rw [hD0]
    exact (Go.WideShapes.sorted_perm _).map _
   refine h1.trans ?_
   have h2 : ((es'.toList.map (rg Try.prog 3 (anyR (H := Unit)))).map fun p => Go.intOf p.1).map (Value.int .i64) = es'.toList.map (·.key) := by
    rw [List.map_map, List.map_map]
    refine List.map_congr_left fun x hx => ?_
    obtain ⟨k, _, e, hk⟩ := hkey x hx
    have : rd Try.prog 3 (anyR (H := Unit)) x = some (.int .i64 k, .nil) := by
     cases x; exact rd_mk (R := anyR (H := Unit)) (yv := (.nil, [])) hk rfl
    show Value.int .i64 (Go.intOf (rg Try.prog 3 (anyR (H := Unit)) x).1) = x.key
    rw [rg_of this, e]; rfl
   have h3 : (((es'.toList.map (rg Try.prog 3 (anyR (H := Unit)))).map fun p => Go.intOf p.1).map (Value.int .i64)).Perm (ks'.map (Value.int .i64)) := by rw [h2]; exact hkp.symm
   have h4 := h3.map intOfV
   simpa [List.map_map, Function.comp_def, intOfV] using h4
  have hms : Maps.size D0 = es'.size := by
   rw [hD0]
   show List.length _ = _
   rw [(Go.WideShapes.sorted_perm _).length_eq]; simp
  have hseq : SeqGives Fence.wide 2 Try.prog 38 #[.pointer (some ⟨E.ρ c, 0, none⟩)] encZ (fun ss => ss.Perm (Go.intKeys D0)) (Maps.size D0) w :=
   AnyZI.keys_gives (ρ := zHu) { lay_keys with } Fence.wide 2 trivial rfl (by omega) (E.ρ c) (E.ρ mb) es'.size D0 w hclt hc1 hown
  have cS := AnyZI.sorted_in zSf Fence.wide 5 trivial trivial trivial trivial rfl (by omega) (sorts_law _) (enters_of Try.func37 (by kernel_rfl) rfl) 38 #[.pointer (some ⟨E.ρ c, 0, none⟩)] trivial (enters_of Try.func38 (by kernel_rfl) rfl) _ _ (by rw [hms, hsize]; unfold maxLen; omega) (by rw [hms, hsize]; omega) w hseq
  change CallsIn _ _ Try.prog 28 _ _ _ at cS
  refine (callsIn_wide.2 (callsIn_wide.1 cS)).mono ?_
  rintro e w' ⟨v, ss, rfl, hS, hrow, hnil, hbel⟩
  have hsk : ss.Perm ks' := hS.trans hik
  have hrow' : w'.ownsRow w.heap.size 3 1 v ks'.length ((isortI ks').map (Value.int .i64)) := by
   have := hrow
   rw [zSq hsk, hsk.length_eq] at this
   exact this
  exact ⟨v, rfl, hbel, hrow', fun h0 => hnil.2 (List.eq_nil_of_length_eq_zero (by rw [hsk.length_eq]; exact h0))⟩
theorem zNz {l : List Value} {H : Tr AObj} {n : Nat} {ks : List Int} (h : zBt l H = some ks) : TOK Try.prog 0 (.call 28 l) ⟨.e, H, n, [], []⟩ (listOut 3 1 ((isortI ks).map (Value.int .i64)) ks.length id H n) := by
 have main : ∀ (E : Env) (w : World) (args' : Array Value), VL E l args'.toList → HR Try.prog E H.get w → (ks.length ≠ 0 → Free E n (n + 1)) → CallsIn Fence.wide 0 Try.prog 28 args' w (CallEnd Try.prog E n w (listOut 3 1 ((isortI ks).map (Value.int .i64)) ks.length id H n)) := by
  intro E w args' hva hE hf
  refine (zSr h E w args' hva hE).mono ?_
  rintro e w' ⟨v, rfl, hbel, hrow', hnil⟩
  refine list_end hE hf ?_ (by kernel_rfl) (fun h => by rw [Try.underlying3] at h; cases h) hbel hrow' hnil
  simp [plainL, plainV]
 unfold listOut at main ⊢
 cases hz : ks.length.beq 0 with
 | true =>
  simp only [hz, cond_true] at main ⊢
  exact ⟨Grw.refl _ _ _, fun E w args' hgl hva hE hl hf => main E w args' hva hE (fun h0 => absurd (Nat.eq_of_beq_eq_true hz) h0)⟩
 | false =>
  simp only [hz, cond_false] at main ⊢
  exact ⟨⟨Nat.le_succ _, fun k hk _ => Tr.get_set_ne _ _ (by have hk : k < n := hk; omega), fun h0 => h0.new _⟩, fun E w args' hgl hva hE hl hf => main E w args' hva hE (fun _ => hf)⟩
def zMy : Ct Try.prog 0 where
 f := 28
 res l H n := match zBt l H with | some ks => listOut 3 1 ((isortI ks).map (Value.int .i64)) ks.length id H n | none => .bad "sorted" []
 ok l H n := by
  cases h : zBt l H with
  | none => trivial
  | some ks => exact zNz h
 ck l H n K := match zBt l H with | some ks => K (listOut 3 1 ((isortI ks).map (Value.int .i64)) ks.length id H n) | none => False
 imp l H n K h := by
  cases hs : zBt l H with
  | none => rw [hs] at h; exact h.elim
  | some ks => rw [hs] at h; exact h
end Go.Proofs.Ytpdeidlkeplegaa
namespace Go.Proofs.Ytpdeidlkeplegaa
open Go Go.RowKit
theorem wrapN {x : Int} (h1 : 0 ≤ x) (h2 : x < 9223372036854775808) : IntKind.i64.wrap x = x := zRn (by omega) h2
structure CliX where
 n : Int
 w : Int
 i : Bool
def CliX.val (c : CliX) : Value := .agg #[.int .i64 c.w, .bool c.i]
def CliX.e (c : CliX) : MapEntry := { key := .int .i64 c.n, val := .agg #[.int .i64 c.w, .bool c.i], born := 0 }
def encC (l : List CliX) : List MapEntry := l.map CliX.e
theorem zEx (a b : List CliX) : encC (a ++ b) = encC a ++ encC b := List.map_append
theorem zLv (a : Int) (c : CliX) : eqK Try.prog 3 (.int .i64 a) c.e = some (a == c.n) := by kernel_rfl
theorem zJf (em : Bool) (a : Int) : keyOk Try.prog 3 em (.int .i64 a) = true := by cases em <;> kernel_rfl
theorem zDc (l : List CliX) : zAe (encC l) = true := by
 unfold zAe encC
 rw [List.all_map]
 exact List.all_eq_true.2 fun _ _ => rfl
def keysC (l : List CliX) : List Int := l.map CliX.n
theorem zGy {a : Int} : ∀ {l : List CliX} (i : Nat), a ∉ keysC l → zCj Try.prog 3 (.int .i64 a) (encC l) i = some none
 | [], _, _ => rfl
 | c :: l, i, h => by
  have h1 : (a == c.n) = false := by
   have : a ≠ c.n := fun e => h (by rw [e]; exact List.mem_cons_self ..)
   simpa using this
  show zCj _ _ _ (c.e :: encC l) i = _
  unfold zCj
  rw [zLv, h1]
  exact zGy (i + 1) (fun hm => h (List.mem_cons_of_mem _ hm))
theorem zFb {c : CliX} {B : List CliX} : ∀ {A : List CliX} (i : Nat), (keysC (A ++ c :: B)).Nodup → zCj Try.prog 3 (.int .i64 c.n) (encC (A ++ c :: B)) i = some (some (i + A.length, c.val))
 | [], i, hn => by
  have hn : (c.n :: keysC B).Nodup := hn
  rw [List.nodup_cons] at hn
  show zCj _ _ _ (c.e :: encC B) i = _
  unfold zCj
  rw [zLv, show (c.n == c.n) = true by simp]
  have hall : ∀ x ∈ encC B, eqK Try.prog 3 (.int .i64 c.n) x = some false := fun x hx => by
   obtain ⟨d, hd, rfl⟩ := List.mem_map.1 hx
   have : (c.n == d.n) = false := by
    have : c.n ≠ d.n := fun e => hn.1 (by rw [e]; exact List.mem_map_of_mem hd)
    simpa using this
   rw [zLv, this]
  have key : ∀ (p : MapEntry → Bool), (∀ x ∈ encC B, p x = true) → (encC B).all p = true := fun p hp => List.all_eq_true.2 hp
  simp only []
  rw [key]
  ·rfl
  ·intro x hx
   rw [hall x hx]
 | d :: A, i, hn => by
  have hn : (d.n :: keysC (A ++ c :: B)).Nodup := hn
  rw [List.nodup_cons] at hn
  have h1 : (c.n == d.n) = false := by
   have : c.n ≠ d.n := fun e => hn.1 (by rw [← e]; exact List.mem_map_of_mem (by simp))
   simpa using this
  show zCj _ _ _ (d.e :: encC (A ++ c :: B)) i = _
  unfold zCj
  rw [zLv, h1]
  have := zFb (A := A) (i + 1) hn.2
  rw [List.length_cons, show i + (A.length + 1) = i + 1 + A.length by omega]
  exact this
theorem encC_rm {σ : Nat → Nat → Prop} (l : List CliX) : RM σ (encC l) (encC l) := by
 induction l with
 | nil => exact .nil
 | cons x l ih => exact .cons _ _ _ _ (.int _ _) (.agg _ _ (.cons _ _ _ _ (.int _ _) (.cons _ _ _ _ (.bool _) .nil))) ih
theorem zAf {σ : Nat → Nat → Prop} (l : List CliX) (k : Nat) : RO Try.prog σ (.map (encC l) k) (.map (encC l) k) := RO.map _ _ _ (encC_rm _)
theorem splitC {l : List CliX} {a : Int} (h : a ∈ keysC l) : ∃ A c B, l = A ++ c :: B ∧ c.n = a := by
 obtain ⟨c, hc, rfl⟩ := List.mem_map.1 h
 obtain ⟨A, B, rfl⟩ := List.append_of_mem hc
 exact ⟨A, c, B, rfl, rfl⟩
def getC (l : List CliX) (a : Int) : Option CliX := l.find? fun c => c.n == a
def whenC (l : List CliX) (a : Int) : Int := ((getC l a).map CliX.w).getD 0
def idleC (l : List CliX) (a : Int) : Bool := ((getC l a).map CliX.i).getD false
def hasC (l : List CliX) (a : Int) : Bool := (getC l a).isSome
def putC (l : List CliX) (a w : Int) (b : Bool) : List CliX := if hasC l a then l.map (fun c => if c.n == a then ⟨a, w, b⟩ else c) else l ++ [⟨a, w, b⟩]
def delC (l : List CliX) (a : Int) : List CliX := l.filter fun c => !(c.n == a)
theorem getC_none {l : List CliX} {a : Int} (h : a ∉ keysC l) : getC l a = none := by
 unfold getC
 rw [List.find?_eq_none]
 intro c hc
 have : c.n ≠ a := fun e => h (by rw [← e]; exact List.mem_map_of_mem hc)
 simpa using this
theorem zQo {A B : List CliX} {c : CliX} (hn : (keysC (A ++ c :: B)).Nodup) : getC (A ++ c :: B) c.n = some c := by
 unfold getC
 have hA : A.find? (fun x => x.n == c.n) = none := by
  rw [List.find?_eq_none]
  intro d hd e
  unfold keysC at hn
  rw [List.map_append, List.nodup_append] at hn
  exact hn.2.2 d.n (List.mem_map_of_mem hd) c.n (by simp) (by simpa using e)
 rw [List.find?_append, hA]
 simp
theorem zQv {A B : List CliX} {c : CliX} (hn : (keysC (A ++ c :: B)).Nodup) : (∀ d ∈ A, (d.n == c.n) = false) ∧ ∀ d ∈ B, (d.n == c.n) = false := by
 unfold keysC at hn
 rw [List.map_append, List.map_cons, List.nodup_append, List.nodup_cons] at hn
 refine ⟨fun d hd => ?_, fun d hd => ?_⟩
 ·have : d.n ≠ c.n := hn.2.2 d.n (List.mem_map_of_mem hd) c.n (List.mem_cons_self ..)
  simpa using this
 ·have : d.n ≠ c.n := fun e => hn.2.1.1 (by rw [← e]; exact List.mem_map_of_mem hd)
  simpa using this
theorem zBd {l : List CliX} {a : Int} : hasC l a = true ↔ a ∈ keysC l := by
 unfold hasC getC keysC
 rw [List.find?_isSome]
 constructor
 ·rintro ⟨c, hc, e⟩
  have e : c.n = a := by simpa using e
  exact e ▸ List.mem_map_of_mem hc
 ·intro h
  obtain ⟨c, hc, rfl⟩ := List.mem_map.1 h
  exact ⟨c, hc, by simp⟩
theorem putC_mid {A B : List CliX} {c : CliX} (hn : (keysC (A ++ c :: B)).Nodup) (w : Int) (b : Bool) : putC (A ++ c :: B) c.n w b = A ++ ⟨c.n, w, b⟩ :: B := by
 obtain ⟨h1, h2⟩ := zQv hn
 unfold putC
 rw [if_pos (by unfold hasC; rw [zQo hn]; rfl), List.map_append, List.map_cons]
 congr 1
 ·conv => rhs; rw [← List.map_id A]
  exact List.map_congr_left fun d hd => by rw [if_neg (by rw [h1 d hd]; simp)]; rfl
 ·congr 1
  ·rw [if_pos (by simp)]
  ·conv => rhs; rw [← List.map_id B]
   exact List.map_congr_left fun d hd => by rw [if_neg (by rw [h2 d hd]; simp)]; rfl
theorem zLt {A B : List CliX} {c : CliX} (hn : (keysC (A ++ c :: B)).Nodup) : delC (A ++ c :: B) c.n = A ++ B := by
 obtain ⟨h1, h2⟩ := zQv hn
 unfold delC
 rw [List.filter_append, List.filter_cons_of_neg (by simp), List.filter_eq_self.2 fun d hd => by rw [h1 d hd]; rfl, List.filter_eq_self.2 fun d hd => by rw [h2 d hd]; rfl]
section
variable {ev : Operand → Value} {G : Gh} {n : Nat} {o : Oper}
theorem aop_cliY {t e : TypeId} {x y : Operand} {r ck : Nat} {A B : List CliX} {c : CliX} {ok : Bool} (ho : o.op = .lookup t x y ok) (hx : ev x = .map (some r)) (hy : ev y = .int .i64 c.n) (hu : Try.prog.underlying t = some (.map 3 e)) (hG : G r = some (.map (encC (A ++ c :: B)) ck)) (hn : (keysC (A ++ c :: B)).Nodup) :
  aop Try.prog o ev G n = .val (bif ok then .tuple #[c.val, .bool true] else c.val) [] 0 := by
 unfold aop aop0 aStr
 simp only [ho, ORes.or]
 unfold zFn
 simp only [hu, hx, hy, hG, Try.underlying3, zDc, zJf, Bool.and_self, cond_true, zFb 0 hn]
theorem aop_cliN {t e : TypeId} {x y : Operand} {r ck : Nat} {l : List CliX} {a : Int} {ok : Bool} (ho : o.op = .lookup t x y ok) (hx : ev x = .map (some r)) (hy : ev y = .int .i64 a) (hu : Try.prog.underlying t = some (.map 3 e)) (hz : ((Try.prog.info? e).bind (·.zero)) = some (.agg #[.int .i64 0, .bool false])) (hG : G r = some (.map (encC l) ck)) (h : a ∉ keysC l) :
  aop Try.prog o ev G n = .val (bif ok then .tuple #[.agg #[.int .i64 0, .bool false], .bool false] else .agg #[.int .i64 0, .bool false]) [] 0 := by
 obtain ⟨i, h1, h2⟩ := Option.bind_eq_some_iff.1 hz
 unfold aop aop0 aStr
 simp only [ho, ORes.or]
 unfold zFn
 simp only [hu, hx, hy, hG, Try.underlying3, zDc, zJf, Bool.and_self, cond_true, zGy 0 h, h1, h2]
 rfl
theorem aop_cliU {t e : TypeId} {x y z : Operand} {r ck : Nat} {A B : List CliX} {c : CliX} {w : Int} {b : Bool} (ho : o.op = .mapUpdate t x y z) (hx : ev x = .map (some r)) (hy : ev y = .int .i64 c.n) (hz : ev z = .agg #[.int .i64 w, .bool b]) (hu : Try.prog.underlying t = some (.map 3 e)) (hG : G r = some (.map (encC (A ++ c :: B)) ck)) (hn : (keysC (A ++ c :: B)).Nodup) :
  aop Try.prog o ev G n = .val undef [(r, some (.map (encC (A ++ ⟨c.n, w, b⟩ :: B)) ck))] 0 := by
 have hsb : ∀ a : Int, Instr.sameBits 10000 (.int .i64 a) (.int .i64 a) = true := fun a => by unfold Instr.sameBits; simp
 have hkey : (((encC (A ++ c :: B))[0 + A.length]?).map (·.key)).getD (.int .i64 c.n) = .int .i64 c.n := by
  rw [zEx, List.getElem?_append_right (by simp [encC]), show 0 + A.length - (encC A).length = 0 by simp [encC]]
  rfl
 unfold aop aop0 aStr
 simp only [ho, ORes.or]
 unfold zEi
 simp only [hu, hx, hy, hz, hG, Try.underlying3, zDc, zJf, Bool.and_self, cond_true, zFb 0 hn, hkey, hsb]
 have : modE (encC (A ++ c :: B)) (0 + A.length) (.int .i64 c.n) (.agg #[.int .i64 w, .bool b]) = encC (A ++ ⟨c.n, w, b⟩ :: B) := by
  unfold modE
  rw [zEx, zEx, Nat.zero_add, show A.length = (encC A).length by simp [encC]]
  exact zHe _
 rw [this]
theorem zLl {t e : TypeId} {x y z : Operand} {r ck : Nat} {l : List CliX} {a w : Int} {b : Bool} (ho : o.op = .mapUpdate t x y z) (hx : ev x = .map (some r)) (hy : ev y = .int .i64 a) (hz : ev z = .agg #[.int .i64 w, .bool b]) (hu : Try.prog.underlying t = some (.map 3 e)) (hG : G r = some (.map (encC l) ck)) (h : a ∉ keysC l) :
  aop Try.prog o ev G n = .val undef [(r, some (.map (encC (l ++ [⟨a, w, b⟩])) (ck + 1)))] 0 := by
 unfold aop aop0 aStr
 simp only [ho, ORes.or]
 unfold zEi
 simp only [hu, hx, hy, hz, hG, Try.underlying3, zDc, zJf, Bool.and_self, cond_true, zGy 0 h]
 rw [zEx]; rfl
theorem aop_cliD {t e xT : TypeId} {x y : Operand} {r ck : Nat} {A B : List CliX} {c : CliX} (ho : o.op = .call ⟨.builtin .delete, #[x, y], #[t, xT]⟩) (hx : ev x = .map (some r)) (hy : ev y = .int .i64 c.n) (hu : Try.prog.underlying t = some (.map 3 e)) (hG : G r = some (.map (encC (A ++ c :: B)) ck)) (hn : (keysC (A ++ c :: B)).Nodup) :
  aop Try.prog o ev G n = .val (.tuple #[]) [(r, some (.map (encC (A ++ B)) ck))] 0 := by
 unfold aop aop0 aStr
 simp only [ho, ORes.or, zCo, List.map_cons, List.map_nil]
 unfold zLg
 simp only [hu, hx, hy, hG, Try.underlying3, zDc, zJf, Bool.and_self, cond_true, zFb 0 hn]
 have : (encC (A ++ c :: B)).eraseIdx (0 + A.length) = encC (A ++ B) := by
  rw [zEx, zEx, Nat.zero_add, show A.length = (encC A).length by simp [encC]]
  exact zIt
 rw [this]
theorem zDh {t e : TypeId} {x y : Operand} {r ck : Nat} {l : List CliX} {a : Int} {ok : Bool} (ho : o.op = .lookup t x y ok) (hx : ev x = .map (some r)) (hy : ev y = .int .i64 a) (hu : Try.prog.underlying t = some (.map 3 e)) (hz : ((Try.prog.info? e).bind (·.zero)) = some (.agg #[.int .i64 0, .bool false])) (hG : G r = some (.map (encC l) ck)) (hn : (keysC l).Nodup) :
  aop Try.prog o ev G n = .val (bif ok then .tuple #[.agg #[.int .i64 (whenC l a), .bool (idleC l a)], .bool (hasC l a)] else .agg #[.int .i64 (whenC l a), .bool (idleC l a)]) [] 0 := by
 by_cases h : a ∈ keysC l
 ·obtain ⟨A, c, B, rfl, rfl⟩ := splitC h
  rw [aop_cliY ho hx hy hu hG hn]
  unfold whenC idleC hasC
  rw [zQo hn]; rfl
 ·rw [aop_cliN ho hx hy hu hz hG h]
  unfold whenC idleC hasC
  rw [getC_none h]; rfl
theorem zQd {t e : TypeId} {x y z : Operand} {r ck : Nat} {l : List CliX} {a w : Int} {b : Bool} (ho : o.op = .mapUpdate t x y z) (hx : ev x = .map (some r)) (hy : ev y = .int .i64 a) (hz : ev z = .agg #[.int .i64 w, .bool b]) (hu : Try.prog.underlying t = some (.map 3 e)) (hG : G r = some (.map (encC l) ck)) (hn : (keysC l).Nodup) :
  aop Try.prog o ev G n = .val undef [(r, some (.map (encC (putC l a w b)) (bif hasC l a then ck else ck + 1)))] 0 := by
 by_cases h : a ∈ keysC l
 ·have hh := zBd.2 h
  obtain ⟨A, c, B, rfl, rfl⟩ := splitC h
  rw [aop_cliU ho hx hy hz hu hG hn, putC_mid hn, hh]; rfl
 ·have hh : hasC l a = false := by cases hb : hasC l a; rfl; exact absurd (zBd.1 hb) h
  rw [zLl ho hx hy hz hu hG h, hh]
  unfold putC
  rw [if_neg (by rw [hh]; simp)]; rfl
theorem aop_cliR {t e xT : TypeId} {x y : Operand} {r ck : Nat} {l : List CliX} {a : Int} (ho : o.op = .call ⟨.builtin .delete, #[x, y], #[t, xT]⟩) (hx : ev x = .map (some r)) (hy : ev y = .int .i64 a) (hu : Try.prog.underlying t = some (.map 3 e)) (hG : G r = some (.map (encC l) ck)) (hn : (keysC l).Nodup) (h : hasC l a = true) :
  aop Try.prog o ev G n = .val (.tuple #[]) [(r, some (.map (encC (delC l a)) ck))] 0 := by
 obtain ⟨A, c, B, rfl, rfl⟩ := splitC (zBd.1 h)
 rw [aop_cliD ho hx hy hu hG hn, zLt hn]
end
end Go.Proofs.Ytpdeidlkeplegaa
namespace Go.Proofs.Ytpdeidlkeplegaa
open Go Go.RowKit
def iV (a : Int) : Value := .int .i64 a
def fnV (g cb : Nat) : Value := .func (.func g) #[] #[.pointer (some ⟨cb, 0, none⟩)]
def tabO (most : Int) (mb : Nat) : AObj := .cells [.int .i64 most, .map (some mb)] 54
def boxO (tb : Nat) : AObj := .cells [.pointer (some ⟨tb, 0, none⟩)] 24
def tblH (C : List Int) (most : Int) (l : List CliX) (ck : Nat) : Tr AObj := heap 3 [(0, .cells (C.map iV) 3), (1, boxO 2), (2, tabO most 3), (3, .map (encC l) ck)]
theorem zBe (C : List Int) : plainL (C.map iV) = true := by simp [plainL, plainV, iV]
theorem zCw {σ : Nat → Nat → Prop} {a b : Nat} (h : σ a b) : RO Try.prog σ (boxO a) (boxO b) := RO.cells _ [] _ _ (.cons _ _ _ _ (.ptr _ _ _ h) .nil)
theorem zAh {σ : Nat → Nat → Prop} {most : Int} {a b : Nat} (h : σ a b) : RO Try.prog σ (tabO most a) (tabO most b) := RO.cells _ [] _ _ (.cons _ _ _ _ (.int _ _) (.cons _ _ _ _ (.map _ _ h) .nil))
def ixF (l : List CliX) : List Int → Option Nat
 | [] => none
 | a :: L => if idleC l a then (ixF l L).map (· + 1) else some 0
def ixV (l : List CliX) (L : List Int) : Int := match ixF l L with | some i => (i : Int) | none => -1
noncomputable def inl_g1 : Ct Try.prog 0 := Ct.inl (tbOf mixed []) mixed [900005] 31 Try.f31 Try.func31 (bodyOf Try.f31) (by kernel_rfl)
noncomputable def tbTq2 : Tb Try.prog 0 := tbOf mixed [inl_g1]
theorem zEd : ((Try.prog.info? 62).bind (·.zero)) = some (.agg #[.int .i64 0, .bool false]) := by kernel_rfl
theorem ix_fn (L : List Int) (most : Int) (l : List CliX) (ck : Nat) (hn : (keysC l).Nodup) (hL : L.length ≤ 1000000) : ∃ r, FnS Try.prog 0 39 [.slice (some ⟨0, 0, none⟩) L.length U, fnV 31 1] (tblH L most l ck) 4 r ∧ ∃ H m wr, r = .ret (.int .i64 (ixV l L)) H m wr ∧ ∀ k ∈ wr, 4 ≤ k := by
 refine zCv mixed tbTq2 [0] Try.func39 (c := bodyOf Try.f39) (by kernel_rfl) ?_
 refine zCa (fun (i : Nat) f => ⟨slots 5 [(0, .slice (some ⟨0, 0, none⟩) L.length U), (1, fnV 31 1), (7, .int .i64 (L.length : Nat)), (8, .int .i64 (i : Nat))] f, tblH L most l ck, 4, [], []⟩) (fun i => L.length - i) (fun i => i ≤ L.length ∧ ixF l L = (ixF l (L.drop i)).map (· + i)) 0 ⟨Nat.zero_le _, by rw [List.drop_zero]; cases ixF l L <;> rfl⟩ (rcq [] ⟨⟨_, rfl, .sl _ _ _ _ _ rfl⟩, ⟨_, rfl, .func _ _ _ _ _ rfl .nil (.cons _ _ _ _ (.ptr _ _ _ rfl) .nil)⟩, ⟨_, rfl, .int _ _⟩, ⟨_, rfl, .int _ _⟩, trivial⟩ ⟨bpo (zBe L), ⟨by decide, _, rfl, zCw rfl⟩, ⟨by decide, _, rfl, zAh rfl⟩, ⟨by decide, _, rfl, zAf l ck⟩, trivial⟩ .nil) ?_
 rintro i f ⟨hi, heq⟩
 have hi : i ≤ L.length := hi
 refine zEa tbTq2 [0] 4 _ none mixed _ _ _ ?_
 refine ifK (fun h1 => ?_) (fun h1 => ?_)
 ·have h1 : i < L.length := by have h1 : ((i : Nat) : Int) < (L.length : Int) := of_decide_eq_true h1; omega
  refine ifK (fun _ => ?_) (fun h2 => absurd h2 (by simp [inI]; omega))
  refine Exists.intro L[i] (And.intro (by show (L.map iV)[0 + (i : Int).toNat * 1]? = _; simp [h1, iV]) ?_)
  have hst : ixF l (L.drop i) = if idleC l L[i] then (ixF l (L.drop (i + 1))).map (· + 1) else some 0 := by rw [List.drop_eq_getElem_cons h1]; rfl
  refine Exists.intro (.agg #[.int .i64 (whenC l L[i]), .bool (idleC l L[i])]) (Exists.intro [] (Exists.intro 0 (And.intro (zDh (e := 62) (l := l) (a := L[i]) (ck := ck) (r := 3) (ok := false) rfl rfl rfl (by kernel_rfl) zEd rfl hn) ?_)))
  refine ifK (fun h3 => ?_) (fun h3 => ?_)
  ·have h3 : (!idleC l L[i]) = true := h3
   have h3 : idleC l L[i] = false := by simpa using h3
   have hv : ixV l L = (i : Int) := by unfold ixV; rw [heq, hst, h3]; simp
   rw [hv]
   exact And.intro rfl (zCf (rcq [] (d := 5) (d2 := 0) (lv := [(4, .int .i64 (i : Nat))]) (bs := []) (W := []) (m := 4) (df := []) ⟨⟨_, rfl, .int _ _⟩, trivial⟩ trivial .nil) (fun f => ⟨_, _, _, rfl, fun k hk => by cases hk⟩))
  ·have h3 : (!idleC l L[i]) = false := h3
   have h3 : idleC l L[i] = true := by simpa using h3
   refine ⟨i + 1, ⟨h1, ?_⟩, by show L.length - (i + 1) < L.length - i; omega, rcq [] ⟨⟨_, rfl, .sl _ _ _ _ _ rfl⟩, ⟨_, rfl, .func _ _ _ _ _ rfl .nil (.cons _ _ _ _ (.ptr _ _ _ rfl) .nil)⟩, ⟨_, rfl, .int _ _⟩, zAc rfl (by rw [wrapN (by omega) (by omega)]; omega), trivial⟩ ⟨bpo (zBe L), ⟨by decide, _, rfl, zCw rfl⟩, ⟨by decide, _, rfl, zAh rfl⟩, ⟨by decide, _, rfl, zAf l ck⟩, trivial⟩ .nil⟩
   rw [heq, hst, h3, if_pos rfl, Option.map_map]
   congr 1
   funext x
   show x + 1 + i = x + (i + 1)
   omega
 ·have h1 : ¬ i < L.length := by have h1 : ¬ ((i : Nat) : Int) < (L.length : Int) := of_decide_eq_false h1; omega
  have hv : ixV l L = -1 := by unfold ixV; rw [heq, List.drop_eq_nil_of_le (by omega)]; rfl
  rw [hv]
  exact And.intro rfl (zCf (rcq [] (d := 5) (d2 := 0) (lv := []) (bs := []) (W := []) (m := 4) (df := []) trivial trivial .nil) (fun f => ⟨_, _, _, rfl, fun k hk => by cases hk⟩))
end Go.Proofs.Ytpdeidlkeplegaa
namespace Go.Proofs.Ytpdeidlkeplegaa
open Go Go.RowKit
structure TbA where
 lb : Nat
 cb : Nat
 tb : Nat
 mb : Nat
 k : Nat
 L : List Int
 most : Int
 l : List CliX
 ck : Nat
def TbA.at (x : TbA) (H : Tr AObj) : Prop := H.get x.lb = some (.cells (x.L.map iV) 3) ∧ H.get x.cb = some (boxO x.tb) ∧ H.get x.tb = some (tabO x.most x.mb) ∧ H.get x.mb = some (.map (encC x.l) x.ck) ∧ [x.lb, x.cb, x.tb, x.mb].Nodup
def TbA.as (x : TbA) (g : Nat) : List Value := [.slice (some ⟨x.lb, 0, none⟩) x.k U, fnV g x.cb]
theorem zLu {a b : List CliX} (h : encC a = encC b) : a = b := by
 induction a generalizing b with
 | nil => cases b with
  | nil => rfl
  | cons _ _ => cases h
 | cons x a ih => cases b with
  | nil => cases h
  | cons y b =>
   obtain ⟨n, w, i⟩ := x
   obtain ⟨n', w', i'⟩ := y
   have h2 : CliX.e ⟨n, w, i⟩ :: encC a = CliX.e ⟨n', w', i'⟩ :: encC b := h
   clear h
   simp only [List.cons.injEq, CliX.e, MapEntry.mk.injEq, Value.int.injEq, Value.agg.injEq, Array.mk.injEq, Value.bool.injEq, true_and, and_true] at h2
   obtain ⟨⟨e1, e2, e3⟩, h3⟩ := h2
   subst e1 e2 e3
   rw [ih h3]
theorem iV_inj : ∀ {a b : List Int}, a.map iV = b.map iV → a = b
 | [], [], _ => rfl
 | [], _ :: _, h => by cases h
 | _ :: _, [], h => by cases h
 | x :: a, y :: b, h => by
  simp only [List.map_cons, List.cons.injEq, iV, Value.int.injEq, true_and] at h
  obtain ⟨rfl, h⟩ := h
  rw [iV_inj h]
theorem TbA.uniq {x y : TbA} {g : Nat} {H : Tr AObj} (e : x.as g = y.as g) (h : x.at H) (k : y.at H) : x = y := by
 obtain ⟨lb, cb, tb, mb, n, L, most, l, ck⟩ := x
 obtain ⟨lb', cb', tb', mb', n', L', most', l', ck'⟩ := y
 obtain ⟨h1, h2, h3, h4, _⟩ := h
 obtain ⟨k1, k2, k3, k4, _⟩ := k
 simp only [TbA.as, fnV, List.cons.injEq, Value.slice.injEq, Option.some.injEq, Addr.mk.injEq, Value.func.injEq, Array.mk.injEq, Value.pointer.injEq, true_and, and_true] at e
 obtain ⟨⟨rfl, rfl⟩, rfl⟩ := e
 have h1 : H.get lb = _ := h1
 have k1 : H.get lb = _ := k1
 rw [h1] at k1
 simp only [Option.some.injEq, AObj.cells.injEq, and_true] at k1
 have e1 := iV_inj k1
 have h2 : H.get cb = _ := h2
 have k2 : H.get cb = _ := k2
 rw [h2] at k2
 simp only [boxO, Option.some.injEq, AObj.cells.injEq, List.cons.injEq, Value.pointer.injEq, Addr.mk.injEq, and_true] at k2
 subst k2
 have h3 : H.get tb = _ := h3
 have k3 : H.get tb = _ := k3
 rw [h3] at k3
 simp only [tabO, Option.some.injEq, AObj.cells.injEq, List.cons.injEq, Value.map.injEq, Value.int.injEq, true_and, and_true] at k3
 obtain ⟨rfl, rfl⟩ := k3
 have h4 : H.get mb = _ := h4
 have k4 : H.get mb = _ := k4
 rw [h4] at k4
 simp only [Option.some.injEq, AObj.map.injEq] at k4
 obtain ⟨e2, rfl⟩ := k4
 have e2 := zLu e2
 subst e1 e2
 rfl
theorem TbA.callB {x : TbA} {H : Tr AObj} (h : x.at H) : CallB Try.prog [x.lb, x.cb, x.tb, x.mb] H (tblH x.L x.most x.l x.ck) :=
 zEv ⟨⟨x.lb, _, rfl, h.1, .same (zBe _)⟩, ⟨x.cb, _, rfl, h.2.1, zCw rfl⟩, ⟨x.tb, _, rfl, h.2.2.1, zAh rfl⟩, ⟨x.mb, _, rfl, h.2.2.2.1, zAf _ _⟩, trivial⟩
theorem TbA.rl (x : TbA) (g : Nat) : RL (caR [x.lb, x.cb, x.tb, x.mb]) (x.as g) [.slice (some ⟨0, 0, none⟩) x.k U, fnV g 1] :=
 .cons _ _ _ _ (.sl _ _ _ _ _ rfl) (.cons _ _ _ _ (.func _ _ _ _ _ rfl .nil (.cons _ _ _ _ (.ptr _ _ _ rfl) .nil)) .nil)
noncomputable def ct_tbl (f g : FuncId) (D : List Int → Nat → List CliX → Value) (pre : List Int → Nat → List CliX → Prop) (hp : ∀ L k l, plainV 8 (D L k l) = true)
  (hfn : ∀ (L : List Int) (k : Nat) (most : Int) (l : List CliX) (ck : Nat), pre L k l → ∃ r, FnS Try.prog 0 f [.slice (some ⟨0, 0, none⟩) k U, fnV g 1] (tblH L most l ck) 4 r ∧ ∃ H m wr, r = .ret (D L k l) H m wr ∧ ∀ j ∈ wr, 4 ≤ j) : Ct Try.prog 0 :=
 CtR.ct { f := f, X := TbA, pre := fun x a H _ => a = x.as g ∧ x.at H ∧ pre x.L x.k x.l, out := fun x H n => .ret (D x.L x.k x.l) H n [],
          ok := fun x a H n ⟨h1, h2, h3⟩ => by
           subst h1
           obtain ⟨r, hF, H', m, wr, rfl, hw⟩ := hfn x.L x.k x.most x.l x.ck h3
           exact zAz [x.lb, x.cb, x.tb, x.mb] hF hw (zBi h2.2.2.2.2) (x.rl g) (TbA.callB h2) (hp _ _ _),
          uniq := fun x y a H n ⟨h1, h2, _⟩ ⟨k1, k2, _⟩ => by
           rw [h1] at k1
           rw [TbA.uniq k1 h2 k2] }
noncomputable def ct_ix : Ct Try.prog 0 := ct_tbl 39 31 (fun L _ l => .int .i64 (ixV l L)) (fun L k l => k = L.length ∧ (keysC l).Nodup ∧ L.length ≤ 1000000) (fun _ _ _ => rfl)
 (fun L k most l ck ⟨h1, h2, h3⟩ => by subst h1; exact ix_fn L most l ck h2 h3)
end Go.Proofs.Ytpdeidlkeplegaa
namespace Go.Proofs.Ytpdeidlkeplegaa
open Go Go.RowKit
def delF (l : List CliX) (L : List Int) : List Int := L.filter (idleC l)
def delL (l : List CliX) (L : List Int) : List Int := delF l L ++ List.replicate (L.length - (delF l L).length) 0
theorem zQt {l : List CliX} : ∀ {L : List Int} {i : Nat}, ixF l L = some i → ∃ h : i < L.length, idleC l L[i] = false ∧ (L.take (i + 1)).filter (idleC l) = L.take i
 | [], _, h => by cases h
 | a :: L, i, h => by
  unfold ixF at h
  by_cases ha : idleC l a = true
  ·rw [if_pos ha] at h
   cases hx : ixF l L with
   | none => rw [hx] at h; cases h
   | some j =>
    rw [hx] at h
    simp only [Option.map_some, Option.some.injEq] at h
    subst h
    obtain ⟨h1, h2, h3⟩ := zQt hx
    refine ⟨by simpa using h1, h2, ?_⟩
    rw [List.take_succ_cons, List.filter_cons_of_pos ha, h3]; rfl
  ·rw [if_neg ha] at h
   cases h
   have ha : idleC l a = false := by simpa using ha
   exact ⟨by simp, ha, by rw [List.take_succ_cons, List.filter_cons_of_neg (by rw [ha]; simp)]; rfl⟩
theorem zQs {l : List CliX} : ∀ {L : List Int}, ixF l L = none → L.filter (idleC l) = L
 | [], _ => rfl
 | a :: L, h => by
  unfold ixF at h
  by_cases ha : idleC l a = true
  ·rw [if_pos ha] at h
   cases hx : ixF l L with
   | none => rw [List.filter_cons_of_pos ha, zQs hx]
   | some j => rw [hx] at h; cases h
  ·rw [if_neg ha] at h; cases h
theorem int_ty : TyIs Try.prog 3 1 8 (.int .i64 0) := zPu (by kernel_rfl)
theorem set_iV (C : List Int) (j : Nat) (b : Int) (h : j < C.length) : (C.map iV).take (0 + j * 1) ++ [iV b] ++ (C.map iV).drop (0 + j * 1 + 1) = (C.set j b).map iV := by
 rw [Nat.zero_add, Nat.mul_one, List.map_set, List.set_eq_take_append_cons_drop, if_pos (by rw [List.length_map]; exact h)]
 simp
theorem zero_ints (n : Nat) : zeroL (Value.int .i64 0).cells n = (List.replicate n (0 : Int)).map iV := by
 unfold zeroL
 rw [show (Value.int .i64 0).cells = #[.int .i64 0] from rfl]
 show (List.range (n * 1)).map _ = _
 rw [Nat.mul_one, List.map_replicate]
 refine List.eq_replicate_iff.2 ⟨by simp, fun b hb => ?_⟩
 obtain ⟨i, _, rfl⟩ := List.mem_map.1 hb
 rw [show i % (#[Value.int .i64 0] : Array Value).size = 0 from Nat.mod_one i]; rfl
theorem aop_clrI {ev : Operand → Value} {G : Gh} {m : Nat} {o : Oper} {x : Operand} {t e : TypeId} {b off n c : Nat} {C : List Int} (ho : o.op = .call ⟨.builtin .clear, #[x], #[t]⟩) (hx : ev x = .slice (some ⟨b, off, none⟩) n c) (hu : Try.prog.underlying t = some (.slice 3)) (hg : G b = some (.cells (C.map iV) e)) (hl : off + n ≤ C.length) (hn : n ≠ 0) :
  aop Try.prog o ev G m = .val (.tuple #[]) [(b, some (.cells ((C.take off ++ List.replicate n 0 ++ C.drop (off + n)).map iV) e))] 0 := by
 obtain ⟨i, hi, _, _, hz⟩ := int_ty
 have hb0 : n.beq 0 = false := by cases hb : n.beq 0; rfl; exact absurd (Nat.eq_of_beq_eq_true hb) hn
 have hlen : ((List.replicate n (0 : Int)).map iV).length = n := by simp
 have h1 : oneL ((List.replicate n (0 : Int)).map iV) = true := by unfold oneL; simp [iV]; exact .inr rfl
 have h2 : (((List.replicate n (0 : Int)).map iV).all (plainV 8)) = true := by simp [iV, plainV]
 unfold aop aop0 aStr
 simp only [ho, ORes.or, zCo, List.map_cons, List.map_nil]
 unfold zPw
 simp only [hu, hx, hb0, cond_false, hi, hz, hg, zero_ints, hlen, h1, h2, Bool.and_true, List.length_map]
 rw [Nat.ble_eq_true_of_le hl, cond_true, List.map_append, List.map_append, List.map_take, List.map_drop]
theorem wr_04 {w : List Nat} (h : (w.all fun k => Nat.beq k 0 || Nat.ble 4 k) = true) : ∀ k ∈ w, k = 0 ∨ 4 ≤ k := fun k hk => by
 have := List.all_eq_true.1 h k hk
 rcases Bool.or_eq_true_iff.1 this with h | h
 ·exact .inl (Nat.eq_of_beq_eq_true h)
 ·exact .inr (Nat.le_of_ble_eq_true h)
noncomputable def tbTq4 : Tb Try.prog 0 := tbOf mixed [inl_g1, ct_ix]
theorem del_fn (L : List Int) (most : Int) (l : List CliX) (ck : Nat) (hn : (keysC l).Nodup) (hL : L.length ≤ 1000000) : ∃ r, FnS Try.prog 0 30 [.slice (some ⟨0, 0, none⟩) L.length U, fnV 31 1] (tblH L most l ck) 4 r ∧ ∃ H m wr, r = .ret (.slice (some ⟨0, 0, none⟩) (delF l L).length U) H m wr ∧ (∀ k ∈ wr, k = 0 ∨ 4 ≤ k) ∧ H.get 0 = some (.cells ((delL l L).map iV) 3) ∧ (0 ∉ wr → delL l L = L) := by
 refine zCv mixed tbTq4 [0, 900003, 900008] Try.func30 (c := bodyOf Try.f30) (by kernel_rfl) ?_
 refine Exists.intro ⟨0, 1, 2, 3, L.length, L, most, l, ck⟩ (And.intro ⟨rfl, ⟨by kernel_rfl, by kernel_rfl, by kernel_rfl, by kernel_rfl, (show [0, 1, 2, 3].Nodup by decide)⟩, rfl, hn, hL⟩ ?_)
 cases hx : ixF l L with
 | none =>
  have hv : ixV l L = -1 := by unfold ixV; rw [hx]
  have hf := zQs hx
  have h1 : delF l L = L := hf
  have h2 : delL l L = L := by unfold delL; rw [h1, Nat.sub_self]; simp
  rw [h1, h2]
  refine ifK (fun _ => ?_) (fun h => absurd (show (ixV l L == -1) = false from h) (by rw [hv]; decide))
  exact ⟨_, _, _, rfl, fun k hk => (by have hk : k ∈ ([] : List Nat) := hk; cases hk), rfl, fun _ => rfl⟩
 | some i0 =>
  have hv : ixV l L = (i0 : Int) := by unfold ixV; rw [hx]
  obtain ⟨hi0, hp0, ht0⟩ := zQt hx
  refine ifK (fun h => absurd (show (ixV l L == -1) = true from h) (by rw [hv]; simp)) (fun _ => ?_)
  refine zCa (fun (s : Nat × List Int × Nat) f => ⟨slots 6 [(0, .slice (some ⟨0, 0, none⟩) L.length U), (1, fnV 31 1), (5, .int .i64 (s.2.2 : Nat)), (6, .int .i64 (s.1 : Nat))] f, tblH s.2.1 most l ck, 4, [0], []⟩) (fun s => L.length - s.1) (fun s => s.1 ≤ L.length ∧ s.2.1.length = L.length ∧ s.2.1.drop s.1 = L.drop s.1 ∧ s.2.1.take s.2.2 = (L.take s.1).filter (idleC l) ∧ s.2.2 < s.1) (i0 + 1, L, i0) ⟨hi0, rfl, rfl, ht0.symm, Nat.lt_succ_self _⟩ (rcq [] ⟨⟨_, rfl, .sl _ _ _ _ _ rfl⟩, ⟨_, rfl, .func _ _ _ _ _ rfl .nil (.cons _ _ _ _ (.ptr _ _ _ rfl) .nil)⟩, zAc rfl hv, zAc rfl (by rw [hv, wrapN (by omega) (by omega)]; show ((i0 : Nat) : Int) + 1 = ((i0 + 1 : Nat) : Int); omega), trivial⟩ ⟨bpo (zBe L), ⟨by decide, _, rfl, zCw rfl⟩, ⟨by decide, _, rfl, zAh rfl⟩, ⟨by decide, _, rfl, zAf l ck⟩, trivial⟩ .nil) ?_
  rintro ⟨j, S, i⟩ f ⟨hj, hS, hd, ht, hij⟩
  have hj : j ≤ L.length := hj
  have hS : S.length = L.length := hS
  have hd : S.drop j = L.drop j := hd
  have ht : S.take i = (L.take j).filter (idleC l) := ht
  have hij : i < j := hij
  refine zEa tbTq4 [0, 900003, 900008] 4 _ none mixed _ _ _ ?_
  refine ifK (fun h1 => ?_) (fun h1 => ?_)
  ·have h1 : j < L.length := by have h1 : ((j : Nat) : Int) < (L.length : Int) := of_decide_eq_true h1; omega
   have hjS : j < S.length := by omega
   refine ifK (fun _ => ?_) (fun h2 => absurd h2 (by simp [inI]; omega))
   refine Exists.intro S[j] (And.intro (by show (S.map iV)[0 + (j : Int).toNat * 1]? = _; simp [hjS, iV]) ?_)
   refine Exists.intro (.agg #[.int .i64 (whenC l S[j]), .bool (idleC l S[j])]) (Exists.intro [] (Exists.intro 0 (And.intro (zDh (e := 62) (l := l) (a := S[j]) (ck := ck) (r := 3) (ok := false) rfl rfl rfl (by kernel_rfl) zEd rfl hn) ?_)))
   refine ifK (fun h3 => ?_) (fun h3 => ?_)
   ·have h3 : (!(!idleC l S[j])) = true := h3
    have h3 : idleC l S[j] = true := by simpa using h3
    refine ifK (fun _ => ?_) (fun h2 => absurd h2 (by simp [inI]; omega))
    refine Exists.intro undef (Exists.intro [((0 : Nat), some (AObj.cells ((S.set i S[j]).map iV) 3))] (Exists.intro (0 : Nat) (And.intro ?_ ?_)))
    ·refine zFx (b := 0) (off := 0 + i * 1) (sz := 1) (bytes := 8) (z := .int .i64 0) (v := iV S[j]) (C := S.map iV) rfl ?_ rfl rfl int_ty rfl rfl (by rw [List.length_map]; omega) (set_iV S i S[j] (by omega))
     show Value.pointer _ = _
     rw [show (Try.prog.types[3]).size = 1 by kernel_rfl]; rfl
    have hSj : S[j] = L[j] := by
     have e1 : (S.drop j)[0]? = (L.drop j)[0]? := by rw [hd]
     rw [List.getElem?_drop, List.getElem?_drop, Nat.add_zero, List.getElem?_eq_getElem hjS, List.getElem?_eq_getElem h1] at e1
     exact Option.some.inj e1
    refine ⟨(j + 1, S.set i S[j], i + 1), ⟨h1, by show (S.set i S[j]).length = _; rw [List.length_set]; exact hS, ?_, ?_, by show i + 1 < j + 1; omega⟩, by show L.length - (j + 1) < L.length - j; omega, rcq [] ⟨⟨_, rfl, .sl _ _ _ _ _ rfl⟩, ⟨_, rfl, .func _ _ _ _ _ rfl .nil (.cons _ _ _ _ (.ptr _ _ _ rfl) .nil)⟩, zAc rfl (by show IntKind.i64.wrap ((i : Int) + 1) = ((i + 1 : Nat) : Int); rw [wrapN (by omega) (by omega)]; omega), zAc rfl (by show IntKind.i64.wrap ((j : Int) + 1) = ((j + 1 : Nat) : Int); rw [wrapN (by omega) (by omega)]; omega), trivial⟩ ⟨bpo (zBe _), ⟨by decide, _, rfl, zCw rfl⟩, ⟨by decide, _, rfl, zAh rfl⟩, ⟨by decide, _, rfl, zAf l ck⟩, trivial⟩ .nil⟩
    ·show (S.set i S[j]).drop (j + 1) = L.drop (j + 1)
     rw [List.drop_set_of_lt (by omega)]
     have : (S.drop j).drop 1 = (L.drop j).drop 1 := by rw [hd]
     rwa [List.drop_drop, List.drop_drop] at this
    ·show (S.set i S[j]).take (i + 1) = (L.take (j + 1)).filter (idleC l)
     rw [List.take_succ_eq_append_getElem (by rw [List.length_set]; omega), List.take_set_of_le (Nat.le_refl _), List.getElem_set_self, ht, List.take_succ_eq_append_getElem h1, List.filter_append, ← hSj, List.filter_cons_of_pos h3]; rfl
   ·have h3 : (!(!idleC l S[j])) = false := h3
    have h3 : idleC l S[j] = false := by simpa using h3
    have hSj : S[j] = L[j] := by
     have e1 : (S.drop j)[0]? = (L.drop j)[0]? := by rw [hd]
     rw [List.getElem?_drop, List.getElem?_drop, Nat.add_zero, List.getElem?_eq_getElem hjS, List.getElem?_eq_getElem h1] at e1
     exact Option.some.inj e1
    refine ⟨(j + 1, S, i), ⟨h1, hS, ?_, ?_, by show i < j + 1; omega⟩, by show L.length - (j + 1) < L.length - j; omega, rcq [] ⟨⟨_, rfl, .sl _ _ _ _ _ rfl⟩, ⟨_, rfl, .func _ _ _ _ _ rfl .nil (.cons _ _ _ _ (.ptr _ _ _ rfl) .nil)⟩, ⟨_, rfl, .int _ _⟩, zAc rfl (by show IntKind.i64.wrap ((j : Int) + 1) = ((j + 1 : Nat) : Int); rw [wrapN (by omega) (by omega)]; omega), trivial⟩ ⟨bpo (zBe _), ⟨by decide, _, rfl, zCw rfl⟩, ⟨by decide, _, rfl, zAh rfl⟩, ⟨by decide, _, rfl, zAf l ck⟩, trivial⟩ .nil⟩
    ·show S.drop (j + 1) = L.drop (j + 1)
     have : (S.drop j).drop 1 = (L.drop j).drop 1 := by rw [hd]
     rwa [List.drop_drop, List.drop_drop] at this
    ·show S.take i = (L.take (j + 1)).filter (idleC l)
     rw [ht, List.take_succ_eq_append_getElem h1, List.filter_append, ← hSj, List.filter_cons_of_neg (by rw [h3]; simp)]; simp
  ·have h1 : j = L.length := by have h1 : ¬ ((j : Nat) : Int) < (L.length : Int) := of_decide_eq_false h1; omega
   subst h1
   refine And.intro rfl (zCf (rcq [] (d := 6) (d2 := 3) (lv := [(0, .slice (some ⟨0, 0, none⟩) L.length U), (5, .int .i64 (i : Nat))]) (bs := [(0, .cells (S.map iV) 3), (1, boxO 2), (2, tabO most 3), (3, .map (encC l) ck)]) (W := [0]) (m := 4) (df := []) ⟨⟨_, rfl, .sl _ _ _ _ _ rfl⟩, ⟨_, rfl, .int _ _⟩, trivial⟩ ⟨bpo (zBe _), ⟨by decide, _, rfl, zCw rfl⟩, ⟨by decide, _, rfl, zAh rfl⟩, ⟨by decide, _, rfl, zAf l ck⟩, trivial⟩ .nil) (fun f => ?_))
   refine And.intro (by simp [inLH]; omega) ?_
   refine Exists.intro (.tuple #[]) (Exists.intro [((0 : Nat), some (AObj.cells ((S.take i ++ List.replicate (S.length - i) 0 ++ S.drop (i + (S.length - i))).map iV) 3))] (Exists.intro (0 : Nat) (And.intro (aop_clrI (b := 0) (off := i) (n := S.length - i) (C := S) (c := U) rfl ?_ (by kernel_rfl) rfl (by omega) (by omega)) ?_)))
   ·show Value.slice (some ⟨0, 0 + ((i : Nat) : Int).toNat * (Try.prog.types[3]).size, none⟩) (((L.length : Nat) : Int).toNat - ((i : Nat) : Int).toNat) U = _
    rw [show (Try.prog.types[3]).size = 1 by kernel_rfl, Int.toNat_natCast, Int.toNat_natCast, hS, Nat.mul_one, Nat.zero_add]
   refine And.intro (by simp [inLH]; omega) ?_
   have hf : S.take i = delF l L := by rw [ht, List.take_of_length_le (Nat.le_refl _)]; rfl
   have hdl : (delF l L).length = i := by rw [← hf, List.length_take]; omega
   have hN : ((i : Nat) : Int).toNat - (0 : Int).toNat = (delF l L).length := by rw [hdl, Int.toNat_natCast]; rfl
   have hC : S.take i ++ List.replicate (S.length - i) 0 ++ S.drop (i + (S.length - i)) = delL l L := by
    rw [List.drop_eq_nil_of_le (by omega), List.append_nil, hf]
    unfold delL
    rw [hdl, hS]
   exact ⟨_, _, _, congrArg (fun n => Res.ret (.slice (some ⟨0, 0, none⟩) n U) _ _ _) hN, wr_04 rfl, Eq.trans (b := some (AObj.cells ((S.take i ++ List.replicate (S.length - i) 0 ++ S.drop (i + (S.length - i))).map iV) 3)) (by kernel_rfl) (congrArg (fun C : List Int => some (AObj.cells (C.map iV) 3)) hC), fun h => absurd (List.mem_of_elem_eq_true (by kernel_rfl)) h⟩
end Go.Proofs.Ytpdeidlkeplegaa
namespace Go.Proofs.Ytpdeidlkeplegaa
open Go Go.RowKit
def cmpI (x y : Int) : Int := bif decide (x < y) then -1 else bif decide (x > y) then 1 else 0
noncomputable def inl_nan : Ct Try.prog 0 := Ct.inl (tbOf mixed []) mixed [] 40 Try.f40 Try.func40 (bodyOf Try.f40) (by kernel_rfl)
theorem cmp_fn (x y : Int) : ∃ r, FnS Try.prog 0 35 [.int .i64 x, .int .i64 y] .e 0 r ∧ ∃ H m wr, r = .ret (.int .i64 (cmpI x y)) H m wr := by
 refine zCv mixed (tbOf mixed [inl_nan]) [] Try.func35 (c := bodyOf Try.f35) (by kernel_rfl) ?_
 refine ifK (fun h => absurd (show (x != x) = true from h) (by simp)) (fun _ => ?_)
 refine ifK (fun h => absurd (show (y != y) = true from h) (by simp)) (fun _ => ?_)
 refine ifK (fun h => ?_) (fun h => ?_)
 ·have h : decide (x < y) = true := h
  rw [show cmpI x y = -1 by unfold cmpI; rw [h]; rfl]
  exact ⟨_, _, _, rfl⟩
 have h : decide (x < y) = false := h
 refine ifK (fun h2 => ?_) (fun h2 => ?_)
 ·have h2 : decide (x > y) = true := h2
  rw [show cmpI x y = 1 by unfold cmpI; rw [h, h2]; rfl]
  exact ⟨_, _, _, rfl⟩
 have h2 : decide (x > y) = false := h2
 rw [show cmpI x y = 0 by unfold cmpI; rw [h, h2]; rfl]
 exact ⟨_, _, _, rfl⟩
def ct_cmp : Ct Try.prog 0 := Ct.int2 35 cmpI (fun x y => by obtain ⟨r, h, H, m, wr, rfl⟩ := cmp_fn x y; exact ⟨H, m, wr, h⟩)
noncomputable def inl_or : Ct Try.prog 0 := Ct.inl (tbOf mixed []) mixed [] 34 Try.f34 Try.func34 (bodyOf Try.f34) (by kernel_rfl)
noncomputable def inl_g2 : Ct Try.prog 0 := Ct.inl (tbOf mixed [ct_cmp, inl_or]) mixed [900005] 33 Try.f33 Try.func33 (bodyOf Try.f33) (by kernel_rfl)
def before (l : List CliX) (x m : Int) : Bool := bif cmpI (whenC l x) (whenC l m) != 0 then decide (cmpI (whenC l x) (whenC l m) < 0) else decide (cmpI x m < 0)
def minF (l : List CliX) : List Int → Int
 | [] => 0
 | x :: L => L.foldl (fun m x => bif before l x m then x else m) x
theorem minF_succ {l : List CliX} {F : List Int} {i : Nat} (h : i < F.length) (h1 : 1 ≤ i) : minF l (F.take (i + 1)) = bif before l F[i] (minF l (F.take i)) then F[i] else minF l (F.take i) := by
 cases F with
 | nil => exact absurd h (Nat.not_lt_zero _)
 | cons x F =>
  cases i with
  | zero => omega
  | succ i =>
   have h' : i < F.length := by simpa using h
   rw [List.take_succ_cons, List.take_succ_cons]
   show (F.take (i + 1)).foldl _ x = _
   rw [List.take_succ_eq_append_getElem h', List.foldl_append]
   rfl
noncomputable def tbTq5 : Tb Try.prog 0 := tbOf mixed [inl_g2]
theorem min_fn (C : List Int) (k : Nat) (most : Int) (l : List CliX) (ck : Nat) (hn : (keysC l).Nodup) (hk : 1 ≤ k ∧ k ≤ C.length) (hL : C.length ≤ 1000000) : ∃ r, FnS Try.prog 0 32 [.slice (some ⟨0, 0, none⟩) k U, fnV 33 1] (tblH C most l ck) 4 r ∧ ∃ H m wr, r = .ret (.int .i64 (minF l (C.take k))) H m wr ∧ ∀ j ∈ wr, 4 ≤ j := by
 have h0 : 0 < C.length := by omega
 refine zCv mixed tbTq5 [0] Try.func32 (c := bodyOf Try.f32) (by kernel_rfl) ?_
 refine ifK (fun h => absurd (show ((k : Nat) : Int) < 1 from of_decide_eq_true h) (by omega)) (fun _ => ?_)
 refine ifK (fun _ => ?_) (fun h2 => absurd h2 (by simp [inI]; omega))
 refine Exists.intro C[0] (And.intro (by show (C.map iV)[0 + (0 : Int).toNat * 1]? = _; simp [h0, iV]) ?_)
 refine zCa (fun (s : Nat × Int) f => ⟨slots 6 [(0, .slice (some ⟨0, 0, none⟩) k U), (1, fnV 33 1), (5, .int .i64 s.2), (6, .int .i64 (s.1 : Nat))] f, tblH C most l ck, 4, [], []⟩) (fun s => k - s.1) (fun s => (1 ≤ s.1 ∧ s.1 ≤ k) ∧ s.2 = minF l ((C.take k).take s.1)) (1, C[0]) ⟨⟨Nat.le_refl _, hk.1⟩, ?_⟩ ?_ ?_
 ·show C[0] = minF l ((C.take k).take 1)
  cases C with
  | nil => exact absurd h0 (Nat.not_lt_zero _)
  | cons c C =>
   cases k with
   | zero => exact absurd hk.1 (by decide)
   | succ k => rfl
 ·exact rcq [] ⟨⟨_, rfl, .sl _ _ _ _ _ rfl⟩, ⟨_, rfl, .func _ _ _ _ _ rfl .nil (.cons _ _ _ _ (.ptr _ _ _ rfl) .nil)⟩, ⟨_, rfl, .int _ _⟩, ⟨_, rfl, .int _ _⟩, trivial⟩ ⟨bpo (zBe _), ⟨by decide, _, rfl, zCw rfl⟩, ⟨by decide, _, rfl, zAh rfl⟩, ⟨by decide, _, rfl, zAf l ck⟩, trivial⟩ .nil
 rintro ⟨i, m⟩ f ⟨⟨hi1, hik⟩, hm⟩
 have hi1 : 1 ≤ i := hi1
 have hik : i ≤ k := hik
 have hm : m = minF l ((C.take k).take i) := hm
 refine zEa tbTq5 [0] 4 _ none mixed _ _ _ ?_
 refine ifK (fun h1 => ?_) (fun h1 => ?_)
 ·have h1 : i < k := by have h1 : ((i : Nat) : Int) < (k : Int) := of_decide_eq_true h1; omega
  have hiC : i < C.length := by omega
  refine ifK (fun _ => ?_) (fun h2 => absurd h2 (by simp [inI]; omega))
  refine Exists.intro C[i] (And.intro (by show (C.map iV)[0 + (i : Int).toNat * 1]? = _; simp [hiC, iV]) ?_)
  refine And.intro (by kernel_rfl) ?_
  refine Exists.intro (.agg #[.int .i64 (whenC l C[i]), .bool (idleC l C[i])]) (Exists.intro [] (Exists.intro 0 (And.intro (zDh (e := 62) (l := l) (a := C[i]) (ck := ck) (r := 3) (ok := false) rfl rfl rfl (by kernel_rfl) zEd rfl hn) ?_)))
  refine Exists.intro (.agg #[.int .i64 (whenC l m), .bool (idleC l m)]) (Exists.intro [] (Exists.intro 0 (And.intro (zDh (e := 62) (l := l) (a := m) (ck := ck) (r := 3) (ok := false) rfl rfl rfl (by kernel_rfl) zEd rfl hn) ?_)))
  have hg : (C.take k)[i]'(by rw [List.length_take]; omega) = C[i] := List.getElem_take ..
  have hms := minF_succ (l := l) (F := C.take k) (i := i) (by rw [List.length_take]; omega) hi1
  rw [hg, ← hm] at hms
  have hT : before l C[i] m = true → C[i] = minF l ((C.take k).take (i + 1)) := fun h => by rw [hms, h]; rfl
  have hF : before l C[i] m = false → m = minF l ((C.take k).take (i + 1)) := fun h => by rw [hms, h]; rfl
  refine ifK (fun c1 => ?_) (fun c1 => ?_)
  ·have c1 : (cmpI (whenC l C[i]) (whenC l m) != 0) = true := c1
   refine ifK (fun c2 => ?_) (fun c2 => ?_)
   ·refine ifK (fun _ => ?_) (fun h2 => absurd h2 (by simp [inI]; omega))
    refine Exists.intro C[i] (And.intro (by show (C.map iV)[0 + (i : Int).toNat * 1]? = _; simp [hiC, iV]) ?_)
    exact ⟨(i + 1, C[i]), ⟨⟨by show 1 ≤ i + 1; omega, h1⟩, hT (by unfold before; rw [c1]; exact c2)⟩, by show k - (i + 1) < k - i; omega, rcq [] ⟨⟨_, rfl, .sl _ _ _ _ _ rfl⟩, ⟨_, rfl, .func _ _ _ _ _ rfl .nil (.cons _ _ _ _ (.ptr _ _ _ rfl) .nil)⟩, ⟨_, rfl, .int _ _⟩, zAc rfl (by show IntKind.i64.wrap ((i : Int) + 1) = ((i + 1 : Nat) : Int); rw [wrapN (by omega) (by omega)]; omega), trivial⟩ ⟨bpo (zBe _), ⟨by decide, _, rfl, zCw rfl⟩, ⟨by decide, _, rfl, zAh rfl⟩, ⟨by decide, _, rfl, zAf l ck⟩, trivial⟩ .nil⟩
   ·exact ⟨(i + 1, m), ⟨⟨by show 1 ≤ i + 1; omega, h1⟩, hF (by unfold before; rw [c1]; exact c2)⟩, by show k - (i + 1) < k - i; omega, rcq [] ⟨⟨_, rfl, .sl _ _ _ _ _ rfl⟩, ⟨_, rfl, .func _ _ _ _ _ rfl .nil (.cons _ _ _ _ (.ptr _ _ _ rfl) .nil)⟩, ⟨_, rfl, .int _ _⟩, zAc rfl (by show IntKind.i64.wrap ((i : Int) + 1) = ((i + 1 : Nat) : Int); rw [wrapN (by omega) (by omega)]; omega), trivial⟩ ⟨bpo (zBe _), ⟨by decide, _, rfl, zCw rfl⟩, ⟨by decide, _, rfl, zAh rfl⟩, ⟨by decide, _, rfl, zAf l ck⟩, trivial⟩ .nil⟩
  ·have c1 : (cmpI (whenC l C[i]) (whenC l m) != 0) = false := c1
   refine ifK (fun c3 => ?_) (fun c3 => ?_)
   ·refine ifK (fun c2 => ?_) (fun c2 => ?_)
    ·refine ifK (fun _ => ?_) (fun h2 => absurd h2 (by simp [inI]; omega))
     refine Exists.intro C[i] (And.intro (by show (C.map iV)[0 + (i : Int).toNat * 1]? = _; simp [hiC, iV]) ?_)
     exact ⟨(i + 1, C[i]), ⟨⟨by show 1 ≤ i + 1; omega, h1⟩, hT (by unfold before; rw [c1]; exact c2)⟩, by show k - (i + 1) < k - i; omega, rcq [] ⟨⟨_, rfl, .sl _ _ _ _ _ rfl⟩, ⟨_, rfl, .func _ _ _ _ _ rfl .nil (.cons _ _ _ _ (.ptr _ _ _ rfl) .nil)⟩, ⟨_, rfl, .int _ _⟩, zAc rfl (by show IntKind.i64.wrap ((i : Int) + 1) = ((i + 1 : Nat) : Int); rw [wrapN (by omega) (by omega)]; omega), trivial⟩ ⟨bpo (zBe _), ⟨by decide, _, rfl, zCw rfl⟩, ⟨by decide, _, rfl, zAh rfl⟩, ⟨by decide, _, rfl, zAf l ck⟩, trivial⟩ .nil⟩
    ·exact ⟨(i + 1, m), ⟨⟨by show 1 ≤ i + 1; omega, h1⟩, hF (by unfold before; rw [c1]; exact c2)⟩, by show k - (i + 1) < k - i; omega, rcq [] ⟨⟨_, rfl, .sl _ _ _ _ _ rfl⟩, ⟨_, rfl, .func _ _ _ _ _ rfl .nil (.cons _ _ _ _ (.ptr _ _ _ rfl) .nil)⟩, ⟨_, rfl, .int _ _⟩, zAc rfl (by show IntKind.i64.wrap ((i : Int) + 1) = ((i + 1 : Nat) : Int); rw [wrapN (by omega) (by omega)]; omega), trivial⟩ ⟨bpo (zBe _), ⟨by decide, _, rfl, zCw rfl⟩, ⟨by decide, _, rfl, zAh rfl⟩, ⟨by decide, _, rfl, zAf l ck⟩, trivial⟩ .nil⟩
   ·have c3 : (cmpI C[i] m != 0) = false := c3
    have c3 : cmpI C[i] m = 0 := by simpa using c3
    exact ⟨(i + 1, m), ⟨⟨by show 1 ≤ i + 1; omega, h1⟩, hF (by unfold before; rw [c1, c3]; rfl)⟩, by show k - (i + 1) < k - i; omega, rcq [] ⟨⟨_, rfl, .sl _ _ _ _ _ rfl⟩, ⟨_, rfl, .func _ _ _ _ _ rfl .nil (.cons _ _ _ _ (.ptr _ _ _ rfl) .nil)⟩, ⟨_, rfl, .int _ _⟩, zAc rfl (by show IntKind.i64.wrap ((i : Int) + 1) = ((i + 1 : Nat) : Int); rw [wrapN (by omega) (by omega)]; omega), trivial⟩ ⟨bpo (zBe _), ⟨by decide, _, rfl, zCw rfl⟩, ⟨by decide, _, rfl, zAh rfl⟩, ⟨by decide, _, rfl, zAf l ck⟩, trivial⟩ .nil⟩
 ·have h1 : i = k := by have h1 : ¬ ((i : Nat) : Int) < (k : Int) := of_decide_eq_false h1; omega
  rw [show minF l (C.take k) = m by rw [hm, h1, List.take_take, Nat.min_self]]
  exact And.intro rfl (zCf (rcq [] (d := 6) (d2 := 0) (lv := [(5, .int .i64 m)]) (bs := []) (W := []) (m := 4) (df := []) ⟨⟨_, rfl, .int _ _⟩, trivial⟩ trivial .nil) (fun f => ⟨_, _, _, rfl, fun k hk => by cases hk⟩))
end Go.Proofs.Ytpdeidlkeplegaa
namespace Go.Proofs.Ytpdeidlkeplegaa
open Go Go.RowKit
theorem FnS.wrT {f : FuncId} {args : List Value} {H H' : Tr AObj} {n0 n : Nat} {v : Value} {wr : List Nat} (W : List Nat) (h : FnS Try.prog 0 f args H n0 (.ret v H' n wr)) : FnS Try.prog 0 f args H n0 (.ret v H' n (W ++ wr)) := fun E w args' h1 h2 h3 h4 h5 =>
 (h E w args' h1 h2 h3 h4 h5).mono fun e w' ⟨E', v', q1, q2, q3, q4⟩ => ⟨E', v', q1, q2, q3, q4.sub (fun k hk _ => List.mem_append.2 (.inr hk))⟩
noncomputable def ct_min : Ct Try.prog 0 := ct_tbl 32 33 (fun L k l => .int .i64 (minF l (L.take k))) (fun L k l => (keysC l).Nodup ∧ (1 ≤ k ∧ k ≤ L.length) ∧ L.length ≤ 1000000) (fun _ _ _ => rfl)
 (fun L k most l ck ⟨h1, h2, h3⟩ => min_fn L k most l ck h1 h2 h3)
def delO (lb k : Nat) (C : List Int) (A : List Nat) (H : Tr AObj) (n : Nat) : Res := .ret (.slice (some ⟨lb, 0, none⟩) k U) (H.set lb (some (.cells (C.map iV) 3))) n A
noncomputable def ct_del : Ct Try.prog 0 :=
 CtR.ct { f := 30, X := TbA, pre := fun x a H _ => a = x.as 31 ∧ x.at H ∧ x.k = x.L.length ∧ (keysC x.l).Nodup ∧ x.L.length ≤ 1000000, out := fun x H n => delO x.lb (delF x.l x.L).length (delL x.l x.L) [x.lb, x.cb, x.tb, x.mb] H n,
          ok := fun x a H n ⟨h1, h2, h3, h4, h5⟩ => by
           subst h1
           obtain ⟨r, hF, H', m, wr, rfl, hw, hg, _⟩ := del_fn x.L x.most x.l x.ck h4 h5
           have hcb := TbA.callB h2
           have hnd := h2.2.2.2.2
           have hrl := x.rl 31
           rw [h3] at hrl
           refine zCl (n := n) [x.lb, x.cb, x.tb, x.mb] [] [(x.lb, some (.cells ((delL x.l x.L).map iV) 3))] (hF.wrT [0]) hnd hcb hrl (fun k o ho hk => ?_) (fun j hj => ?_) List.nodup_nil (fun y hy => by cases hy) (.sl _ _ _ _ _ (zEb rfl)) (fun p hp => ?_) (fun k j e hk => ?_) (fun j o ho => ?_)
           ·match k, hk, ho with
            | 0, _, ho => have ho : some (AObj.cells _ _) = some o := ho; cases ho; exact fun h => h
            | 1, _, ho => have ho : some (AObj.cells _ _) = some o := ho; cases ho; exact fun h => h
            | 2, _, ho => have ho : some (AObj.cells _ _) = some o := ho; cases ho; exact fun h => h
            | 3, _, ho => have ho : some (AObj.map _ _) = some o := ho; cases ho; exact fun h => h
            | k + 4, hk, _ => have hk : k + 4 < 4 := hk; omega
           ·simp only [List.mem_cons, List.not_mem_nil, or_false] at hj
            rcases hj with rfl | rfl | rfl | rfl
            ·exact ⟨_, h2.1, fun h => h⟩
            ·exact ⟨_, h2.2.1, fun h => h⟩
            ·exact ⟨_, h2.2.2.1, fun h => h⟩
            ·exact ⟨_, h2.2.2.2.1, fun h => h⟩
           ·simp only [List.mem_singleton] at hp
            subst hp
            exact .inl (List.mem_cons_self ..)
           ·rcases List.mem_append.1 hk with hk | hk
            ·simp only [List.mem_singleton] at hk
             subst hk
             cases e
             exact .inl (List.mem_cons_self ..)
            ·rcases hw k hk with rfl | hk4
             ·cases e
              exact .inl (List.mem_cons_self ..)
             ·rw [List.getElem?_eq_none (by show 4 ≤ k; exact hk4)] at e; cases e
           ·simp only [List.mem_singleton, Prod.mk.injEq, Option.some.injEq] at ho
            obtain ⟨rfl, rfl⟩ := ho
            exact ⟨0, _, zEb rfl, hg, .same (zBe _), fun _ => List.mem_append_left _ (List.mem_singleton.2 rfl)⟩,
          uniq := fun x y a H n ⟨h1, h2, _⟩ ⟨k1, k2, _⟩ => by
           rw [h1] at k1
           rw [TbA.uniq k1 h2 k2],
          tr := fun x H n K => frcN x.lb fun lb => frcN x.cb fun cb => frcN x.tb fun tb => frcN x.mb fun mb => K (delO lb (delF x.l x.L).length (delL x.l x.L) [lb, cb, tb, mb] H n),
          trOk := fun x H n K h => by rw [zAs, zAs, zAs, zAs] at h; exact h }
def rangeC (l : List CliX) : Prop := ∀ c ∈ l, -9223372036854775808 ≤ c.n ∧ c.n ≤ 9223372036854775807
theorem zJg : ∀ {l : List CliX}, rangeC l → zDs (encC l) = some (keysC l)
 | [], _ => rfl
 | c :: l, h => by
  have h1 := h c (List.mem_cons_self ..)
  have ih := zJg (l := l) (fun d hd => h d (List.mem_cons_of_mem _ hd))
  show zDs (c.e :: encC l) = _
  unfold zDs
  show (bif decide (-9223372036854775808 ≤ c.n) && decide (c.n ≤ 9223372036854775807) then (zDs (encC l)).map (c.n :: ·) else none) = _
  rw [decide_eq_true h1.1, decide_eq_true h1.2, ih]; rfl
theorem zNn : ∀ {l : List Int}, l.Nodup → nodupI l = true
 | [], _ => rfl
 | x :: l, h => by
  rw [List.nodup_cons] at h
  unfold nodupI
  rw [zNn h.2, Bool.and_true]
  exact List.all_eq_true.2 fun y hy => by
   have : x ≠ y := fun e => h.1 (e ▸ hy)
   simp [this]
structure SoA where
 c : Nat
 mb : Nat
 l : List CliX
 ck : Nat
def SoA.as (x : SoA) : List Value := [.func (.func 38) #[] #[.pointer (some ⟨x.c, 0, none⟩)]]
noncomputable def ct_sortC : Ct Try.prog 0 :=
 CtR.ct { f := 28, X := SoA, pre := fun x a H _ => a = x.as ∧ H.get x.c = some (.cells [.map (some x.mb)] 52) ∧ H.get x.mb = some (.map (encC x.l) x.ck) ∧ (keysC x.l).Nodup ∧ rangeC x.l ∧ x.l.length ≤ 1000000,
          out := fun x H n => listOut 3 1 ((isortI (keysC x.l)).map iV) (keysC x.l).length id H n,
          ok := fun x a H n ⟨h1, h2, h3, h4, h5, h6⟩ => by
           subst h1
           refine zNz (ks := keysC x.l) ?_
           unfold zBt SoA.as
           simp only [h2, h3, zJg h5, zNn h4]
           rw [show ((keysC x.l).length.ble 1000000) = true from Nat.ble_eq_true_of_le (by unfold keysC; rw [List.length_map]; exact h6)]
           rfl,
          uniq := fun x y a H n ⟨h1, h2, h3, _⟩ ⟨k1, k2, k3, _⟩ => by
           rw [h1] at k1
           obtain ⟨c, mb, l, ck⟩ := x
           obtain ⟨c', mb', l', ck'⟩ := y
           simp only [SoA.as, List.cons.injEq, Value.func.injEq, Array.mk.injEq, Value.pointer.injEq, Option.some.injEq, Addr.mk.injEq, true_and, and_true] at k1
           subst k1
           have h2 : H.get c = _ := h2
           have k2 : H.get c = _ := k2
           rw [h2] at k2
           simp only [Option.some.injEq, AObj.cells.injEq, List.cons.injEq, Value.map.injEq, and_true] at k2
           subst k2
           have h3 : H.get mb = _ := h3
           have k3 : H.get mb = _ := k3
           rw [h3] at k3
           simp only [Option.some.injEq, AObj.map.injEq] at k3
           obtain ⟨e2, rfl⟩ := k3
           rw [zLu e2],
          tr := fun x H n K => brK ((keysC x.l).length.beq 0) (K (.ret (.slice none 0 0) H n [])) (K (.ret (.slice (some ⟨n, 0, none⟩) (keysC x.l).length U) (H.set n (some (.cells ((isortI (keysC x.l)).map iV) 3))) (n + 1) [])),
          trOk := fun x H n K h => by
           unfold listOut
           cases hb : (keysC x.l).length.beq 0 with
           | true => rw [hb] at h; exact h
           | false => rw [hb] at h; exact h }
end Go.Proofs.Ytpdeidlkeplegaa
namespace Go.Proofs.Ytpdeidlkeplegaa
open Go Go.RowKit
noncomputable def zFd : Ct Try.prog 0 := Ct.inl (tbOf mixed []) mixed [] 25 Try.f25 Try.func25 (bodyOf Try.f25) (by kernel_rfl)
noncomputable def zSe : Ct Try.prog 0 := Ct.inl (tbOf mixed []) mixed [] 29 Try.f29 Try.func29 (bodyOf Try.f29) (by kernel_rfl)
noncomputable def zNh : Ct Try.prog 0 := Ct.inl (tbOf mixed [zFd, zSe, ct_sortC]) mixed [] 20 Try.f20 Try.func20 (bodyOf Try.f20) (by kernel_rfl)
noncomputable def zSd : Ct Try.prog 0 := Ct.inl (tbOf mixed [zNh, ct_del, ct_min]) mixed [] 26 Try.f26 Try.func26 (bodyOf Try.f26) (by kernel_rfl)
noncomputable def tbTq8 : Tb Try.prog 0 := tbOf mixed [zFd, zSd]
def mayC (l : List CliX) : List Int := delF l (isortI (keysC l))
def touchF (most : Int) (l : List CliX) (ck : Nat) (n now : Int) : Int × Bool × Int × List CliX × Nat :=
 if decide (now < 0) || decide (now > 1099511627776) then (0, false, 2, l, ck)
 else if hasC l n then (0, false, 0, putC l n (maxI (whenC l n) now) (idleC l n), ck)
 else if decide ((l.length : Int) < most) then (0, false, 0, l ++ [⟨n, now, false⟩], ck + 1)
 else if (mayC l).length = 0 then (0, false, 8, l, ck)
 else (minF l (mayC l), true, 0, delC l (minF l (mayC l)) ++ [⟨n, now, false⟩], ck + 1)
def tabH (most : Int) (l : List CliX) (ck : Nat) : Tr AObj := heap 2 [(0, tabO most 1), (1, .map (encC l) ck)]
theorem zQj {l : List CliX} : ∀ (L : List Int) (m : Int), L.foldl (fun m x => bif before l x m then x else m) m ∈ m :: L
 | [], m => List.mem_cons_self ..
 | y :: L, m => by
  have := zQj (l := l) L (bif before l y m then y else m)
  show L.foldl _ (bif before l y m then y else m) ∈ _
  rcases List.mem_cons.1 this with h | h
  ·rw [h]; cases before l y m <;> simp
  ·exact List.mem_cons_of_mem _ (List.mem_cons_of_mem _ h)
theorem zMh {l : List CliX} {L : List Int} (h : L.length ≠ 0) : minF l L ∈ L := by
 cases L with
 | nil => exact absurd rfl h
 | cons x L => exact zQj L x
theorem touch_fn (most : Int) (l : List CliX) (ck : Nat) (n now : Int) (hm : 1 ≤ most) (hn : (keysC l).Nodup) (hr : rangeC l) (hl : l.length ≤ 1000000) : ∃ r, FnS Try.prog 0 11 [.pointer (some ⟨0, 0, none⟩), .int .i64 n, .int .i64 now] (tabH most l ck) 2 r ∧ ∃ H m wr, r = .ret (.tuple #[.int .i64 (touchF most l ck n now).1, .bool (touchF most l ck n now).2.1, .int .i64 (touchF most l ck n now).2.2.1]) H m wr ∧ H.get 0 = some (tabO most 1) ∧ H.get 1 = some (.map (encC (touchF most l ck n now).2.2.2.1) (touchF most l ck n now).2.2.2.2) := by
 refine zCv mixed tbTq8 [900005, 900006, 900007] Try.func11 (c := bodyOf Try.f11) (by kernel_rfl) ?_
 refine ifK (fun h => absurd (show (most == 0) = true from h) (by simp; omega)) (fun _ => ?_)
 refine ifK (fun h1 => ?_) (fun h1 => ?_)
 ·have h1 : decide (now < 0) = true := h1
  have ht : touchF most l ck n now = (0, false, 2, l, ck) := by unfold touchF; rw [h1]; rfl
  rw [ht]
  exact ⟨_, _, _, rfl, by kernel_rfl, by kernel_rfl⟩
 have h1 : decide (now < 0) = false := h1
 refine ifK (fun h2 => ?_) (fun h2 => ?_)
 ·have h2 : decide (now > 1099511627776) = true := h2
  have ht : touchF most l ck n now = (0, false, 2, l, ck) := by unfold touchF; rw [h1, h2]; rfl
  rw [ht]
  exact ⟨_, _, _, rfl, by kernel_rfl, by kernel_rfl⟩
 have h2 : decide (now > 1099511627776) = false := h2
 refine Exists.intro (.tuple #[.agg #[.int .i64 (whenC l n), .bool (idleC l n)], .bool (hasC l n)]) (Exists.intro [] (Exists.intro 0 (And.intro (zDh (e := 62) (l := l) (a := n) (ck := ck) (r := 1) (ok := true) rfl rfl rfl (by kernel_rfl) zEd rfl hn) ?_)))
 refine ifK (fun h3 => ?_) (fun h3 => ?_)
 ·have h3 : hasC l n = true := h3
  have ht : touchF most l ck n now = (0, false, 0, putC l n (maxI (whenC l n) now) (idleC l n), ck) := by unfold touchF; rw [h1, h2, h3]; rfl
  rw [ht]
  refine And.intro (by kernel_rfl) ?_
  refine Exists.intro undef (Exists.intro [((1 : Nat), some (AObj.map (encC (putC l n (maxI (whenC l n) now) (idleC l n))) ck))] (Exists.intro (0 : Nat) (And.intro (Eq.trans (zQd (e := 62) (l := l) (a := n) (w := maxI (whenC l n) now) (b := idleC l n) (ck := ck) (r := 1) rfl rfl rfl rfl (by kernel_rfl) rfl hn) (by rw [h3]; rfl)) ?_)))
  exact ⟨_, _, _, rfl, by kernel_rfl, by kernel_rfl⟩
 have h3 : hasC l n = false := h3
 have hnk : n ∉ keysC l := fun h => by rw [zBd.2 h] at h3; cases h3
 have hel : (encC l).length = l.length := by unfold encC; rw [List.length_map]
 refine And.intro (by kernel_rfl) ?_
 refine ifK (fun h4 => ?_) (fun h4 => ?_)
 ·have h4 : decide ((l.length : Int) < most) = true := by
   have h4 : decide ((((encC l).length : Nat) : Int) < most) = true := h4
   rwa [hel] at h4
  have ht : touchF most l ck n now = (0, false, 0, l ++ [⟨n, now, false⟩], ck + 1) := by unfold touchF; rw [h1, h2, h3, h4]; rfl
  rw [ht]
  refine Exists.intro undef (Exists.intro [((1 : Nat), some (AObj.map (encC (l ++ [⟨n, now, false⟩])) (ck + 1)))] (Exists.intro (0 : Nat) (And.intro (zLl (e := 62) (l := l) (a := n) (w := now) (b := false) (ck := ck) (r := 1) rfl rfl rfl rfl (by kernel_rfl) rfl hnk) ?_)))
  exact ⟨_, _, _, rfl, by kernel_rfl, by kernel_rfl⟩
 have h4 : decide ((l.length : Int) < most) = false := by
  have h4 : decide ((((encC l).length : Nat) : Int) < most) = false := h4
  rwa [hel] at h4
 have h5 : 1 ≤ l.length := by have := of_decide_eq_false h4; omega
 refine ifK (fun h => absurd (show (most == 0) = true from h) (by simp; omega)) (fun _ => ?_)
 have hkl : (keysC l).length = l.length := by unfold keysC; rw [List.length_map]
 have hL : (isortI (keysC l)).length = (keysC l).length := (zAb _).length_eq
 refine Exists.intro ⟨4, 1, l, ck⟩ (And.intro ⟨rfl, by kernel_rfl, by kernel_rfl, hn, hr, hl⟩ ?_)
 refine ifK (fun h => absurd (Nat.eq_of_beq_eq_true (show (keysC l).length.beq 0 = true from h)) (by omega)) (fun _ => ?_)
 refine Exists.intro ⟨5, 3, 0, 1, (keysC l).length, isortI (keysC l), most, l, ck⟩ (And.intro ⟨rfl, ⟨by kernel_rfl, by kernel_rfl, by kernel_rfl, by kernel_rfl, (show [5, 3, 0, 1].Nodup by decide)⟩, hL.symm, hn, by show (isortI (keysC l)).length ≤ _; omega⟩ ?_)
 have hml : (mayC l).length ≤ (isortI (keysC l)).length := List.length_filter_le _ _
 have hdl : (delL l (isortI (keysC l))).length = (isortI (keysC l)).length := by
  unfold delL
  rw [List.length_append, List.length_replicate]
  show (mayC l).length + ((isortI (keysC l)).length - (mayC l).length) = _
  omega
 have hdt : (delL l (isortI (keysC l))).take (mayC l).length = mayC l := List.take_left' rfl
 refine ifK (fun h6 => ?_) (fun h6 => ?_)
 ·have h6 : (mayC l).length = 0 := by
   have h6 : ((((mayC l).length : Nat) : Int) == 0) = true := h6
   simpa using h6
  have ht : touchF most l ck n now = (0, false, 8, l, ck) := by unfold touchF; rw [h1, h2, h3, h4, if_pos h6]; rfl
  rw [ht]
  exact ⟨_, _, _, rfl, by kernel_rfl, by kernel_rfl⟩
 have h6 : (mayC l).length ≠ 0 := by
  have h6 : ((((mayC l).length : Nat) : Int) == 0) = false := h6
  simpa using h6
 have ht : touchF most l ck n now = (minF l (mayC l), true, 0, delC l (minF l (mayC l)) ++ [⟨n, now, false⟩], ck + 1) := by unfold touchF; rw [h1, h2, h3, h4, if_neg h6]; rfl
 rw [ht]
 refine Exists.intro ⟨5, 3, 0, 1, (mayC l).length, delL l (isortI (keysC l)), most, l, ck⟩ (And.intro ⟨rfl, ⟨by kernel_rfl, by kernel_rfl, by kernel_rfl, by kernel_rfl, (show [5, 3, 0, 1].Nodup by decide)⟩, hn, ⟨by show 1 ≤ (mayC l).length; omega, by show (mayC l).length ≤ (delL l (isortI (keysC l))).length; omega⟩, by show (delL l (isortI (keysC l))).length ≤ _; omega⟩ ?_)
 have hmin : minF l ((delL l (isortI (keysC l))).take (mayC l).length) = minF l (mayC l) := by rw [hdt]
 have hmm : minF l (mayC l) ∈ keysC l := (zAb _).mem_iff.1 (List.mem_filter.1 (zMh h6)).1
 have hnd : (keysC (delC l (minF l (mayC l)))).Nodup := hn.sublist (List.Sublist.map _ (List.filter_sublist ..))
 have hno : n ∉ keysC (delC l (minF l (mayC l))) := fun h => hnk (by
  obtain ⟨c, hc, e⟩ := List.mem_map.1 h
  exact List.mem_map.2 ⟨c, (List.mem_filter.1 hc).1, e⟩)
 refine Exists.intro (.tuple #[]) (Exists.intro [((1 : Nat), some (AObj.map (encC (delC l (minF l (mayC l)))) ck))] (Exists.intro (0 : Nat) (And.intro (aop_cliR (e := 62) (l := l) (a := minF l (mayC l)) (ck := ck) (r := 1) rfl rfl (congrArg (Value.int .i64) hmin) (by kernel_rfl) rfl hn (zBd.2 hmm)) ?_)))
 refine Exists.intro undef (Exists.intro [((1 : Nat), some (AObj.map (encC (delC l (minF l (mayC l)) ++ [⟨n, now, false⟩])) (ck + 1)))] (Exists.intro (0 : Nat) (And.intro (zLl (e := 62) (l := delC l (minF l (mayC l))) (a := n) (w := now) (b := false) (ck := ck) (r := 1) rfl rfl rfl rfl (by kernel_rfl) rfl hno) ?_)))
 exact ⟨_, _, _, congrArg (fun x => Res.ret (.tuple #[.int .i64 x, .bool true, .int .i64 0]) _ _ _) hmin, by kernel_rfl, by kernel_rfl⟩
end Go.Proofs.Ytpdeidlkeplegaa
namespace Go.Proofs.Ytpdeidlkeplegaa
open Go Go.RowKit
theorem wr_ge2 {w : List Nat} (h : (w.all fun k => Nat.ble 2 k) = true) : ∀ k ∈ w, 2 ≤ k := fun k hk => Nat.le_of_ble_eq_true (List.all_eq_true.1 h k hk)
structure TcA where
 tb : Nat
 mb : Nat
 most : Int
 l : List CliX
 ck : Nat
 n : Int
 now : Int
def TcA.at (x : TcA) (H : Tr AObj) : Prop := H.get x.tb = some (tabO x.most x.mb) ∧ H.get x.mb = some (.map (encC x.l) x.ck)
def goodC (most : Int) (l : List CliX) : Prop := 1 ≤ most ∧ (keysC l).Nodup ∧ rangeC l ∧ l.length ≤ 1000000
theorem TcA.ne {x : TcA} {H : Tr AObj} (h : x.at H) : [x.tb, x.mb].Nodup := by
 have : x.tb ≠ x.mb := fun e => by
  have h1 := h.1
  rw [e, h.2] at h1
  cases h1
 simp [this]
theorem zPt {tb mb mb' : Nat} {most most' : Int} {l l' : List CliX} {ck ck' : Nat} {H : Tr AObj} (h1 : H.get tb = some (tabO most mb)) (h2 : H.get mb = some (.map (encC l) ck)) (k1 : H.get tb = some (tabO most' mb')) (k2 : H.get mb' = some (.map (encC l') ck')) : mb = mb' ∧ most = most' ∧ l = l' ∧ ck = ck' := by
 rw [h1] at k1
 simp only [tabO, Option.some.injEq, AObj.cells.injEq, List.cons.injEq, Value.map.injEq, Value.int.injEq, true_and, and_true] at k1
 obtain ⟨rfl, rfl⟩ := k1
 rw [h2] at k2
 simp only [Option.some.injEq, AObj.map.injEq] at k2
 obtain ⟨e2, rfl⟩ := k2
 exact ⟨rfl, rfl, zLu e2, rfl⟩
theorem zRj {x : TcA} {H : Tr AObj} (h : x.at H) : CallB Try.prog [x.tb, x.mb] H (tabH x.most x.l x.ck) :=
 zEv ⟨⟨x.tb, _, rfl, h.1, zAh rfl⟩, ⟨x.mb, _, rfl, h.2, zAf _ _⟩, trivial⟩
theorem zKn {f : FuncId} {args args0 : List Value} {H H' : Tr AObj} {n m tb mb ck ck' : Nat} {wr : List Nat} {most : Int} {l l' : List CliX} {v0 v : Value} (h1 : H.get tb = some (tabO most mb)) (h2 : H.get mb = some (.map (encC l) ck)) (hF : FnS Try.prog 0 f args0 (tabH most l ck) 2 (.ret v0 H' m wr)) (ha : RL (caR [tb, mb]) args args0) (hv : RV (tau [tb, mb] [] n) v0 v) (g0 : H'.get 0 = some (tabO most 1)) (g1 : H'.get 1 = some (.map (encC l') ck')) :
  CallOK Try.prog 0 f args H n (.ret v (setL H [(mb, some (.map (encC l') ck'))]) (n + 0) [tb, mb]) := by
 have hat : TcA.at ⟨tb, mb, most, l, ck, 0, 0⟩ H := ⟨h1, h2⟩
 refine zCl (n := n) [tb, mb] [] [(mb, some (.map (encC l') ck'))] (hF.wrT [1]) (TcA.ne hat) (zRj hat) ha (fun k o ho hk => ?_) (fun j hj => ?_) List.nodup_nil (fun y hy => by cases hy) hv (fun p hp => ?_) (fun k j e hk => ?_) (fun j o ho => ?_)
 ·match k, hk, ho with
  | 0, _, ho => have ho : some (AObj.cells _ _) = some o := ho; cases ho; exact fun h => h
  | 1, _, ho => have ho : some (AObj.map _ _) = some o := ho; cases ho; exact fun h => h
  | k + 2, hk, _ => have hk : k + 2 < 2 := hk; omega
 ·simp only [List.mem_cons, List.not_mem_nil, or_false] at hj
  rcases hj with rfl | rfl
  ·exact ⟨_, h1, fun h => h⟩
  ·exact ⟨_, h2, fun h => h⟩
 ·simp only [List.mem_singleton] at hp
  subst hp
  exact .inl (List.mem_cons_of_mem _ (List.mem_cons_self ..))
 ·match k, e with
  | 0, e => cases e; exact .inr ⟨_, _, h1, g0, zAh (zEb rfl)⟩
  | 1, e => cases e; exact .inl (List.mem_cons_self ..)
  | k + 2, e => cases e
 ·simp only [List.mem_singleton, Prod.mk.injEq, Option.some.injEq] at ho
  obtain ⟨rfl, rfl⟩ := ho
  exact ⟨1, _, zEb rfl, g1, zAf _ _, fun _ => List.mem_append_left _ (List.mem_singleton.2 rfl)⟩
def touchV (r : Int × Bool × Int × List CliX × Nat) : Value := .tuple #[.int .i64 r.1, .bool r.2.1, .int .i64 r.2.2.1]
def tabOut (v : Value) (tb mb : Nat) (l : List CliX) (ck : Nat) (H : Tr AObj) (n : Nat) : Res := .ret v (H.set mb (some (.map (encC l) ck))) n [tb, mb]
noncomputable def ct_touch : Ct Try.prog 0 :=
 CtR.ct { f := 11, X := TcA, pre := fun x a H _ => a = [.pointer (some ⟨x.tb, 0, none⟩), .int .i64 x.n, .int .i64 x.now] ∧ x.at H ∧ goodC x.most x.l,
          out := fun x H n => tabOut (touchV (touchF x.most x.l x.ck x.n x.now)) x.tb x.mb (touchF x.most x.l x.ck x.n x.now).2.2.2.1 (touchF x.most x.l x.ck x.n x.now).2.2.2.2 H n,
          ok := fun x a H n ⟨h1, h2, h3⟩ => by
           subst h1
           obtain ⟨r, hF, H', m, wr, rfl, g0, g1⟩ := touch_fn x.most x.l x.ck x.n x.now h3.1 h3.2.1 h3.2.2.1 h3.2.2.2
           exact zKn h2.1 h2.2 hF (.cons _ _ _ _ (.ptr _ _ _ rfl) (.cons _ _ _ _ (.int _ _) (.cons _ _ _ _ (.int _ _) .nil))) (.tuple _ _ (.cons _ _ _ _ (.int _ _) (.cons _ _ _ _ (.bool _) (.cons _ _ _ _ (.int _ _) .nil)))) g0 g1,
          uniq := fun x y a H n ⟨h1, h2, _⟩ ⟨k1, k2, _⟩ => by
           rw [h1] at k1
           obtain ⟨tb, mb, most, l, ck, n1, now⟩ := x
           obtain ⟨tb', mb', most', l', ck', n1', now'⟩ := y
           simp only [List.cons.injEq, Value.pointer.injEq, Option.some.injEq, Addr.mk.injEq, Value.int.injEq, true_and, and_true] at k1
           obtain ⟨rfl, rfl, rfl⟩ := k1
           obtain ⟨rfl, rfl, rfl, rfl⟩ := zPt h2.1 h2.2 k2.1 k2.2
           rfl,
          tr := fun x H n K => frcN x.tb fun tb => frcN x.mb fun mb => K (tabOut (touchV (touchF x.most x.l x.ck x.n x.now)) tb mb (touchF x.most x.l x.ck x.n x.now).2.2.2.1 (touchF x.most x.l x.ck x.n x.now).2.2.2.2 H n),
          trOk := fun x H n K h => by rw [zAs, zAs] at h; exact h }
def idleF (l : List CliX) (n : Int) (b : Bool) : Int × List CliX := if hasC l n then (0, putC l n (whenC l n) b) else (6, l)
noncomputable def tbTq9 : Tb Try.prog 0 := tbOf mixed [zFd]
theorem idle_fn (most : Int) (l : List CliX) (ck : Nat) (n : Int) (b : Bool) (hm : 1 ≤ most) (hn : (keysC l).Nodup) : ∃ r, FnS Try.prog 0 12 [.pointer (some ⟨0, 0, none⟩), .int .i64 n, .bool b] (tabH most l ck) 2 r ∧ ∃ H m wr, r = .ret (.int .i64 (idleF l n b).1) H m wr ∧ H.get 0 = some (tabO most 1) ∧ H.get 1 = some (.map (encC (idleF l n b).2) ck) := by
 refine zCv mixed tbTq9 [900005, 900006] Try.func12 (c := bodyOf Try.f12) (by kernel_rfl) ?_
 refine ifK (fun h => absurd (show (most == 0) = true from h) (by simp; omega)) (fun _ => ?_)
 refine Exists.intro (.tuple #[.agg #[.int .i64 (whenC l n), .bool (idleC l n)], .bool (hasC l n)]) (Exists.intro [] (Exists.intro 0 (And.intro (zDh (e := 62) (l := l) (a := n) (ck := ck) (r := 1) (ok := true) rfl rfl rfl (by kernel_rfl) zEd rfl hn) ?_)))
 refine ifK (fun h3 => ?_) (fun h3 => ?_)
 ·have h3 : (!hasC l n) = true := h3
  have h3 : hasC l n = false := by simpa using h3
  rw [show idleF l n b = (6, l) by unfold idleF; rw [h3]; rfl]
  exact ⟨_, _, _, rfl, by kernel_rfl, by kernel_rfl⟩
 ·have h3 : (!hasC l n) = false := h3
  have h3 : hasC l n = true := by simpa using h3
  rw [show idleF l n b = (0, putC l n (whenC l n) b) by unfold idleF; rw [h3]; rfl]
  refine And.intro (by kernel_rfl) ?_
  refine Exists.intro undef (Exists.intro [((1 : Nat), some (AObj.map (encC (putC l n (whenC l n) b)) ck))] (Exists.intro (0 : Nat) (And.intro (Eq.trans (zQd (e := 62) (l := l) (a := n) (w := whenC l n) (b := b) (ck := ck) (r := 1) rfl rfl rfl rfl (by kernel_rfl) rfl hn) (by rw [h3]; rfl)) ?_)))
  exact ⟨_, _, _, rfl, by kernel_rfl, by kernel_rfl⟩
structure TiA where
 tb : Nat
 mb : Nat
 most : Int
 l : List CliX
 ck : Nat
 n : Int
 b : Bool
noncomputable def ct_idle : Ct Try.prog 0 :=
 CtR.ct { f := 12, X := TiA, pre := fun x a H _ => a = [.pointer (some ⟨x.tb, 0, none⟩), .int .i64 x.n, .bool x.b] ∧ (H.get x.tb = some (tabO x.most x.mb) ∧ H.get x.mb = some (.map (encC x.l) x.ck)) ∧ goodC x.most x.l,
          out := fun x H n => tabOut (.int .i64 (idleF x.l x.n x.b).1) x.tb x.mb (idleF x.l x.n x.b).2 x.ck H n,
          ok := fun x a H n ⟨h1, h2, h3⟩ => by
           subst h1
           obtain ⟨r, hF, H', m, wr, rfl, g0, g1⟩ := idle_fn x.most x.l x.ck x.n x.b h3.1 h3.2.1
           exact zKn h2.1 h2.2 hF (.cons _ _ _ _ (.ptr _ _ _ rfl) (.cons _ _ _ _ (.int _ _) (.cons _ _ _ _ (.bool _) .nil))) (.int _ _) g0 g1,
          uniq := fun x y a H n ⟨h1, h2, _⟩ ⟨k1, k2, _⟩ => by
           rw [h1] at k1
           obtain ⟨tb, mb, most, l, ck, n1, b⟩ := x
           obtain ⟨tb', mb', most', l', ck', n1', b'⟩ := y
           simp only [List.cons.injEq, Value.pointer.injEq, Option.some.injEq, Addr.mk.injEq, Value.int.injEq, Value.bool.injEq, true_and, and_true] at k1
           obtain ⟨rfl, rfl, rfl⟩ := k1
           obtain ⟨rfl, rfl, rfl, rfl⟩ := zPt h2.1 h2.2 k2.1 k2.2
           rfl,
          tr := fun x H n K => frcN x.tb fun tb => frcN x.mb fun mb => K (tabOut (.int .i64 (idleF x.l x.n x.b).1) tb mb (idleF x.l x.n x.b).2 x.ck H n),
          trOk := fun x H n K h => by rw [zAs, zAs] at h; exact h }
theorem when_fn (most : Int) (l : List CliX) (ck : Nat) (n : Int) (hm : 1 ≤ most) (hn : (keysC l).Nodup) : ∃ r, FnS Try.prog 0 17 [.pointer (some ⟨0, 0, none⟩), .int .i64 n] (tabH most l ck) 2 r ∧ ∃ H m wr, r = .ret (.tuple #[.int .i64 (whenC l n), .bool (hasC l n)]) H m wr ∧ ∀ k ∈ wr, 2 ≤ k := by
 refine zCv mixed tbTq9 [900005] Try.func17 (c := bodyOf Try.f17) (by kernel_rfl) ?_
 refine ifK (fun h => absurd (show (most == 0) = true from h) (by simp; omega)) (fun _ => ?_)
 refine Exists.intro (.tuple #[.agg #[.int .i64 (whenC l n), .bool (idleC l n)], .bool (hasC l n)]) (Exists.intro [] (Exists.intro 0 (And.intro (zDh (e := 62) (l := l) (a := n) (ck := ck) (r := 1) (ok := true) rfl rfl rfl (by kernel_rfl) zEd rfl hn) ?_)))
 exact ⟨_, _, _, rfl, wr_ge2 rfl⟩
noncomputable def ct_tabR (f : FuncId) (D : List CliX → Int → Value) (hp : ∀ l n, plainV 8 (D l n) = true) (hfn : ∀ (most : Int) (l : List CliX) (ck : Nat) (n : Int), 1 ≤ most → (keysC l).Nodup → ∃ r, FnS Try.prog 0 f [.pointer (some ⟨0, 0, none⟩), .int .i64 n] (tabH most l ck) 2 r ∧ ∃ H m wr, r = .ret (D l n) H m wr ∧ ∀ k ∈ wr, 2 ≤ k) : Ct Try.prog 0 :=
 CtR.ct { f := f, X := TiA, pre := fun x a H _ => (a = [.pointer (some ⟨x.tb, 0, none⟩), .int .i64 x.n] ∧ x.b = true) ∧ (H.get x.tb = some (tabO x.most x.mb) ∧ H.get x.mb = some (.map (encC x.l) x.ck)) ∧ goodC x.most x.l,
          out := fun x H n => .ret (D x.l x.n) H n [],
          ok := fun x a H n ⟨h1, h2, h3⟩ => by
           obtain ⟨h1, _⟩ := h1
           subst h1
           obtain ⟨r, hF, H', m, wr, rfl, hw⟩ := hfn x.most x.l x.ck x.n h3.1 h3.2.1
           have hat : TcA.at ⟨x.tb, x.mb, x.most, x.l, x.ck, 0, 0⟩ H := h2
           exact zAz [x.tb, x.mb] hF hw (zBi (TcA.ne hat)) (.cons _ _ _ _ (.ptr _ _ _ rfl) (.cons _ _ _ _ (.int _ _) .nil)) (zRj hat) (hp _ _),
          uniq := fun x y a H n ⟨h1, h2, _⟩ ⟨k1, k2, _⟩ => by
           obtain ⟨h1, hb⟩ := h1
           obtain ⟨k1, kb⟩ := k1
           rw [h1] at k1
           obtain ⟨tb, mb, most, l, ck, n1, b⟩ := x
           obtain ⟨tb', mb', most', l', ck', n1', b'⟩ := y
           simp only [List.cons.injEq, Value.pointer.injEq, Option.some.injEq, Addr.mk.injEq, Value.int.injEq, true_and, and_true] at k1
           obtain ⟨rfl, rfl⟩ := k1
           obtain ⟨rfl, rfl, rfl, rfl⟩ := zPt h2.1 h2.2 k2.1 k2.2
           rfl }
noncomputable def ct_when : Ct Try.prog 0 := ct_tabR 17 (fun l n => .tuple #[.int .i64 (whenC l n), .bool (hasC l n)]) (fun _ _ => rfl) when_fn
noncomputable def inl_has20 : Ct Try.prog 0 := Ct.inl (tbOf mixed [ct_when]) mixed [] 19 Try.f19 Try.func19 (bodyOf Try.f19) (by kernel_rfl)
end Go.Proofs.Ytpdeidlkeplegaa
namespace Go.Proofs.Ytpdeidlkeplegaa
open Go Go.RowKit
def layI : Lay Int := ⟨fun x => [.int .i64 x], 1, 3, fun _ => rfl, by decide, fun _ => rfl, fun x y h => by simpa using h⟩
theorem flatI (l : List Int) : l.flatMap layI.g = l.map iV := by
 induction l with
 | nil => rfl
 | cons x l ih => rw [List.flatMap_cons, ih]; rfl
end Go.Proofs.Ytpdeidlkeplegaa
namespace Go.Proofs.Ytpdeidlkeplegaa
open Go Go.RowKit
structure KvX where
 n : Int
 v : Value
def KvX.e (c : KvX) : MapEntry := { key := .int .i64 c.n, val := c.v, born := 0 }
section
variable {ev : Operand → Value} {G : Gh} {n : Nat} {o : Oper}
end
end Go.Proofs.Ytpdeidlkeplegaa
namespace Go.Proofs.Ytpdeidlkeplegaa
open Go Go.RowKit
end Go.Proofs.Ytpdeidlkeplegaa
namespace Go.Proofs.Ytpdeidlkeplegaa
open Go Go.RowKit
end Go.Proofs.Ytpdeidlkeplegaa
namespace Go.Proofs.Ytpdeidlkeplegaa
open Go Go.RowKit
theorem zGg {l : List CliX} {a w : Int} {b : Bool} (h : hasC l a = true) : keysC (putC l a w b) = keysC l := by
 unfold putC keysC
 rw [if_pos h, List.map_map]
 refine List.map_congr_left fun c _ => ?_
 show (if c.n == a then (⟨a, w, b⟩ : CliX) else c).n = c.n
 split
 ·rename_i e; exact (by simpa using e : c.n = a).symm
 ·rfl
end Go.Proofs.Ytpdeidlkeplegaa
namespace Go.Proofs.Ytpdeidlkeplegaa
open Go Go.RowKit
theorem own_at {α : Type} (L : Lay α) (l : List α) (i : Nat) (h : i < l.length) {sz : Nat} (hs : sz = L.k) : 0 + ((i : Nat) : Int).toNat * sz + sz ≤ (l.flatMap L.g).length ∧ ((l.flatMap L.g).drop (0 + ((i : Nat) : Int).toNat * sz)).take sz = L.g l[i] := by
 subst hs
 have := RdL.get L [] [] l i h
 rw [List.nil_append, List.append_nil, List.length_nil] at this
 rw [Int.toNat_natCast]; exact this
def layD : Lay CliX := ⟨fun c => [.int .i64 c.n, .int .i64 c.w, .bool c.i], 3, 47, fun _ => rfl, by decide, fun _ => rfl, fun x y h => by
 obtain ⟨a, b, c⟩ := x
 obtain ⟨a', b', c'⟩ := y
 simp only [List.cons.injEq, Value.int.injEq, Value.bool.injEq, true_and, and_true] at h
 obtain ⟨rfl, rfl, rfl⟩ := h
 rfl⟩
def dS (D : List CliX) : Option Nat → Value
 | none => .slice none 0 0
 | some lb => .slice (some ⟨lb, 0, none⟩) D.length U
def dT (most : Int) (D : List CliX) (o : Option Nat) : AObj := .cells [.int .i64 most, dS D o] 44
def dC (D : List CliX) : AObj := .cells (D.flatMap layD.g) 47
def dH0 (most : Int) : Tr AObj := heap 1 [(0, dT most [] none)]
def dH1 (most : Int) (D : List CliX) : Tr AObj := heap 2 [(0, dT most D (some 1)), (1, dC D)]
theorem zQf {σ : Nat → Nat → Prop} {most : Int} {D : List CliX} : RO Try.prog σ (dT most D none) (dT most D none) := RO.cells _ [] _ _ (.cons _ _ _ _ (.int _ _) (.cons _ _ _ _ (zBf 8 rfl) .nil))
theorem zBu {σ : Nat → Nat → Prop} {most : Int} {a b : Nat} {D : List CliX} (h : σ a b) : RO Try.prog σ (dT most D (some a)) (dT most D (some b)) := RO.cells _ [] _ _ (.cons _ _ _ _ (.int _ _) (.cons _ _ _ _ (.sl _ _ _ _ _ h) .nil))
theorem zBb {σ : Nat → Nat → Prop} (D : List CliX) : RO Try.prog σ (dC D) (dC D) := .same (zCy layD.g layD.plain _)
def atF (D : List CliX) (a : Int) : Int := match D.findIdx? (fun c => c.n == a) with | some i => (i : Int) | none => -1
theorem atF_eq {D : List CliX} {a : Int} {i : Nat} (h : i < D.length) (h1 : ∀ j (hj : j < i), D[j].n ≠ a) (h2 : D[i].n = a) : atF D a = i := by
 unfold atF
 rw [(List.findIdx?_eq_some_iff_getElem.2 ⟨h, by simpa using h2, fun j hj => by simpa using h1 j hj⟩ : D.findIdx? (fun c => c.n == a) = some i)]
theorem atF_no {D : List CliX} {a : Int} (h : ∀ j (hj : j < D.length), D[j].n ≠ a) : atF D a = -1 := by
 unfold atF
 rw [(List.findIdx?_eq_none_iff.2 fun x hx => by obtain ⟨j, hj, e⟩ := List.getElem_of_mem hx; subst e; simpa using h j hj : D.findIdx? (fun c => c.n == a) = none)]
theorem zBl {D : List CliX} {i : Nat} (h : i < D.length) (j : Nat) {v : Value} (hj : (layD.g D[i])[j]? = some v) : (D.flatMap layD.g)[0 + ((i : Nat) : Int).toNat * 3 + j]? = some v := by
 have hj3 : j < 3 := by
  by_cases hc : j < 3
  ·exact hc
  ·rw [List.getElem?_eq_none (by show 3 ≤ j; omega)] at hj; cases hj
 have := (own_at layD D i h (sz := 3) rfl).2
 rw [← this, List.getElem?_take_of_lt hj3, List.getElem?_drop] at hj
 exact hj
noncomputable def tbTs1 : Tb Try.prog 0 := tbOf mixed []
theorem zOb {w : List Nat} (h : (w.all fun k => Nat.ble 1 k) = true) : ∀ k ∈ w, 1 ≤ k := fun k hk => Nat.le_of_ble_eq_true (List.all_eq_true.1 h k hk)
theorem at_fn0 (most : Int) (a : Int) : ∃ r, FnS Try.prog 0 18 [.pointer (some ⟨0, 0, none⟩), .int .i64 a] (dH0 most) 1 r ∧ ∃ H m wr, r = .ret (.int .i64 (-1)) H m wr ∧ ∀ k ∈ wr, 1 ≤ k := by
 refine zCv mixed tbTs1 [] Try.func18 (c := bodyOf Try.f18) (by kernel_rfl) ?_
 refine LW.round (zEa tbTs1 [] 1 _ none mixed _ _ _ ?_)
 exact ⟨_, _, _, rfl, zOb rfl⟩
theorem at_fn1 (most : Int) (D : List CliX) (a : Int) (hl : D.length ≤ 1000000) : ∃ r, FnS Try.prog 0 18 [.pointer (some ⟨0, 0, none⟩), .int .i64 a] (dH1 most D) 2 r ∧ ∃ H m wr, r = .ret (.int .i64 (atF D a)) H m wr ∧ ∀ k ∈ wr, 2 ≤ k := by
 refine zCv mixed tbTs1 [1] Try.func18 (c := bodyOf Try.f18) (by kernel_rfl) ?_
 refine zCa (fun (i : Nat) f => ⟨slots 5 [(0, .pointer (some ⟨0, 0, none⟩)), (1, .int .i64 a), (5, .int .i64 (i : Nat))] f, dH1 most D, 2, [], []⟩) (fun i => D.length - i) (fun i => i ≤ D.length ∧ ∀ j (hj : j < D.length), j < i → D[j].n ≠ a) 0 ⟨Nat.zero_le _, fun j _ h => absurd h (by omega)⟩ ?_ ?_
 ·exact rcq [] ⟨⟨_, rfl, .ptr _ _ _ rfl⟩, ⟨_, rfl, .int _ _⟩, ⟨_, rfl, .int _ _⟩, trivial⟩ ⟨⟨by decide, _, rfl, zBu rfl⟩, ⟨by decide, _, rfl, zBb _⟩, trivial⟩ .nil
 rintro i f ⟨hi, heq⟩
 refine zEa tbTs1 [1] 2 _ none mixed _ _ _ ?_
 refine ifK (fun h1 => ?_) (fun h1 => ?_)
 ·have h1 : i < D.length := by have h1 : ((i : Nat) : Int) < ((D.length : Nat) : Int) := of_decide_eq_true h1; omega
  refine ifK (fun _ => ?_) (fun h2 => absurd h2 (by simp [inI]; omega))
  refine Exists.intro D[i].n (And.intro (zBl h1 0 rfl) ?_)
  refine ifK (fun h3 => ?_) (fun h3 => ?_)
  ·have h3 : D[i].n = a := by have h3 : (D[i].n == a) = true := h3; simpa using h3
   rw [atF_eq h1 (fun j hj => heq j (by omega) hj) h3]
   exact And.intro rfl (zCf (rcq [] (d := 5) (d2 := 0) (lv := [(4, .int .i64 (i : Nat))]) (bs := []) (W := []) (m := 2) (df := []) ⟨⟨_, rfl, .int _ _⟩, trivial⟩ trivial .nil) (fun f => ⟨_, _, _, rfl, fun k hk => by cases hk⟩))
  ·have h3 : D[i].n ≠ a := by have h3 : (D[i].n == a) = false := h3; simpa using h3
   exact ⟨i + 1, ⟨h1, fun j hj hji => by
    rcases Nat.lt_succ_iff_lt_or_eq.1 hji with h | h
    ·exact heq j hj h
    ·subst h; exact h3⟩, by show D.length - (i + 1) < D.length - i; omega, rcq [] ⟨⟨_, rfl, .ptr _ _ _ rfl⟩, ⟨_, rfl, .int _ _⟩, zAc rfl (by show IntKind.i64.wrap ((i : Int) + 1) = ((i + 1 : Nat) : Int); rw [wrapN (by omega) (by omega)]; omega), trivial⟩ ⟨⟨by decide, _, rfl, zBu rfl⟩, ⟨by decide, _, rfl, zBb _⟩, trivial⟩ .nil⟩
 ·have h1 : ¬ i < D.length := by have h1 : ¬ ((i : Nat) : Int) < (D.length : Int) := of_decide_eq_false h1; omega
  rw [atF_no (fun j hj => heq j hj (by omega))]
  exact And.intro rfl (zCf (rcq [] (d := 5) (d2 := 0) (lv := []) (bs := []) (W := []) (m := 2) (df := []) trivial trivial .nil) (fun f => ⟨_, _, _, rfl, fun k hk => by cases hk⟩))
structure DtA where
 tb : Nat
 o : Option Nat
 most : Int
 D : List CliX
 n : Int
 now : Int
 is : Bool
def dAt (tb : Nat) (o : Option Nat) (most : Int) (D : List CliX) (H : Tr AObj) : Prop := H.get tb = some (dT most D o) ∧ match o with | none => D = [] | some lb => H.get lb = some (dC D)
theorem zAx {tb a : Nat} {most : Int} {D : List CliX} {H : Tr AObj} (h1 : H.get tb = some (dT most D (some a))) (h2 : H.get a = some (dC D)) : dAt tb (some a) most D H := ⟨h1, h2⟩
theorem zDm {tb : Nat} {most : Int} {H : Tr AObj} (h1 : H.get tb = some (dT most [] none)) : dAt tb none most [] H := ⟨h1, rfl⟩
theorem zGa {tb : Nat} {o o' : Option Nat} {most most' : Int} {D D' : List CliX} {H : Tr AObj} (h : dAt tb o most D H) (k : dAt tb o' most' D' H) : o = o' ∧ most = most' ∧ D = D' := by
 obtain ⟨h1, h2⟩ := h
 obtain ⟨k1, k2⟩ := k
 rw [h1] at k1
 have k1 := Option.some.inj k1
 cases o with
 | none =>
  cases o' with
  | none =>
   simp only [dT, dS, AObj.cells.injEq, List.cons.injEq, Value.int.injEq, true_and, and_true] at k1
   have h2 : D = [] := h2
   have k2 : D' = [] := k2
   exact ⟨rfl, k1, h2.trans k2.symm⟩
  | some b => simp [dT, dS] at k1
 | some a =>
  cases o' with
  | none => simp [dT, dS] at k1
  | some b =>
   simp only [dT, dS, AObj.cells.injEq, List.cons.injEq, Value.int.injEq, Value.slice.injEq, Option.some.injEq, Addr.mk.injEq, true_and, and_true] at k1
   obtain ⟨rfl, rfl, _⟩ := k1
   have h2 : H.get a = some (dC D) := h2
   have k2 : H.get a = some (dC D') := k2
   rw [h2] at k2
   simp only [dC, Option.some.injEq, AObj.cells.injEq, and_true] at k2
   exact ⟨rfl, rfl, layD.flat_inj _ _ k2⟩
theorem zMz {tb a : Nat} {most : Int} {D : List CliX} {H : Tr AObj} (h : dAt tb (some a) most D H) : tb ≠ a := fun e => by
 obtain ⟨h1, h2⟩ := h
 have h2 : H.get a = some (dC D) := h2
 rw [e, h2] at h1
 simp [dT, dC] at h1
theorem zEw {tb : Nat} {most : Int} {D : List CliX} {H : Tr AObj} (h : dAt tb none most D H) : CallB Try.prog [tb] H (dH0 most) :=
 zEv ⟨⟨tb, _, rfl, h.1, by have h2 : D = [] := h.2; rw [h2]; exact zQf⟩, trivial⟩
theorem zGb {tb a : Nat} {most : Int} {D : List CliX} {H : Tr AObj} (h : dAt tb (some a) most D H) : CallB Try.prog [tb, a] H (dH1 most D) :=
 zEv ⟨⟨tb, _, rfl, h.1, zBu rfl⟩, ⟨a, _, rfl, h.2, zBb _⟩, trivial⟩
noncomputable def ct_dat : Ct Try.prog 0 :=
 CtR.ct { f := 18, X := DtA, pre := fun x a H _ => (a = [.pointer (some ⟨x.tb, 0, none⟩), .int .i64 x.n] ∧ x.now = 0 ∧ x.is = true) ∧ dAt x.tb x.o x.most x.D H ∧ x.D.length ≤ 1000000,
          out := fun x H n => .ret (.int .i64 (atF x.D x.n)) H n [],
          ok := fun x a H n ⟨h1, h2, h3⟩ => by
           obtain ⟨h1, _⟩ := h1
           subst h1
           obtain ⟨tb, o, most, D, c, now, is⟩ := x
           cases o with
           | none =>
            obtain ⟨r, hF, H', m, wr, rfl, hw⟩ := at_fn0 most c
            have h2' : dAt tb none most D H := h2
            have : D = [] := h2'.2
            subst this
            exact zAz [tb] hF hw (zBi (by simp)) (.cons _ _ _ _ (.ptr _ _ _ rfl) (.cons _ _ _ _ (.int _ _) .nil)) (zEw h2') rfl
           | some lb =>
            obtain ⟨r, hF, H', m, wr, rfl, hw⟩ := at_fn1 most D c h3
            have h2' : dAt tb (some lb) most D H := h2
            exact zAz [tb, lb] hF hw (zBi (by simp [zMz h2'])) (.cons _ _ _ _ (.ptr _ _ _ rfl) (.cons _ _ _ _ (.int _ _) .nil)) (zGb h2') rfl,
          uniq := fun x y a H n ⟨h1, h2, _⟩ ⟨k1, k2, _⟩ => by
           obtain ⟨h1, hb, hc⟩ := h1
           obtain ⟨k1, kb, kc⟩ := k1
           rw [h1] at k1
           obtain ⟨tb, o, most, D, c, now, is⟩ := x
           obtain ⟨tb', o', most', D', c', now', is'⟩ := y
           simp only [List.cons.injEq, Value.pointer.injEq, Option.some.injEq, Addr.mk.injEq, Value.int.injEq, true_and, and_true] at k1
           obtain ⟨rfl, rfl⟩ := k1
           obtain ⟨rfl, rfl, rfl⟩ := zGa h2 k2
           have hb : now = 0 := hb
           have kb : now' = 0 := kb
           have hc : is = true := hc
           have kc : is' = true := kc
           rw [hb, kb, hc, kc] }
end Go.Proofs.Ytpdeidlkeplegaa
namespace Go.Proofs.Ytpdeidlkeplegaa
open Go Go.RowKit
theorem zCk {D : List CliX} {a : Int} (hn : (keysC D).Nodup) {k : Nat} (h : k < D.length) (e : D[k].n = a) : getC D a = some D[k] ∧ ∀ w b, putC D a w b = D.set k ⟨a, w, b⟩ := by
 have huniq : ∀ j (hj : j < D.length), D[j].n = a → j = k := fun j hj hja => by
  have h1 : (keysC D)[j]'(by unfold keysC; rwa [List.length_map]) = (keysC D)[k]'(by unfold keysC; rwa [List.length_map]) := by
   unfold keysC; rw [List.getElem_map, List.getElem_map, hja, e]
  exact (List.getElem_inj hn).1 h1
 have hg : getC D a = some D[k] := by
  unfold getC
  cases hf : D.find? (fun c => c.n == a) with
  | none => exact absurd (List.find?_eq_none.1 hf D[k] (List.getElem_mem h)) (by simp [e])
  | some c =>
   obtain ⟨j, hj, hje⟩ := List.getElem_of_mem (List.mem_of_find?_eq_some hf)
   have : c.n = a := by have := List.find?_some hf; simpa using this
   rw [← hje] at this
   have := huniq j hj this
   subst this
   rw [hje]
 refine ⟨hg, fun w b => ?_⟩
 unfold putC
 rw [if_pos (by unfold hasC; rw [hg]; rfl)]
 refine List.ext_getElem (by simp) fun j h1 h2 => ?_
 rw [List.getElem_map, List.getElem_set]
 by_cases hj : k = j
 ·subst hj
  rw [if_pos rfl, if_pos (by simpa using e)]
 ·rw [if_neg hj]
  have hj2 : j < D.length := by simpa using h1
  rw [if_neg (by simpa using fun q => hj (huniq j hj2 q).symm)]
theorem zEt (D : List CliX) (a : Int) : (atF D a = -1 ∧ hasC D a = false) ∨ ∃ k, ∃ h : k < D.length, atF D a = (k : Int) ∧ D[k].n = a ∧ hasC D a = true := by
 unfold atF
 cases hf : D.findIdx? (fun c => c.n == a) with
 | none =>
  refine .inl ⟨rfl, ?_⟩
  rw [List.findIdx?_eq_none_iff] at hf
  unfold hasC getC
  rw [List.find?_eq_none.2 (fun x hx => by rw [hf x hx]; decide)]; rfl
 | some i =>
  obtain ⟨h, h1, _⟩ := List.findIdx?_eq_some_iff_getElem.1 hf
  have h1 : D[i].n = a := by simpa using h1
  exact .inr ⟨i, h, rfl, h1, zBd.2 (h1 ▸ List.mem_map_of_mem (List.getElem_mem h))⟩
theorem take_add {α : Type} (a s : List α) (j : Nat) : (a ++ s).take (a.length + j) = a ++ s.take j := List.take_length_add_append ..
theorem drop_add {α : Type} (a s : List α) (j : Nat) : (a ++ s).drop (a.length + j) = s.drop j := List.drop_length_add_append ..
theorem own_set {D : List CliX} {i : Nat} (h : i < D.length) (d : CliX) (j : Nat) (v : Value) (hd : (layD.g D[i]).take j ++ [v] ++ (layD.g D[i]).drop (j + 1) = layD.g d) (hj : j < 3) : (D.flatMap layD.g).take (0 + i * 3 + j) ++ [v] ++ (D.flatMap layD.g).drop (0 + i * 3 + j + 1) = (D.set i d).flatMap layD.g := by
 obtain ⟨A, c, B, rfl, rfl⟩ : ∃ A c B, D = A ++ c :: B ∧ A.length = i := ⟨D.take i, D[i], D.drop (i + 1), by rw [← List.drop_eq_getElem_cons h, List.take_append_drop], by rw [List.length_take]; omega⟩
 have e1 : (A ++ c :: B).set A.length d = A ++ d :: B := by rw [List.set_append_right _ _ (Nat.le_refl _), Nat.sub_self, List.set_cons_zero]
 have e2 : (A ++ c :: B)[A.length]'h = c := by simp
 rw [e2] at hd
 rw [e1, List.flatMap_append, List.flatMap_append, List.flatMap_cons, List.flatMap_cons]
 have e3 : 0 + A.length * 3 + j = (A.flatMap layD.g).length + j := by rw [zAa layD.g layD.k layD.len]; show _ = A.length * 3 + j; omega
 rw [e3, Nat.add_assoc, take_add, drop_add]
 have hl : (layD.g c).length = 3 := rfl
 rw [List.take_append_of_le_length (by omega), List.drop_append_of_le_length (by omega), ← hd]
 simp only [List.append_assoc]
theorem zRa {D : List CliX} {i : Nat} (h : i < D.length) (j : Nat) (hj : j < 3) : 0 + i * 3 + j + 1 ≤ (D.flatMap layD.g).length := by
 rw [zAa layD.g layD.k layD.len]
 show _ ≤ D.length * 3
 omega
theorem int_tyD : TyIs Try.prog 3 1 8 (.int .i64 0) := zPu (by kernel_rfl)
theorem bool_tyD : TyIs Try.prog 4 1 1 (.bool false) := zPu (by kernel_rfl)
noncomputable def tbTs2 : Tb Try.prog 0 := tbOf mixed [ct_dat]
theorem didle_fn0 (most : Int) (a : Int) (is : Bool) : ∃ r, FnS Try.prog 0 15 [.pointer (some ⟨0, 0, none⟩), .int .i64 a, .bool is] (dH0 most) 1 r ∧ ∃ H m wr, r = .ret (.int .i64 (idleF [] a is).1) H m wr ∧ ∀ k ∈ wr, 1 ≤ k := by
 refine zCv mixed tbTs2 [] Try.func15 (c := bodyOf Try.f15) (by kernel_rfl) ?_
 refine Exists.intro ⟨0, none, most, [], a, 0, true⟩ (And.intro ⟨⟨rfl, rfl, rfl⟩, zDm (by kernel_rfl), Nat.zero_le _⟩ ?_)
 exact ⟨_, _, _, rfl, zOb rfl⟩
theorem didle_fn1 (most : Int) (D : List CliX) (a : Int) (is : Bool) (hn : (keysC D).Nodup) (hl : D.length ≤ 1000000) : ∃ r, FnS Try.prog 0 15 [.pointer (some ⟨0, 0, none⟩), .int .i64 a, .bool is] (dH1 most D) 2 r ∧ ∃ H m wr, r = .ret (.int .i64 (idleF D a is).1) H m wr ∧ H.get 0 = some (dT most D (some 1)) ∧ H.get 1 = some (dC (idleF D a is).2) := by
 refine zCv mixed tbTs2 [1, 900003] Try.func15 (c := bodyOf Try.f15) (by kernel_rfl) ?_
 refine Exists.intro ⟨0, some 1, most, D, a, 0, true⟩ (And.intro ⟨⟨rfl, rfl, rfl⟩, zAx (by kernel_rfl) (by kernel_rfl), hl⟩ ?_)
 rcases zEt D a with ⟨h1, h2⟩ | ⟨k, hk, h1, h2, h3⟩
 ·refine ifK (fun h => ?_) (fun h => absurd (show decide (atF D a < 0) = false from h) (by rw [h1]; decide))
  have : idleF D a is = (6, D) := by unfold idleF; rw [h2]; rfl
  rw [this]
  exact ⟨_, _, _, rfl, by kernel_rfl, by kernel_rfl⟩
 ·refine ifK (fun h => absurd (show decide (atF D a < 0) = true from h) (by rw [h1]; simp)) (fun h => ?_)
  refine ifK (fun _ => ?_) (fun h => absurd (show inI (atF D a) D.length = false from h) (by rw [h1]; simp [inI]; omega))
  have e : idleF D a is = (0, D.set k ⟨a, whenC D a, is⟩) := by unfold idleF; rw [h3, if_pos rfl, (zCk hn hk h2).2]
  refine Exists.intro undef (Exists.intro [((1 : Nat), some (dC (D.set k ⟨a, whenC D a, is⟩)))] (Exists.intro (0 : Nat) (And.intro ?_ ?_)))
  ·refine zFx (b := 1) (off := 0 + (atF D a).toNat * 3 + 2) (sz := 1) (v := .bool is) (C := D.flatMap layD.g) rfl rfl rfl rfl bool_tyD rfl rfl ?_ ?_
   ·rw [h1]; exact zRa hk 2 (by decide)
   ·rw [h1]
    refine own_set hk _ 2 _ ?_ (by decide)
    have hw : D[k].w = whenC D a := by unfold whenC; rw [(zCk hn hk h2).1]; rfl
    show [Value.int .i64 D[k].n, .int .i64 D[k].w, .bool is] = [.int .i64 a, .int .i64 (whenC D a), .bool is]
    rw [h2, hw]
  ·rw [e]
   exact ⟨_, _, _, rfl, by kernel_rfl, by kernel_rfl⟩
end Go.Proofs.Ytpdeidlkeplegaa
namespace Go.Proofs.Ytpdeidlkeplegaa
open Go Go.RowKit
def insD (D : List CliX) (c : CliX) : List CliX := D.takeWhile (fun x => decide (x.n < c.n)) ++ c :: D.dropWhile (fun x => decide (x.n < c.n))
theorem insD_at {D : List CliX} {c : CliX} {i : Nat} (hi : i ≤ D.length) (h1 : ∀ j (hj : j < D.length), j < i → D[j].n < c.n) (h2 : ∀ h : i < D.length, ¬ D[i].n < c.n) : insD D c = D.take i ++ c :: D.drop i := by
 have e : D = D.take i ++ D.drop i := (List.take_append_drop i D).symm
 have ht : ∀ x ∈ D.take i, decide (x.n < c.n) = true := fun x hx => by
  obtain ⟨j, hj, hje⟩ := List.getElem_of_mem hx
  rw [List.length_take] at hj
  rw [List.getElem_take] at hje
  rw [← hje]
  exact decide_eq_true (h1 j (by omega) (by omega))
 unfold insD
 conv => lhs; rw [e]
 rw [List.takeWhile_append_of_pos ht, List.dropWhile_append_of_pos ht]
 by_cases hl : i < D.length
 ·rw [List.drop_eq_getElem_cons hl, List.takeWhile_cons_of_neg (by simpa using h2 hl), List.dropWhile_cons_of_neg (by simpa using h2 hl), List.append_nil]
 ·rw [List.drop_eq_nil_of_le (by omega)]; simp
theorem zSb (D : List CliX) (lo : Nat) (h : lo ≤ D.length) : (D.flatMap layD.g).drop (lo * 3) = (D.drop lo).flatMap layD.g := by
 have e : (D.take lo).flatMap layD.g ++ (D.drop lo).flatMap layD.g = D.flatMap layD.g := by rw [← List.flatMap_append, List.take_append_drop]
 have hl : ((D.take lo).flatMap layD.g).length = lo * 3 := by rw [zAa layD.g layD.k layD.len, List.length_take, Nat.min_eq_left h]; rfl
 rw [← e, ← hl, List.drop_left]
theorem zSc (D : List CliX) (n : Nat) (h : n ≤ D.length) : (D.flatMap layD.g).take (n * 3) = (D.take n).flatMap layD.g := by
 have e : (D.take n).flatMap layD.g ++ (D.drop n).flatMap layD.g = D.flatMap layD.g := by rw [← List.flatMap_append, List.take_append_drop]
 have hl : ((D.take n).flatMap layD.g).length = n * 3 := by rw [zAa layD.g layD.k layD.len, List.length_take, Nat.min_eq_left h]; rfl
 rw [← e, ← hl, List.take_left]
theorem zDz {G : Gh} {b c lo n off sz m : Nat} {D E : List CliX} (hs : sz = 3) (ho : off = lo * 3) (hm : m = n) (hG : (G b).bind AObj.look = some (D.flatMap layD.g)) (h : lo + n ≤ D.length) (hE : (D.drop lo).take n = E) : zAk G sz (.slice (some ⟨b, off, none⟩) m c) = some (m, E.flatMap layD.g) := by
 subst hs ho hm hE
 unfold zAk
 cases hl : Nat.beq m 0 with
 | true =>
  have : m = 0 := Nat.eq_of_beq_eq_true hl
  subst this
  rfl
 | false =>
  simp only [hG]
  rw [show (lo * 3 + m * 3).ble (D.flatMap layD.g).length = true from Nat.ble_eq_true_of_le (by rw [zAa layD.g layD.k layD.len]; show _ ≤ D.length * 3; omega), zSb D lo (by omega), zSc _ m (by rw [List.length_drop]; omega)]
  rw [hl]; rfl
theorem zAd : (Try.prog.types[47]).size = 3 := by kernel_rfl
theorem zDi {la lm l m sz bytes : Nat} {C news : List Value} (hs : sz = 3) (hb : bytes ≤ 100) (hC : C.length = la * 3) (hn : news.length = lm * 3) (ho : oneL news = true) (h1 : l = la) (h2 : m = lm) (h3 : la + lm ≤ 3000000) (h4 : lm ≠ 0) :
  (Nat.beq 0 0 && Nat.beq 47 47 && (l * sz).ble C.length && oneL news && decide ((l + m) * bytes ≤ 140737488355328) && decide (l + m ≤ 9223372036854775807) && Nat.blt C.length (0 + l * sz + news.length)) = true := by
 subst hs h1 h2
 have h5 := Nat.mul_le_mul h3 hb
 rw [ho, hC, hn, Nat.ble_eq_true_of_le (Nat.le_refl _), decide_eq_true (show (l + m) * bytes ≤ 140737488355328 by omega), decide_eq_true (show l + m ≤ 9223372036854775807 by omega), show Nat.blt (l * 3) (0 + l * 3 + m * 3) = true from Nat.ble_eq_true_of_le (by show l * 3 + 1 ≤ _; omega)]
 rfl
theorem zEj : (Try.prog.types[47]).bytes ≤ 100 := by decide +kernel
theorem zCm {most : Int} {D : List CliX} {b n : Nat} (h : n = D.length) : some (AObj.cells [.int .i64 most, .slice (some ⟨b, 0, none⟩) n U] 44) = some (dT most D (some b)) := by subst h; rfl
theorem zLs {D : List CliX} {X : List Value} (h : X = D.flatMap layD.g) : some (AObj.cells X 47) = some (dC D) := by subst h; rfl
theorem zJj (l : List CliX) : oneL (l.flatMap layD.g) = true := by rw [oneL, List.all_flatMap]; exact List.all_eq_true.2 fun x _ => rfl
theorem zDo (D : List CliX) (c : CliX) : (insD D c).length = D.length + 1 := by
 have := congrArg List.length (List.takeWhile_append_dropWhile (p := fun x : CliX => decide (x.n < c.n)) (l := D))
 unfold insD
 rw [List.length_append] at this ⊢
 rw [List.length_cons]; omega
theorem zGs {w : List Nat} (h : (w.all fun k => !Nat.beq k 1) = true) : ∀ k ∈ w, k ≠ 1 := fun k hk e => by
 have := List.all_eq_true.1 h k hk
 rw [e] at this; cases this
noncomputable def tbTs3 : Tb Try.prog 0 := tbOf mixed []
def addS (most : Int) (D : List CliX) (c : CliX) (i : Nat) (f : Nat → Option Value) : Fs := ⟨slots 6 [(0, .pointer (some ⟨0, 0, none⟩)), (3, .pointer (some ⟨2, 0, none⟩)), (4, .int .i64 (i : Nat))] f, heap 2 [(0, dT most D (some 1)), (1, dC D), (2, .cells (layD.g c) 47)], 3, [], []⟩
theorem add_fn1 (most : Int) (D : List CliX) (c : CliX) (hl : D.length ≤ 1000000) : ∃ r, FnS Try.prog 0 27 [.pointer (some ⟨0, 0, none⟩), .agg #[Value.int .i64 c.n, Value.int .i64 c.w, Value.bool c.i]] (dH1 most D) 2 r ∧ ∃ H m wr b, r = .ret (.tuple #[]) H m wr ∧ (∀ k ∈ wr, k ≠ 1) ∧ 0 ∈ wr ∧ 2 ≤ b ∧ b < JJ ∧ H.get 0 = some (dT most (insD D c) (some b)) ∧ H.get b = some (dC (insD D c)) := by
 refine zCv mixed tbTs3 [1] Try.func27 (c := bodyOf Try.f27) (by kernel_rfl) ?_
 refine zCa (fun (i : Nat) f => addS most D c i f) (fun i => D.length - i) (fun i => i ≤ D.length ∧ ∀ j (hj : j < D.length), j < i → D[j].n < c.n) 0 ⟨Nat.zero_le _, fun j _ h => absurd h (by omega)⟩ ?_ ?_
 ·exact rcq [2] ⟨⟨_, rfl, .ptr _ _ _ rfl⟩, ⟨_, rfl, .ptr _ _ _ rfl⟩, ⟨_, rfl, .int _ _⟩, trivial⟩ ⟨⟨by decide, _, rfl, zBu rfl⟩, ⟨by decide, _, rfl, zBb _⟩, bpo rfl, trivial⟩ .nil
 rintro i f ⟨hi, heq⟩
 have hi : i ≤ D.length := hi
 refine zEa tbTs3 [1] 2 _ none mixed _ _ _ ?_
 refine And.intro (by kernel_rfl) ?_
 refine ifK (fun h1 => ?_) (fun h1 => ?_)
 ·have h1 : i < D.length := by have h1 : ((i : Nat) : Int) < ((D.length : Nat) : Int) := of_decide_eq_true h1; omega
  refine ifK (fun _ => ?_) (fun h2 => absurd h2 (by simp [inI]; omega))
  refine Exists.intro D[i].n (And.intro (zBl h1 0 rfl) ?_)
  refine ifK (fun h3 => ?_) (fun h3 => ?_)
  ·have h3 : D[i].n < c.n := of_decide_eq_true h3
   exact ⟨i + 1, ⟨h1, fun j hj hji => by
    rcases Nat.lt_succ_iff_lt_or_eq.1 hji with h | h
    ·exact heq j hj h
    ·subst h; exact h3⟩, by show D.length - (i + 1) < D.length - i; omega, rcq [2] ⟨⟨_, rfl, .ptr _ _ _ rfl⟩, ⟨_, rfl, .ptr _ _ _ rfl⟩, zAc rfl (by show IntKind.i64.wrap ((i : Int) + 1) = ((i + 1 : Nat) : Int); rw [wrapN (by omega) (by omega)]; omega), trivial⟩ ⟨⟨by decide, _, rfl, zBu rfl⟩, ⟨by decide, _, rfl, zBb _⟩, bpo rfl, trivial⟩ .nil⟩
  ·have h3 : ¬ D[i].n < c.n := of_decide_eq_false h3
   have hX1 : (List.take ((0 + (((i : Nat) : Int).toNat - Int.toNat 0)) * 3) ([] ++ (D.take i).flatMap layD.g) ++ [Value.int .i64 c.n, Value.int .i64 c.w, Value.bool c.i]) = (D.take i).flatMap layD.g ++ [Value.int .i64 c.n, Value.int .i64 c.w, Value.bool c.i] := by rw [List.nil_append, List.take_of_length_le (by rw [zAa layD.g layD.k layD.len, List.length_take, Nat.min_eq_left hi]; show i * 3 ≤ _; omega)]
   have hins : insD D c = D.take i ++ c :: D.drop i := insD_at hi heq (fun h => h3)
   refine And.intro rfl (zCf (rcq [2] (d := 6) (d2 := 2) (lv := [(0, .pointer (some ⟨0, 0, none⟩)), (3, .pointer (some ⟨2, 0, none⟩)), (4, .int .i64 (i : Nat))]) (bs := [(0, dT most D (some 1)), (1, dC D), (2, .cells (layD.g c) 47)]) (W := []) (m := 3) (df := []) ⟨⟨_, rfl, .ptr _ _ _ rfl⟩, ⟨_, rfl, .ptr _ _ _ rfl⟩, ⟨_, rfl, .int _ _⟩, trivial⟩ ⟨⟨by decide, _, rfl, zBu rfl⟩, ⟨by decide, _, rfl, zBb _⟩, bpo rfl, trivial⟩ .nil) (fun f => ?_))
   refine And.intro (by kernel_rfl) ?_
   refine And.intro (by simp [inLH]; omega) ?_
   refine Exists.intro ((D.take i).flatMap layD.g) (And.intro (zDz (lo := 0) (n := i) (D := D) zAd (by rw [zAd]; rfl) (by rw [Int.toNat_natCast]; rfl) (by kernel_rfl) (by omega) (by rw [List.drop_zero])) ?_)
   refine ifK (fun h4 => ?_) (fun h4 => ?_)
   ·refine And.intro (by simp [inLH]; omega) ?_
    refine Exists.intro ((D.drop i).flatMap layD.g) (And.intro (zDz (lo := i) (n := D.length - i) (D := D) zAd (by rw [zAd, Int.toNat_natCast, Nat.zero_add]) (by omega) (by kernel_rfl) (by omega) (List.take_of_length_le (by rw [List.length_drop]; omega))) ?_)
    refine ifK (fun h5 => ?_) (fun h5 => ?_)
    ·have h6 : D = [] := List.length_eq_zero_iff.1 (by have := Nat.eq_of_beq_eq_true h5; have := Nat.eq_of_beq_eq_true h4; omega)
     rw [show insD D c = [c] by rw [h6]; rfl]
     exact ⟨_, _, _, 5, rfl, zGs rfl, List.mem_of_elem_eq_true rfl, by decide, by decide, by kernel_rfl, by kernel_rfl⟩
    ·have h5 : D.length - i ≠ 0 := fun e => by rw [show (((D.length : Nat) : Int).toNat - ((i : Nat) : Int).toNat).beq 0 = true by rw [show ((D.length : Nat) : Int).toNat - ((i : Nat) : Int).toNat = 0 by omega]; rfl] at h5; cases h5
     have h7 : i = 0 := by have := Nat.eq_of_beq_eq_true h4; omega
     refine And.intro (zDi (la := 1) (lm := D.length - i) zAd zEj (by rw [zAd]; rfl) (by rw [zAa layD.g layD.k layD.len, List.length_drop]; rfl) (zJj _) rfl (by omega) (by omega) h5) ?_
     refine ⟨_, _, _, 6, rfl, zGs rfl, List.mem_of_elem_eq_true rfl, by decide, by decide, Eq.trans (show _ = some (AObj.cells [.int .i64 most, .slice (some ⟨6, 0, none⟩) (0 + 1 + (((D.length : Nat) : Int).toNat - ((i : Nat) : Int).toNat)) U] 44) from by kernel_rfl) (zCm (by rw [zDo]; omega)), Eq.trans (show _ = some (AObj.cells ([Value.int .i64 c.n, Value.int .i64 c.w, Value.bool c.i] ++ (D.drop i).flatMap layD.g) 47) from by kernel_rfl) (zLs ?_)⟩
     rw [hins, h7]; rfl
   ·have h4 : i ≠ 0 := fun e => by subst e; exact absurd h4 (by decide)
    refine And.intro (by have := Nat.mul_le_mul (show 0 + (((i : Nat) : Int).toNat - Int.toNat 0) ≤ 1000000 by omega) zEj
                         simp only [Bool.and_eq_true, decide_eq_true_eq]; and_intros <;> omega) ?_
    refine And.intro (zDi (la := i) (lm := 1) zAd zEj (by rw [List.nil_append, zAa layD.g layD.k layD.len, List.length_take, Nat.min_eq_left hi]; rfl) (by rw [zAd]; rfl) (by rw [zAd]; rfl) (by omega) rfl (by omega) (by decide)) ?_
    refine And.intro (by simp [inLH]; omega) ?_
    refine Exists.intro ((D.drop i).flatMap layD.g) (And.intro (zDz (lo := i) (n := D.length - i) (D := D) zAd (by rw [zAd, Int.toNat_natCast, Nat.zero_add]) (by omega) (by kernel_rfl) (by omega) (List.take_of_length_le (by rw [List.length_drop]; omega))) ?_)
    refine ifK (fun h5 => ?_) (fun h5 => ?_)
    ·have h6 : D.length = i := by have := Nat.eq_of_beq_eq_true h5; omega
     refine ⟨_, _, _, 6, rfl, zGs rfl, List.mem_of_elem_eq_true rfl, by decide, by decide, Eq.trans (show _ = some (AObj.cells [.int .i64 most, .slice (some ⟨6, 0, none⟩) ((0 + (((i : Nat) : Int).toNat - Int.toNat 0)) + 1) U] 44) from by kernel_rfl) (zCm (by rw [zDo]; omega)), Eq.trans (show _ = some (AObj.cells (List.take ((0 + (((i : Nat) : Int).toNat - Int.toNat 0)) * 3) ([] ++ (D.take i).flatMap layD.g) ++ [Value.int .i64 c.n, Value.int .i64 c.w, Value.bool c.i]) 47) from by kernel_rfl) (zLs ?_)⟩
     rw [hX1, hins, List.flatMap_append, List.drop_eq_nil_of_le (by omega)]; rfl
    ·have h5 : D.length - i ≠ 0 := fun e => by rw [show (((D.length : Nat) : Int).toNat - ((i : Nat) : Int).toNat).beq 0 = true by rw [show ((D.length : Nat) : Int).toNat - ((i : Nat) : Int).toNat = 0 by omega]; rfl] at h5; cases h5
     refine And.intro (zDi (la := i + 1) (lm := D.length - i) zAd zEj (by show (List.take ((0 + (((i : Nat) : Int).toNat - Int.toNat 0)) * (Try.prog.types[47]).size) ([] ++ (D.take i).flatMap layD.g) ++ [Value.int .i64 c.n, Value.int .i64 c.w, Value.bool c.i]).length = _; rw [zAd, hX1, List.length_append, zAa layD.g layD.k layD.len, List.length_take, Nat.min_eq_left hi]; show i * 3 + 3 = _; omega) (by rw [zAa layD.g layD.k layD.len, List.length_drop]; rfl) (zJj _) (by omega) (by omega) (by omega) h5) ?_
     refine ⟨_, _, _, 7, rfl, zGs rfl, List.mem_of_elem_eq_true rfl, by decide, by decide, Eq.trans (show _ = some (AObj.cells [.int .i64 most, .slice (some ⟨7, 0, none⟩) ((0 + (((i : Nat) : Int).toNat - Int.toNat 0)) + 1 + (((D.length : Nat) : Int).toNat - ((i : Nat) : Int).toNat)) U] 44) from by kernel_rfl) (zCm (by rw [zDo]; omega)), Eq.trans (show _ = some (AObj.cells (List.take (((0 + (((i : Nat) : Int).toNat - Int.toNat 0)) + 1) * 3) (List.take ((0 + (((i : Nat) : Int).toNat - Int.toNat 0)) * 3) ([] ++ (D.take i).flatMap layD.g) ++ [Value.int .i64 c.n, Value.int .i64 c.w, Value.bool c.i]) ++ (D.drop i).flatMap layD.g) 47) from by kernel_rfl) (zLs ?_)⟩
     rw [hX1, List.take_of_length_le (by rw [List.length_append, zAa layD.g layD.k layD.len, List.length_take, Nat.min_eq_left hi]; show i * 3 + 3 ≤ _; omega), hins, List.flatMap_append, List.flatMap_cons, List.append_assoc]; rfl
 ·have h1 : ¬ i < D.length := by have h1 : ¬ ((i : Nat) : Int) < (D.length : Int) := of_decide_eq_false h1; omega
  have hX1 : (List.take ((0 + (((i : Nat) : Int).toNat - Int.toNat 0)) * 3) ([] ++ (D.take i).flatMap layD.g) ++ [Value.int .i64 c.n, Value.int .i64 c.w, Value.bool c.i]) = (D.take i).flatMap layD.g ++ [Value.int .i64 c.n, Value.int .i64 c.w, Value.bool c.i] := by rw [List.nil_append, List.take_of_length_le (by rw [zAa layD.g layD.k layD.len, List.length_take, Nat.min_eq_left hi]; show i * 3 ≤ _; omega)]
  have hins : insD D c = D.take i ++ c :: D.drop i := insD_at hi heq (fun h => absurd h h1)
  refine And.intro rfl (zCf (rcq [2] (d := 6) (d2 := 2) (lv := [(0, .pointer (some ⟨0, 0, none⟩)), (3, .pointer (some ⟨2, 0, none⟩)), (4, .int .i64 (i : Nat))]) (bs := [(0, dT most D (some 1)), (1, dC D), (2, .cells (layD.g c) 47)]) (W := []) (m := 3) (df := []) ⟨⟨_, rfl, .ptr _ _ _ rfl⟩, ⟨_, rfl, .ptr _ _ _ rfl⟩, ⟨_, rfl, .int _ _⟩, trivial⟩ ⟨⟨by decide, _, rfl, zBu rfl⟩, ⟨by decide, _, rfl, zBb _⟩, bpo rfl, trivial⟩ .nil) (fun f => ?_))
  refine And.intro (by kernel_rfl) ?_
  refine And.intro (by simp [inLH]; omega) ?_
  refine Exists.intro ((D.take i).flatMap layD.g) (And.intro (zDz (lo := 0) (n := i) (D := D) zAd (by rw [zAd]; rfl) (by rw [Int.toNat_natCast]; rfl) (by kernel_rfl) (by omega) (by rw [List.drop_zero])) ?_)
  refine ifK (fun h4 => ?_) (fun h4 => ?_)
  ·refine And.intro (by simp [inLH]; omega) ?_
   refine Exists.intro ((D.drop i).flatMap layD.g) (And.intro (zDz (lo := i) (n := D.length - i) (D := D) zAd (by rw [zAd, Int.toNat_natCast, Nat.zero_add]) (by omega) (by kernel_rfl) (by omega) (List.take_of_length_le (by rw [List.length_drop]; omega))) ?_)
   refine ifK (fun h5 => ?_) (fun h5 => ?_)
   ·have h6 : D = [] := List.length_eq_zero_iff.1 (by have := Nat.eq_of_beq_eq_true h5; have := Nat.eq_of_beq_eq_true h4; omega)
    rw [show insD D c = [c] by rw [h6]; rfl]
    exact ⟨_, _, _, 5, rfl, zGs rfl, List.mem_of_elem_eq_true rfl, by decide, by decide, by kernel_rfl, by kernel_rfl⟩
   ·have h5 : D.length - i ≠ 0 := fun e => by rw [show (((D.length : Nat) : Int).toNat - ((i : Nat) : Int).toNat).beq 0 = true by rw [show ((D.length : Nat) : Int).toNat - ((i : Nat) : Int).toNat = 0 by omega]; rfl] at h5; cases h5
    have h7 : i = 0 := by have := Nat.eq_of_beq_eq_true h4; omega
    refine And.intro (zDi (la := 1) (lm := D.length - i) zAd zEj (by rw [zAd]; rfl) (by rw [zAa layD.g layD.k layD.len, List.length_drop]; rfl) (zJj _) rfl (by omega) (by omega) h5) ?_
    refine ⟨_, _, _, 6, rfl, zGs rfl, List.mem_of_elem_eq_true rfl, by decide, by decide, Eq.trans (show _ = some (AObj.cells [.int .i64 most, .slice (some ⟨6, 0, none⟩) (0 + 1 + (((D.length : Nat) : Int).toNat - ((i : Nat) : Int).toNat)) U] 44) from by kernel_rfl) (zCm (by rw [zDo]; omega)), Eq.trans (show _ = some (AObj.cells ([Value.int .i64 c.n, Value.int .i64 c.w, Value.bool c.i] ++ (D.drop i).flatMap layD.g) 47) from by kernel_rfl) (zLs ?_)⟩
    rw [hins, h7]; rfl
  ·have h4 : i ≠ 0 := fun e => by subst e; exact absurd h4 (by decide)
   refine And.intro (by have := Nat.mul_le_mul (show 0 + (((i : Nat) : Int).toNat - Int.toNat 0) ≤ 1000000 by omega) zEj
                        simp only [Bool.and_eq_true, decide_eq_true_eq]; and_intros <;> omega) ?_
   refine And.intro (zDi (la := i) (lm := 1) zAd zEj (by rw [List.nil_append, zAa layD.g layD.k layD.len, List.length_take, Nat.min_eq_left hi]; rfl) (by rw [zAd]; rfl) (by rw [zAd]; rfl) (by omega) rfl (by omega) (by decide)) ?_
   refine And.intro (by simp [inLH]; omega) ?_
   refine Exists.intro ((D.drop i).flatMap layD.g) (And.intro (zDz (lo := i) (n := D.length - i) (D := D) zAd (by rw [zAd, Int.toNat_natCast, Nat.zero_add]) (by omega) (by kernel_rfl) (by omega) (List.take_of_length_le (by rw [List.length_drop]; omega))) ?_)
   refine ifK (fun h5 => ?_) (fun h5 => ?_)
   ·have h6 : D.length = i := by have := Nat.eq_of_beq_eq_true h5; omega
    refine ⟨_, _, _, 6, rfl, zGs rfl, List.mem_of_elem_eq_true rfl, by decide, by decide, Eq.trans (show _ = some (AObj.cells [.int .i64 most, .slice (some ⟨6, 0, none⟩) ((0 + (((i : Nat) : Int).toNat - Int.toNat 0)) + 1) U] 44) from by kernel_rfl) (zCm (by rw [zDo]; omega)), Eq.trans (show _ = some (AObj.cells (List.take ((0 + (((i : Nat) : Int).toNat - Int.toNat 0)) * 3) ([] ++ (D.take i).flatMap layD.g) ++ [Value.int .i64 c.n, Value.int .i64 c.w, Value.bool c.i]) 47) from by kernel_rfl) (zLs ?_)⟩
    rw [hX1, hins, List.flatMap_append, List.drop_eq_nil_of_le (by omega)]; rfl
   ·have h5 : D.length - i ≠ 0 := fun e => by rw [show (((D.length : Nat) : Int).toNat - ((i : Nat) : Int).toNat).beq 0 = true by rw [show ((D.length : Nat) : Int).toNat - ((i : Nat) : Int).toNat = 0 by omega]; rfl] at h5; cases h5
    refine And.intro (zDi (la := i + 1) (lm := D.length - i) zAd zEj (by show (List.take ((0 + (((i : Nat) : Int).toNat - Int.toNat 0)) * (Try.prog.types[47]).size) ([] ++ (D.take i).flatMap layD.g) ++ [Value.int .i64 c.n, Value.int .i64 c.w, Value.bool c.i]).length = _; rw [zAd, hX1, List.length_append, zAa layD.g layD.k layD.len, List.length_take, Nat.min_eq_left hi]; show i * 3 + 3 = _; omega) (by rw [zAa layD.g layD.k layD.len, List.length_drop]; rfl) (zJj _) (by omega) (by omega) (by omega) h5) ?_
    refine ⟨_, _, _, 7, rfl, zGs rfl, List.mem_of_elem_eq_true rfl, by decide, by decide, Eq.trans (show _ = some (AObj.cells [.int .i64 most, .slice (some ⟨7, 0, none⟩) ((0 + (((i : Nat) : Int).toNat - Int.toNat 0)) + 1 + (((D.length : Nat) : Int).toNat - ((i : Nat) : Int).toNat)) U] 44) from by kernel_rfl) (zCm (by rw [zDo]; omega)), Eq.trans (show _ = some (AObj.cells (List.take (((0 + (((i : Nat) : Int).toNat - Int.toNat 0)) + 1) * 3) (List.take ((0 + (((i : Nat) : Int).toNat - Int.toNat 0)) * 3) ([] ++ (D.take i).flatMap layD.g) ++ [Value.int .i64 c.n, Value.int .i64 c.w, Value.bool c.i]) ++ (D.drop i).flatMap layD.g) 47) from by kernel_rfl) (zLs ?_)⟩
    rw [hX1, List.take_of_length_le (by rw [List.length_append, zAa layD.g layD.k layD.len, List.length_take, Nat.min_eq_left hi]; show i * 3 + 3 ≤ _; omega), hins, List.flatMap_append, List.flatMap_cons, List.append_assoc]; rfl
def dH2 (most : Int) : Tr AObj := heap 2 [(0, .cells [.int .i64 most, .slice (some ⟨1, 0, none⟩) 0 0] 44), (1, .cells [] 47)]
theorem add_fn0 (most : Int) (c : CliX) : ∃ r, FnS Try.prog 0 27 [.pointer (some ⟨0, 0, none⟩), .agg #[.int .i64 c.n, .int .i64 c.w, .bool c.i]] (dH0 most) 1 r ∧ ∃ H m wr b, r = .ret (.tuple #[]) H m wr ∧ 0 ∈ wr ∧ 1 ≤ b ∧ b < JJ ∧ H.get 0 = some (dT most [c] (some b)) ∧ H.get b = some (dC [c]) := by
 refine zCv mixed tbTs3 [] Try.func27 (c := bodyOf Try.f27) (by kernel_rfl) ?_
 refine LW.round (zEa tbTs3 [] 1 _ none mixed _ _ _ ?_)
 exact And.intro (by kernel_rfl) (And.intro (by kernel_rfl) ⟨_, _, _, 4, rfl, List.mem_of_elem_eq_true rfl, by decide, by decide, by kernel_rfl, by kernel_rfl⟩)
theorem add_fn2 (most : Int) (c : CliX) : ∃ r, FnS Try.prog 0 27 [.pointer (some ⟨0, 0, none⟩), .agg #[.int .i64 c.n, .int .i64 c.w, .bool c.i]] (dH2 most) 2 r ∧ ∃ H m wr b, r = .ret (.tuple #[]) H m wr ∧ (∀ k ∈ wr, k ≠ 1) ∧ 0 ∈ wr ∧ 2 ≤ b ∧ b < JJ ∧ H.get 0 = some (dT most [c] (some b)) ∧ H.get b = some (dC [c]) := by
 refine zCv mixed tbTs3 [] Try.func27 (c := bodyOf Try.f27) (by kernel_rfl) ?_
 refine LW.round (zEa tbTs3 [] 2 _ none mixed _ _ _ ?_)
 exact And.intro (by kernel_rfl) (And.intro (by kernel_rfl) (And.intro (by kernel_rfl) (And.intro (by kernel_rfl) ⟨_, _, _, 5, rfl, zGs rfl, List.mem_of_elem_eq_true rfl, by decide, by decide, by kernel_rfl, by kernel_rfl⟩)))
end Go.Proofs.Ytpdeidlkeplegaa
namespace Go.Proofs.Ytpdeidlkeplegaa
open Go Go.RowKit
theorem zDj {f : FuncId} {args args0 : List Value} {H H0 H' : Tr AObj} {n m tb b : Nat} {wr : List Nat} {most : Int} {D' : List CliX} {v0 v : Value} (A : List Nat) (hA0 : A[0]? = some tb) (hAl : A.length ≤ 2) (hAn : A.Nodup) (hF : FnS Try.prog 0 f args0 H0 A.length (.ret v0 H' m wr)) (hcb : CallB Try.prog A H H0) (ha : RL (caR A) args args0)
  (hw0 : ∀ k o, H0.get k = some o → k < A.length → ¬ o.isWin) (hw : ∀ j ∈ A, ∃ o, H.get j = some o ∧ ¬ o.isWin) (hv : RV (tau A [b] n) v0 v) (h0w : 0 ∈ wr) (h1w : ∀ k ∈ wr, k < A.length → k ≠ 1) (hb : A.length ≤ b ∧ b < JJ) (g0 : H'.get 0 = some (dT most D' (some b))) (g1 : H'.get b = some (dC D')) :
  CallOK Try.prog 0 f args H n (.ret v (setL H [(tb, some (dT most D' (some n))), (n, some (dC D'))]) (n + 1) A) := by
 refine zCl (n := n) A [b] [(tb, some (dT most D' (some n))), (n, some (dC D'))] hF hAn hcb ha hw0 hw (by simp) (fun y hy => ?_) hv (fun p hp => ?_) (fun k j e hk => ?_) (fun j o ho => ?_)
 ·simp only [List.mem_singleton] at hy
  subst hy
  exact ⟨hb.1, hb.2, by rw [g1]; simp⟩
 ·simp only [List.mem_cons, List.not_mem_nil, or_false] at hp
  rcases hp with rfl | rfl
  ·exact .inl (List.mem_of_getElem? hA0)
  ·exact .inr ⟨Nat.le_refl _, Nat.lt_succ_self _⟩
 ·have hkl : k < A.length := (List.getElem?_eq_some_iff.1 e).1
  have hk0 : k = 0 := by have := h1w k hk hkl; omega
  subst hk0
  rw [hA0] at e
  cases e
  exact .inl (List.mem_cons_self ..)
 ·simp only [List.mem_cons, List.not_mem_nil, or_false, Prod.mk.injEq, Option.some.injEq] at ho
  rcases ho with ⟨rfl, rfl⟩ | ⟨rfl, rfl⟩
  ·exact ⟨0, _, zEb hA0, g0, zBu (zHm hb.1), fun _ => h0w⟩
  ·exact ⟨b, _, zHm hb.1, g1, zBb _, fun h => absurd h (by omega)⟩
theorem zIs {f : FuncId} {args args0 : List Value} {H H' : Tr AObj} {n m tb lb : Nat} {wr : List Nat} {most : Int} {D D' : List CliX} {v0 v : Value} (h : dAt tb (some lb) most D H) (hF : FnS Try.prog 0 f args0 (dH1 most D) 2 (.ret v0 H' m wr)) (ha : RL (caR [tb, lb]) args args0) (hv : RV (tau [tb, lb] [] n) v0 v) (g0 : H'.get 0 = some (dT most D (some 1))) (g1 : H'.get 1 = some (dC D')) :
  CallOK Try.prog 0 f args H n (.ret v (setL H [(lb, some (dC D'))]) (n + 0) [tb, lb]) := by
 refine zCl (n := n) [tb, lb] [] [(lb, some (dC D'))] (hF.wrT [1]) (by simp [zMz h]) (zGb h) ha (fun k o ho hk => ?_) (fun j hj => ?_) List.nodup_nil (fun y hy => by cases hy) hv (fun p hp => ?_) (fun k j e hk => ?_) (fun j o ho => ?_)
 ·match k, hk, ho with
  | 0, _, ho => have ho : some (AObj.cells _ _) = some o := ho; cases ho; exact fun h => h
  | 1, _, ho => have ho : some (AObj.cells _ _) = some o := ho; cases ho; exact fun h => h
  | k + 2, hk, _ => have hk : k + 2 < 2 := hk; omega
 ·simp only [List.mem_cons, List.not_mem_nil, or_false] at hj
  rcases hj with rfl | rfl
  ·exact ⟨_, h.1, fun h => h⟩
  ·exact ⟨_, h.2, fun h => h⟩
 ·simp only [List.mem_singleton] at hp
  subst hp
  exact .inl (List.mem_cons_of_mem _ (List.mem_cons_self ..))
 ·match k, e with
  | 0, e => cases e; exact .inr ⟨_, _, h.1, g0, zBu (zEb rfl)⟩
  | 1, e => cases e; exact .inl (List.mem_cons_self ..)
  | k + 2, e => cases e
 ·simp only [List.mem_singleton, Prod.mk.injEq, Option.some.injEq] at ho
  obtain ⟨rfl, rfl⟩ := ho
  exact ⟨1, _, zEb rfl, g1, zBb _, fun _ => List.mem_append_left _ (List.mem_singleton.2 rfl)⟩
theorem d_win1 {most : Int} {D : List CliX} : ∀ k o, (dH1 most D).get k = some o → k < 2 → ¬ o.isWin := fun k o ho hk => by
 match k, hk, ho with
 | 0, _, ho => have ho : some (AObj.cells _ _) = some o := ho; cases ho; exact fun h => h
 | 1, _, ho => have ho : some (AObj.cells _ _) = some o := ho; cases ho; exact fun h => h
 | k + 2, hk, _ => omega
theorem d_win0 {most : Int} : ∀ k o, (dH0 most).get k = some o → k < 1 → ¬ o.isWin := fun k o ho hk => by
 match k, hk, ho with
 | 0, _, ho => have ho : some (AObj.cells _ _) = some o := ho; cases ho; exact fun h => h
 | k + 1, hk, _ => omega
theorem d_win2 {most : Int} : ∀ k o, (dH2 most).get k = some o → k < 2 → ¬ o.isWin := fun k o ho hk => by
 match k, hk, ho with
 | 0, _, ho => have ho : some (AObj.cells _ _) = some o := ho; cases ho; exact fun h => h
 | 1, _, ho => have ho : some (AObj.cells _ _) = some o := ho; cases ho; exact fun h => h
 | k + 2, hk, _ => omega
theorem d_wins {tb lb : Nat} {most : Int} {D : List CliX} {H : Tr AObj} (h : dAt tb (some lb) most D H) : ∀ j ∈ [tb, lb], ∃ o, H.get j = some o ∧ ¬ o.isWin := fun j hj => by
 simp only [List.mem_cons, List.not_mem_nil, or_false] at hj
 rcases hj with rfl | rfl
 ·exact ⟨_, h.1, fun h => h⟩
 ·exact ⟨_, h.2, fun h => h⟩
theorem d_wins0 {tb : Nat} {most : Int} {D : List CliX} {H : Tr AObj} (h : dAt tb none most D H) : ∀ j ∈ [tb], ∃ o, H.get j = some o ∧ ¬ o.isWin := fun j hj => by
 simp only [List.mem_singleton] at hj
 subst hj
 exact ⟨_, h.1, fun h => h⟩
noncomputable def ct_didle : Ct Try.prog 0 :=
 CtR.ct { f := 15, X := DtA, pre := fun x a H _ => (a = [.pointer (some ⟨x.tb, 0, none⟩), .int .i64 x.n, .bool x.is] ∧ x.now = 0) ∧ dAt x.tb x.o x.most x.D H ∧ x.D.length ≤ 1000000 ∧ (keysC x.D).Nodup,
          out := fun x H n => match x.o with
           | none => .ret (.int .i64 (idleF [] x.n x.is).1) H n []
           | some lb => .ret (.int .i64 (idleF x.D x.n x.is).1) (H.set lb (some (dC (idleF x.D x.n x.is).2))) n [x.tb, lb],
          ok := fun x a H n ⟨h1, h2, h3, h4⟩ => by
           obtain ⟨h1, _⟩ := h1
           subst h1
           obtain ⟨tb, o, most, D, c, now, is⟩ := x
           cases o with
           | none =>
            obtain ⟨r, hF, H', m, wr, rfl, hw⟩ := didle_fn0 most c is
            have h2' : dAt tb none most D H := h2
            exact zAz [tb] hF hw (zBi (by simp)) (.cons _ _ _ _ (.ptr _ _ _ rfl) (.cons _ _ _ _ (.int _ _) (.cons _ _ _ _ (.bool _) .nil))) (zEw h2') rfl
           | some lb =>
            obtain ⟨r, hF, H', m, wr, rfl, g0, g1⟩ := didle_fn1 most D c is h4 h3
            have h2' : dAt tb (some lb) most D H := h2
            exact zIs h2' hF (.cons _ _ _ _ (.ptr _ _ _ rfl) (.cons _ _ _ _ (.int _ _) (.cons _ _ _ _ (.bool _) .nil))) (.int _ _) g0 g1,
          uniq := fun x y a H n ⟨h1, h2, _⟩ ⟨k1, k2, _⟩ => by
           obtain ⟨h1, hb⟩ := h1
           obtain ⟨k1, kb⟩ := k1
           rw [h1] at k1
           obtain ⟨tb, o, most, D, c, now, is⟩ := x
           obtain ⟨tb', o', most', D', c', now', is'⟩ := y
           simp only [List.cons.injEq, Value.pointer.injEq, Option.some.injEq, Addr.mk.injEq, Value.int.injEq, Value.bool.injEq, true_and, and_true] at k1
           obtain ⟨rfl, rfl, rfl⟩ := k1
           obtain ⟨rfl, rfl, rfl⟩ := zGa h2 k2
           have hb : now = 0 := hb
           have kb : now' = 0 := kb
           rw [hb, kb],
          tr := fun x H n K => match x.o with
           | none => K (.ret (.int .i64 (idleF [] x.n x.is).1) H n [])
           | some lb => frcN x.tb fun tb => frcN lb fun lb => K (.ret (.int .i64 (idleF x.D x.n x.is).1) (H.set lb (some (dC (idleF x.D x.n x.is).2))) n [tb, lb]),
          trOk := fun x H n K h => by
           obtain ⟨tb, o, most, D, c, now, is⟩ := x
           cases o with
           | none => exact h
           | some lb =>
            have h : frcN tb fun tb => frcN lb fun lb => K (.ret (.int .i64 (idleF D c is).1) (H.set lb (some (dC (idleF D c is).2))) n [tb, lb]) := h
            rw [zAs, zAs] at h; exact h }
structure AddA where
 tb : Nat
 o : Option Nat
 z : Bool
 most : Int
 D : List CliX
 c : CliX
def AddA.at (x : AddA) (H : Tr AObj) : Prop := match x.z, x.o with
 | false, _ => dAt x.tb x.o x.most x.D H
 | true, some lb => x.D = [] ∧ H.get x.tb = some (.cells [.int .i64 x.most, .slice (some ⟨lb, 0, none⟩) 0 0] 44) ∧ H.get lb = some (.cells [] 47)
 | true, none => False
def cliV (c : CliX) : Value := .agg #[.int .i64 c.n, .int .i64 c.w, .bool c.i]
theorem add_mix {tb : Nat} {o : Option Nat} {most : Int} {D : List CliX} {y : AddA} {H : Tr AObj} (h : dAt tb o most D H) (k : y.at H) (ht : y.tb = tb) (hz : y.z = true) : False := by
 obtain ⟨tb', o', z', most', D', c'⟩ := y
 have ht : tb' = tb := ht
 have hz : z' = true := hz
 subst ht hz
 cases o' with
 | none => exact k
 | some lb =>
  obtain ⟨_, q1, _⟩ : D' = [] ∧ H.get tb' = some (.cells [.int .i64 most', .slice (some ⟨lb, 0, none⟩) 0 0] 44) ∧ H.get lb = some (.cells [] 47) := k
  have h1 := h.1
  rw [q1] at h1
  cases o with
  | none => simp [dT, dS] at h1
  | some b =>
   simp only [dT, dS, Option.some.injEq, AObj.cells.injEq, List.cons.injEq, Value.slice.injEq, and_true] at h1
   exact absurd h1.2.2.2 (by decide)
theorem add_uniq {x y : AddA} {H : Tr AObj} (h : x.at H) (k : y.at H) (ht : x.tb = y.tb) (hc : x.c = y.c) : x = y := by
 obtain ⟨tb, o, z, most, D, c⟩ := x
 obtain ⟨tb', o', z', most', D', c'⟩ := y
 have ht : tb = tb' := ht
 have hc : c = c' := hc
 subst ht hc
 cases z with
 | false =>
  cases z' with
  | false => obtain ⟨rfl, rfl, rfl⟩ := zGa h k; rfl
  | true => exact (add_mix (show dAt tb o most D H from h) k rfl rfl).elim
 | true =>
  cases z' with
  | false => exact (add_mix (show dAt tb o' most' D' H from k) h rfl rfl).elim
  | true =>
   cases o with
   | none => exact (show False from h).elim
   | some lb =>
    cases o' with
    | none => exact (show False from k).elim
    | some lb' =>
     obtain ⟨e1, q1, _⟩ : D = [] ∧ H.get tb = some (.cells [.int .i64 most, .slice (some ⟨lb, 0, none⟩) 0 0] 44) ∧ H.get lb = some (.cells [] 47) := h
     obtain ⟨e2, q2, _⟩ : D' = [] ∧ H.get tb = some (.cells [.int .i64 most', .slice (some ⟨lb', 0, none⟩) 0 0] 44) ∧ H.get lb' = some (.cells [] 47) := k
     rw [q1] at q2
     simp only [Option.some.injEq, AObj.cells.injEq, List.cons.injEq, Value.int.injEq, Value.slice.injEq, Addr.mk.injEq, true_and, and_true] at q2
     obtain ⟨rfl, rfl⟩ := q2
     subst e1 e2
     rfl
noncomputable def ct_add : Ct Try.prog 0 :=
 CtR.ct { f := 27, X := AddA, pre := fun x a H _ => a = [.pointer (some ⟨x.tb, 0, none⟩), cliV x.c] ∧ x.at H ∧ x.D.length ≤ 1000000,
          out := fun x H n => .ret (.tuple #[]) ((H.set x.tb (some (dT x.most (insD x.D x.c) (some n)))).set n (some (dC (insD x.D x.c)))) (n + 1) (x.tb :: x.o.toList),
          ok := fun x a H n ⟨h1, h2, h3⟩ => by
           subst h1
           obtain ⟨tb, o, z, most, D, c⟩ := x
           cases z with
           | false =>
            cases o with
            | none =>
             have h2' : dAt tb none most D H := h2
             have hD : D = [] := h2'.2
             subst hD
             obtain ⟨r, hF, H', m, wr, b, rfl, hw, hb1, hb2, g0, g1⟩ := add_fn0 most c
             exact zDj [tb] rfl (Nat.le_of_ble_eq_true rfl) (by simp) hF (zEw h2') (.cons _ _ _ _ (.ptr _ _ _ rfl) (.cons _ _ _ _ (zBf 8 rfl) .nil)) d_win0 (d_wins0 h2') (zBf 8 rfl) hw (fun k _ hk => by have hk : k < 1 := hk; omega) ⟨hb1, hb2⟩ g0 g1
            | some lb =>
             have h2' : dAt tb (some lb) most D H := h2
             obtain ⟨r, hF, H', m, wr, b, rfl, hw1, hw, hb1, hb2, g0, g1⟩ := add_fn1 most D c h3
             exact zDj [tb, lb] rfl (Nat.le_of_ble_eq_true rfl) (by simp [zMz h2']) hF (zGb h2') (.cons _ _ _ _ (.ptr _ _ _ rfl) (.cons _ _ _ _ (zBf 8 rfl) .nil)) d_win1 (d_wins h2') (zBf 8 rfl) hw (fun k hk _ => hw1 k hk) ⟨hb1, hb2⟩ g0 g1
           | true =>
            cases o with
            | none => exact (show False from h2).elim
            | some lb =>
             obtain ⟨hD, q1, q2⟩ : D = [] ∧ H.get tb = some (.cells [.int .i64 most, .slice (some ⟨lb, 0, none⟩) 0 0] 44) ∧ H.get lb = some (.cells [] 47) := h2
             subst hD
             have hne : tb ≠ lb := fun e => by rw [e, q2] at q1; simp at q1
             obtain ⟨r, hF, H', m, wr, b, rfl, hw1, hw, hb1, hb2, g0, g1⟩ := add_fn2 most c
             exact zDj [tb, lb] rfl (Nat.le_of_ble_eq_true rfl) (by simp [hne]) hF (zEv ⟨⟨tb, _, rfl, q1, RO.cells _ [] _ _ (.cons _ _ _ _ (.int _ _) (.cons _ _ _ _ (.sl _ _ _ _ _ rfl) .nil))⟩, ⟨lb, _, rfl, q2, .same rfl⟩, trivial⟩) (.cons _ _ _ _ (.ptr _ _ _ rfl) (.cons _ _ _ _ (zBf 8 rfl) .nil)) d_win2 (fun j hj => by
              simp only [List.mem_cons, List.not_mem_nil, or_false] at hj
              rcases hj with rfl | rfl
              ·exact ⟨_, q1, fun h => h⟩
              ·exact ⟨_, q2, fun h => h⟩) (zBf 8 rfl) hw (fun k hk _ => hw1 k hk) ⟨hb1, hb2⟩ g0 g1,
          uniq := fun x y a H n ⟨h1, h2, _⟩ ⟨k1, k2, _⟩ => by
           rw [h1] at k1
           have e1 : x.tb = y.tb := by
            simp only [List.cons.injEq, Value.pointer.injEq, Option.some.injEq, Addr.mk.injEq, and_true] at k1
            exact k1.1
           have e2 : x.c = y.c := by
            simp only [List.cons.injEq, and_true] at k1
            have := k1.2
            obtain ⟨tb, o, z, most, D, ⟨c1, c2, c3⟩⟩ := x
            obtain ⟨tb', o', z', most', D', ⟨d1, d2, d3⟩⟩ := y
            simp only [cliV, Value.agg.injEq, Array.mk.injEq, List.cons.injEq, Value.int.injEq, Value.bool.injEq, true_and, and_true] at this
            obtain ⟨rfl, rfl, rfl⟩ := this
            rfl
           rw [add_uniq h2 k2 e1 e2] }
end Go.Proofs.Ytpdeidlkeplegaa
namespace Go.Proofs.Ytpdeidlkeplegaa
open Go Go.RowKit
def cliD (D : List CliX) (o : Int) : CliX := D[o.toNat]?.getD ⟨0, 0, false⟩
theorem zGx {D : List CliX} {k : Nat} (h : k < D.length) : cliD D (k : Int) = D[k] := by
 unfold cliD
 rw [Int.toNat_natCast, List.getElem?_eq_getElem h]; rfl
def outN (D : List CliX) : Nat → Int
 | 0 => -1
 | k + 1 => if (cliD D k).i && (decide (outN D k < 0) || decide ((cliD D k).w < (cliD D (outN D k)).w)) then (k : Int) else outN D k
theorem outN_le (D : List CliX) : ∀ k : Nat, -1 ≤ outN D k ∧ outN D k < k
 | 0 => by unfold outN; omega
 | k + 1 => by
  have := outN_le D k
  unfold outN
  split <;> omega
def dtF (most : Int) (D : List CliX) (n now : Int) : (Int × Bool × Int) × List CliX × Bool :=
 if decide (now < 0) || decide (now > 1099511627776) then ((0, false, 2), D, false)
 else if hasC D n then ((0, false, 0), putC D n (maxI (whenC D n) now) (idleC D n), false)
 else if decide ((D.length : Int) < most) then ((0, false, 0), insD D ⟨n, now, false⟩, true)
 else if decide (outN D D.length < 0) then ((0, false, 8), D, false)
 else (((cliD D (outN D D.length)).n, true, 0), insD (D.eraseIdx (outN D D.length).toNat) ⟨n, now, false⟩, true)
def dtV (r : (Int × Bool × Int) × List CliX × Bool) : Value := .tuple #[.int .i64 r.1.1, .bool r.1.2.1, .int .i64 r.1.2.2]
noncomputable def tbTs5 : Tb Try.prog 0 := tbOf mixed [ct_dat, ct_add]
def dtS (most : Int) (D : List CliX) (n now : Int) (k : Nat) (f : Nat → Option Value) : Fs := ⟨slots 8 [(0, .pointer (some ⟨0, 0, none⟩)), (1, .int .i64 n), (2, .int .i64 now), (10, .int .i64 (outN D k)), (11, .int .i64 (k : Nat))] f, dH1 most D, 2, [], []⟩
theorem zRv (most : Int) (n now : Int) (hm : 1 ≤ most) : ∃ r, FnS Try.prog 0 16 [.pointer (some ⟨0, 0, none⟩), .int .i64 n, .int .i64 now] (dH0 most) 1 r ∧ ∃ H m wr, r = .ret (dtV (dtF most [] n now)) H m wr ∧ ((dtF most [] n now).2.2 = false → (dtF most [] n now).2.1 = [] ∧ ∀ k ∈ wr, 1 ≤ k) ∧ ((dtF most [] n now).2.2 = true → ∃ b, 1 ≤ b ∧ b < JJ ∧ 0 ∈ wr ∧ H.get 0 = some (dT most (dtF most [] n now).2.1 (some b)) ∧ H.get b = some (dC (dtF most [] n now).2.1)) := by
 refine zCv mixed tbTs5 [] Try.func16 (c := bodyOf Try.f16) (by kernel_rfl) ?_
 refine ifK (fun h1 => ?_) (fun h1 => ?_)
 ·have h1 : decide (now < 0) = true := h1
  have ht : dtF most [] n now = ((0, false, 2), [], false) := by unfold dtF; rw [h1]; rfl
  rw [ht]
  exact ⟨_, _, _, rfl, fun _ => ⟨rfl, zOb rfl⟩, fun h => by cases h⟩
 have h1 : decide (now < 0) = false := h1
 refine ifK (fun h2 => ?_) (fun h2 => ?_)
 ·have h2 : decide (now > 1099511627776) = true := h2
  have ht : dtF most [] n now = ((0, false, 2), [], false) := by unfold dtF; rw [h1, h2]; rfl
  rw [ht]
  exact ⟨_, _, _, rfl, fun _ => ⟨rfl, zOb rfl⟩, fun h => by cases h⟩
 have h2 : decide (now > 1099511627776) = false := h2
 refine Exists.intro ⟨0, none, most, [], n, 0, true⟩ (And.intro ⟨⟨rfl, rfl, rfl⟩, zDm (by kernel_rfl), Nat.zero_le _⟩ ?_)
 have ht : dtF most [] n now = ((0, false, 0), [⟨n, now, false⟩], true) := by
  unfold dtF
  rw [h1, h2, if_neg (by decide), if_neg (show ¬ hasC [] n = true from fun h => by cases h), if_pos (decide_eq_true (show ((([] : List CliX).length : Nat) : Int) < most by show (0 : Int) < most; omega))]; rfl
 rw [ht]
 refine And.intro (by kernel_rfl) ?_
 refine ifK (fun h3 => ?_) (fun h3 => absurd (of_decide_eq_false (show decide ((0 : Int) < most) = false from h3)) (by omega))
 refine Exists.intro ⟨0, none, false, most, [], ⟨n, now, false⟩⟩ (And.intro ⟨rfl, zDm (by kernel_rfl), Nat.zero_le _⟩ ?_)
 exact ⟨_, _, _, rfl, fun h => (by cases h), fun _ => ⟨1, by decide, by decide, List.mem_of_elem_eq_true rfl, by kernel_rfl, by kernel_rfl⟩⟩
theorem zRw (most : Int) (D : List CliX) (n now : Int) (hn : (keysC D).Nodup) (hl : D.length ≤ 1000000) : ∃ r, FnS Try.prog 0 16 [.pointer (some ⟨0, 0, none⟩), .int .i64 n, .int .i64 now] (dH1 most D) 2 r ∧ ∃ H m wr, r = .ret (dtV (dtF most D n now)) H m wr ∧ H.get 1 = some (dC (if (dtF most D n now).2.2 then D else (dtF most D n now).2.1)) ∧ ((dtF most D n now).2.2 = false → H.get 0 = some (dT most D (some 1))) ∧ ((dtF most D n now).2.2 = true → ∃ b, 2 ≤ b ∧ b < JJ ∧ 0 ∈ wr ∧ H.get 0 = some (dT most (dtF most D n now).2.1 (some b)) ∧ H.get b = some (dC (dtF most D n now).2.1)) := by
 refine zCv mixed tbTs5 [1, 900003] Try.func16 (c := bodyOf Try.f16) (by kernel_rfl) ?_
 refine ifK (fun h1 => ?_) (fun h1 => ?_)
 ·have h1 : decide (now < 0) = true := h1
  have ht : dtF most D n now = ((0, false, 2), D, false) := by unfold dtF; rw [h1]; rfl
  rw [ht]
  exact ⟨_, _, _, rfl, by kernel_rfl, fun _ => by kernel_rfl, fun h => by cases h⟩
 have h1 : decide (now < 0) = false := h1
 refine ifK (fun h2 => ?_) (fun h2 => ?_)
 ·have h2 : decide (now > 1099511627776) = true := h2
  have ht : dtF most D n now = ((0, false, 2), D, false) := by unfold dtF; rw [h1, h2]; rfl
  rw [ht]
  exact ⟨_, _, _, rfl, by kernel_rfl, fun _ => by kernel_rfl, fun h => by cases h⟩
 have h2 : decide (now > 1099511627776) = false := h2
 refine Exists.intro ⟨0, some 1, most, D, n, 0, true⟩ (And.intro ⟨⟨rfl, rfl, rfl⟩, zAx (by kernel_rfl) (by kernel_rfl), hl⟩ ?_)
 rcases zEt D n with ⟨h3, h4⟩ | ⟨k, hk, h3, h4, h5⟩
 ·refine ifK (fun h => absurd (show decide (atF D n ≥ 0) = true from h) (by rw [h3]; decide)) (fun _ => ?_)
  refine And.intro (by kernel_rfl) ?_
  refine ifK (fun h5 => ?_) (fun h5 => ?_)
  ·have h5 : decide ((D.length : Int) < most) = true := h5
   have ht : dtF most D n now = ((0, false, 0), insD D ⟨n, now, false⟩, true) := by unfold dtF; rw [h1, h2, h4, h5]; rfl
   rw [ht]
   refine Exists.intro ⟨0, some 1, false, most, D, ⟨n, now, false⟩⟩ (And.intro ⟨rfl, zAx (by kernel_rfl) (by kernel_rfl), hl⟩ ?_)
   exact ⟨_, _, _, rfl, by kernel_rfl, fun h => (by cases h), fun _ => ⟨2, by decide, by decide, List.mem_of_elem_eq_true rfl, by kernel_rfl, by kernel_rfl⟩⟩
  have h5 : decide ((D.length : Int) < most) = false := h5
  refine zCa (fun (k : Nat) f => dtS most D n now k f) (fun k => D.length - k) (fun k => k ≤ D.length) 0 (Nat.zero_le _) ?_ ?_
  ·exact rcq [] ⟨⟨_, rfl, .ptr _ _ _ rfl⟩, ⟨_, rfl, .int _ _⟩, ⟨_, rfl, .int _ _⟩, ⟨_, rfl, .int _ _⟩, ⟨_, rfl, .int _ _⟩, trivial⟩ ⟨⟨by decide, _, rfl, zBu rfl⟩, ⟨by decide, _, rfl, zBb _⟩, trivial⟩ .nil
  rintro k f hk
  have hk : k ≤ D.length := hk
  have hok := outN_le D k
  refine zEa tbTs5 [1, 900003] 2 _ none mixed _ _ _ ?_
  refine ifK (fun h6 => ?_) (fun h6 => ?_)
  ·have h6 : k < D.length := by have h6 : ((k : Nat) : Int) < ((D.length : Nat) : Int) := of_decide_eq_true h6; omega
   refine And.intro (by kernel_rfl) ?_
   refine ifK (fun _ => ?_) (fun h => absurd h (by simp [inI]; omega))
   refine Exists.intro D[k].i (And.intro (zBl h6 2 rfl) ?_)
   have hT : ((cliD D k).i && (decide (outN D k < 0) || decide ((cliD D k).w < (cliD D (outN D k)).w))) = true → outN D (k + 1) = k := fun h => by rw [outN, if_pos h]
   have hF : ((cliD D k).i && (decide (outN D k < 0) || decide ((cliD D k).w < (cliD D (outN D k)).w))) = false → outN D (k + 1) = outN D k := fun h => by rw [outN, h]; rfl
   have hck : cliD D k = D[k] := zGx h6
   rw [hck] at hT hF
   have hw1 : IntKind.i64.wrap ((k : Int) + 1) = ((k + 1 : Nat) : Int) := by rw [wrapN (by omega) (by omega)]; omega
   refine ifK (fun h7 => ?_) (fun h7 => ?_)
   ·have h7 : D[k].i = true := h7
    refine ifK (fun h8 => ?_) (fun h8 => ?_)
    ·have h8 : decide (outN D k < 0) = true := h8
     exact ⟨k + 1, h6, by show D.length - (k + 1) < D.length - k; omega, rcq [] ⟨⟨_, rfl, .ptr _ _ _ rfl⟩, ⟨_, rfl, .int _ _⟩, ⟨_, rfl, .int _ _⟩, zAc rfl (show outN D (k + 1) = (k : Int) from hT (by rw [h7, h8]; rfl)).symm, zAc rfl hw1, trivial⟩ ⟨⟨by decide, _, rfl, zBu rfl⟩, ⟨by decide, _, rfl, zBb _⟩, trivial⟩ .nil⟩
    ·have h8 : decide (outN D k < 0) = false := h8
     refine ifK (fun _ => ?_) (fun h => absurd h (by simp [inI]; omega))
     refine Exists.intro D[k].w (And.intro (zBl h6 1 rfl) ?_)
     obtain ⟨o, ho⟩ : ∃ o : Nat, outN D k = (o : Int) := ⟨(outN D k).toNat, by have := of_decide_eq_false h8; omega⟩
     have hol : o < D.length := by omega
     refine ifK (fun _ => ?_) (fun h => absurd (show inI (outN D k) D.length = false from h) (by rw [ho]; simp [inI]; omega))
     refine Exists.intro D[o].w (And.intro (by rw [ho]; exact zBl hol 1 rfl) ?_)
     have hco : cliD D (outN D k) = D[o] := by rw [ho]; exact zGx hol
     rw [hco] at hT hF
     refine ifK (fun h9 => ?_) (fun h9 => ?_)
     ·have h9 : decide (D[k].w < D[o].w) = true := h9
      exact ⟨k + 1, h6, by show D.length - (k + 1) < D.length - k; omega, rcq [] ⟨⟨_, rfl, .ptr _ _ _ rfl⟩, ⟨_, rfl, .int _ _⟩, ⟨_, rfl, .int _ _⟩, zAc rfl (show outN D (k + 1) = (k : Int) from hT (by rw [h7, h9]; simp)).symm, zAc rfl hw1, trivial⟩ ⟨⟨by decide, _, rfl, zBu rfl⟩, ⟨by decide, _, rfl, zBb _⟩, trivial⟩ .nil⟩
     ·have h9 : decide (D[k].w < D[o].w) = false := h9
      exact ⟨k + 1, h6, by show D.length - (k + 1) < D.length - k; omega, rcq [] ⟨⟨_, rfl, .ptr _ _ _ rfl⟩, ⟨_, rfl, .int _ _⟩, ⟨_, rfl, .int _ _⟩, zAc rfl (show outN D (k + 1) = outN D k from hF (by rw [h7, h8, h9]; rfl)).symm, zAc rfl hw1, trivial⟩ ⟨⟨by decide, _, rfl, zBu rfl⟩, ⟨by decide, _, rfl, zBb _⟩, trivial⟩ .nil⟩
   ·have h7 : D[k].i = false := h7
    exact ⟨k + 1, h6, by show D.length - (k + 1) < D.length - k; omega, rcq [] ⟨⟨_, rfl, .ptr _ _ _ rfl⟩, ⟨_, rfl, .int _ _⟩, ⟨_, rfl, .int _ _⟩, zAc rfl (show outN D (k + 1) = outN D k from hF (by rw [h7]; rfl)).symm, zAc rfl hw1, trivial⟩ ⟨⟨by decide, _, rfl, zBu rfl⟩, ⟨by decide, _, rfl, zBb _⟩, trivial⟩ .nil⟩
  ·have h6 : ¬ k < D.length := by have h6 : ¬ ((k : Nat) : Int) < (D.length : Int) := of_decide_eq_false h6; omega
   have hke : k = D.length := by omega
   subst hke
   rcases Bool.eq_false_or_eq_true (decide (outN D D.length < 0)) with h7 | h7
   ·have ht : dtF most D n now = ((0, false, 8), D, false) := by unfold dtF; rw [h1, h2, h4, h5, h7]; rfl
    rw [ht]
    refine And.intro rfl (zCf (rcq [] (d := 8) (d2 := 2) (lv := [(0, .pointer (some ⟨0, 0, none⟩)), (1, .int .i64 n), (2, .int .i64 now), (10, .int .i64 (outN D D.length))]) (bs := [(0, dT most D (some 1)), (1, dC D)]) (W := []) (m := 2) (df := []) ⟨⟨_, rfl, .ptr _ _ _ rfl⟩, ⟨_, rfl, .int _ _⟩, ⟨_, rfl, .int _ _⟩, ⟨_, rfl, .int _ _⟩, trivial⟩ ⟨⟨by decide, _, rfl, zBu rfl⟩, ⟨by decide, _, rfl, zBb _⟩, trivial⟩ .nil) (fun f => ?_))
    refine ifK (fun _ => ?_) (fun h => absurd ((show decide (outN D D.length < 0) = false from h).symm.trans h7) (by decide))
    exact ⟨_, _, _, rfl, by kernel_rfl, fun _ => by kernel_rfl, fun h => (by cases h)⟩
   obtain ⟨o, ho⟩ : ∃ o : Nat, outN D D.length = (o : Int) := ⟨(outN D D.length).toNat, by have := of_decide_eq_false h7; omega⟩
   have ht : dtF most D n now = (((cliD D (outN D D.length)).n, true, 0), insD (D.eraseIdx (outN D D.length).toNat) ⟨n, now, false⟩, true) := by unfold dtF; rw [h1, h2, h4, h5, h7]; rfl
   have hol : o < D.length := by omega
   have hco : cliD D (outN D D.length) = D[o] := by rw [ho]; exact zGx hol
   rw [hco, ho, Int.toNat_natCast] at ht
   have hw2 : IntKind.i64.wrap ((o : Int) + 1) = ((o + 1 : Nat) : Int) := by rw [wrapN (by omega) (by omega)]; omega
   have hE : D.eraseIdx o = D.take o ++ D.drop (o + 1) := List.eraseIdx_eq_take_drop_succ ..
   have hEl : (D.eraseIdx o).length ≤ 1000000 := by rw [List.length_eraseIdx]; split <;> omega
   have hEk : (D.eraseIdx o).length = o + (D.length - (o + 1)) := by rw [hE, List.length_append, List.length_take, List.length_drop]; omega
   refine And.intro rfl (zCf (rcq [] (d := 8) (d2 := 2) (lv := [(0, .pointer (some ⟨0, 0, none⟩)), (1, .int .i64 n), (2, .int .i64 now), (10, .int .i64 (o : Nat))]) (bs := [(0, dT most D (some 1)), (1, dC D)]) (W := []) (m := 2) (df := []) ⟨⟨_, rfl, .ptr _ _ _ rfl⟩, ⟨_, rfl, .int _ _⟩, ⟨_, rfl, .int _ _⟩, zAc rfl ho, trivial⟩ ⟨⟨by decide, _, rfl, zBu rfl⟩, ⟨by decide, _, rfl, zBb _⟩, trivial⟩ .nil) (fun f => ?_))
   rw [ht]
   refine ifK (fun _ => ?_) (fun h => absurd h (by simp [inI]; omega))
   refine Exists.intro D[o].n (And.intro (zBl hol 0 rfl) ?_)
   refine And.intro (by kernel_rfl) ?_
   refine And.intro (by simp [inLH]; omega) ?_
   refine Exists.intro ((D.take o).flatMap layD.g) (And.intro (zDz (lo := 0) (n := o) (D := D) zAd (by rw [zAd]; rfl) (by rw [Int.toNat_natCast]; rfl) (by kernel_rfl) (by omega) (by rw [List.drop_zero])) ?_)
   refine ifK (fun h8 => ?_) (fun h8 => ?_)
   ·have ho0 : o = 0 := by have := Nat.eq_of_beq_eq_true h8; omega
    refine And.intro (by rw [hw2]; simp [inLH]; omega) ?_
    refine Exists.intro ((D.drop (o + 1)).flatMap layD.g) (And.intro (zDz (lo := o + 1) (n := D.length - (o + 1)) (D := D) zAd (by rw [zAd, hw2, Int.toNat_natCast, Nat.zero_add]) (by rw [hw2]; omega) (by kernel_rfl) (by omega) (List.take_of_length_le (by rw [List.length_drop]; omega))) ?_)
    refine ifK (fun h9 => ?_) (fun h9 => ?_)
    ·have hE0 : D.eraseIdx o = [] := List.length_eq_zero_iff.1 (by have := Nat.eq_of_beq_eq_true h9; rw [hw2] at this; omega)
     rw [hE0]
     refine Exists.intro ⟨0, some 2, true, most, [], ⟨n, now, false⟩⟩ (And.intro ⟨rfl, ⟨rfl, by kernel_rfl, by kernel_rfl⟩, Nat.zero_le _⟩ ?_)
     exact ⟨_, _, _, rfl, by kernel_rfl, fun h => (by cases h), fun _ => ⟨3, by decide, by decide, List.mem_of_elem_eq_true rfl, by kernel_rfl, by kernel_rfl⟩⟩
    ·have h9 : D.length - (o + 1) ≠ 0 := fun e => by rw [show (((D.length : Nat) : Int).toNat - (IntKind.i64.wrap ((o : Int) + 1)).toNat).beq 0 = true by rw [hw2, show ((D.length : Nat) : Int).toNat - ((o + 1 : Nat) : Int).toNat = 0 by omega]; rfl] at h9; cases h9
     refine And.intro (by have := Nat.mul_le_mul (show 0 + (((D.length : Nat) : Int).toNat - (IntKind.i64.wrap ((o : Int) + 1)).toNat) ≤ 1000000 by omega) zEj
                          simp only [Bool.and_eq_true, decide_eq_true_eq]; and_intros <;> omega) ?_
     refine Exists.intro ⟨0, some 3, false, most, D.eraseIdx o, ⟨n, now, false⟩⟩ (And.intro ⟨rfl, zAx (Eq.trans (show _ = some (AObj.cells [.int .i64 most, .slice (some ⟨3, 0, none⟩) (0 + (((D.length : Nat) : Int).toNat - (IntKind.i64.wrap ((o : Int) + 1)).toNat)) U] 44) from by kernel_rfl) (zCm (by rw [hEk, hw2]; omega))) (Eq.trans (show _ = some (AObj.cells ([] ++ (D.drop (o + 1)).flatMap layD.g) 47) from by kernel_rfl) (zLs (by rw [hE, ho0]; rfl))), hEl⟩ ?_)
     exact ⟨_, _, _, rfl, by kernel_rfl, fun h => (by cases h), fun _ => ⟨4, by decide, by decide, List.mem_of_elem_eq_true rfl, by kernel_rfl, by kernel_rfl⟩⟩
   ·have ho0 : o ≠ 0 := fun e => by subst e; exact absurd h8 (by decide)
    refine And.intro (by have := Nat.mul_le_mul (show 0 + (((o : Nat) : Int).toNat - Int.toNat 0) ≤ 1000000 by omega) zEj
                         simp only [Bool.and_eq_true, decide_eq_true_eq]; and_intros <;> omega) ?_
    refine And.intro (by rw [hw2]; simp [inLH]; omega) ?_
    refine Exists.intro ((D.drop (o + 1)).flatMap layD.g) (And.intro (zDz (lo := o + 1) (n := D.length - (o + 1)) (D := D) zAd (by rw [zAd, hw2, Int.toNat_natCast, Nat.zero_add]) (by rw [hw2]; omega) (by kernel_rfl) (by omega) (List.take_of_length_le (by rw [List.length_drop]; omega))) ?_)
    refine ifK (fun h9 => ?_) (fun h9 => ?_)
    ·have h9 : D.length - (o + 1) = 0 := by have := Nat.eq_of_beq_eq_true h9; rw [hw2] at this; omega
     refine Exists.intro ⟨0, some 3, false, most, D.eraseIdx o, ⟨n, now, false⟩⟩ (And.intro ⟨rfl, zAx (Eq.trans (show _ = some (AObj.cells [.int .i64 most, .slice (some ⟨3, 0, none⟩) (0 + (((o : Nat) : Int).toNat - Int.toNat 0)) U] 44) from by kernel_rfl) (zCm (by rw [hEk]; omega))) (Eq.trans (show _ = some (AObj.cells ([] ++ (D.take o).flatMap layD.g) 47) from by kernel_rfl) (zLs (by rw [hE, List.drop_eq_nil_of_le (by omega), List.append_nil]; rfl))), hEl⟩ ?_)
     exact ⟨_, _, _, rfl, by kernel_rfl, fun h => (by cases h), fun _ => ⟨4, by decide, by decide, List.mem_of_elem_eq_true rfl, by kernel_rfl, by kernel_rfl⟩⟩
    ·have h9 : D.length - (o + 1) ≠ 0 := fun e => by rw [show (((D.length : Nat) : Int).toNat - (IntKind.i64.wrap ((o : Int) + 1)).toNat).beq 0 = true by rw [hw2, show ((D.length : Nat) : Int).toNat - ((o + 1 : Nat) : Int).toNat = 0 by omega]; rfl] at h9; cases h9
     have hX1 : List.take ((0 + (((o : Nat) : Int).toNat - Int.toNat 0)) * 3) ([] ++ (D.take o).flatMap layD.g) = (D.take o).flatMap layD.g := by rw [List.nil_append, List.take_of_length_le (by rw [zAa layD.g layD.k layD.len, List.length_take, Nat.min_eq_left (by omega)]; show o * 3 ≤ _; omega)]
     refine And.intro (zDi (la := o) (lm := D.length - (o + 1)) zAd zEj (by rw [List.nil_append, zAa layD.g layD.k layD.len, List.length_take, Nat.min_eq_left (by omega)]; rfl) (by rw [zAa layD.g layD.k layD.len, List.length_drop]; rfl) (zJj _) (by omega) (by rw [hw2]; omega) (by omega) h9) ?_
     refine Exists.intro ⟨0, some 4, false, most, D.eraseIdx o, ⟨n, now, false⟩⟩ (And.intro ⟨rfl, zAx (Eq.trans (show _ = some (AObj.cells [.int .i64 most, .slice (some ⟨4, 0, none⟩) (0 + (((o : Nat) : Int).toNat - Int.toNat 0) + (((D.length : Nat) : Int).toNat - (IntKind.i64.wrap ((o : Int) + 1)).toNat)) U] 44) from by kernel_rfl) (zCm (by rw [hEk, hw2]; omega))) (Eq.trans (show _ = some (AObj.cells (List.take ((0 + (((o : Nat) : Int).toNat - Int.toNat 0)) * 3) ([] ++ (D.take o).flatMap layD.g) ++ (D.drop (o + 1)).flatMap layD.g) 47) from by kernel_rfl) (zLs (by rw [hX1, hE, List.flatMap_append]))), hEl⟩ ?_)
     exact ⟨_, _, _, rfl, by kernel_rfl, fun h => (by cases h), fun _ => ⟨5, by decide, by decide, List.mem_of_elem_eq_true rfl, by kernel_rfl, by kernel_rfl⟩⟩
 ·refine ifK (fun _ => ?_) (fun h => absurd (show decide (atF D n ≥ 0) = false from h) (by rw [h3]; simp))
  have ht : dtF most D n now = ((0, false, 0), putC D n (maxI (whenC D n) now) (idleC D n), false) := by unfold dtF; rw [h1, h2, h5]; rfl
  have e : putC D n (maxI (whenC D n) now) (idleC D n) = D.set k ⟨n, maxI (whenC D n) now, idleC D n⟩ := (zCk hn hk h4).2 _ _
  have hw : whenC D n = D[k].w := by unfold whenC; rw [(zCk hn hk h4).1]; rfl
  have hi : idleC D n = D[k].i := by unfold idleC; rw [(zCk hn hk h4).1]; rfl
  rw [ht]
  refine And.intro (by kernel_rfl) ?_
  refine ifK (fun _ => ?_) (fun h => absurd (show inI (atF D n) D.length = false from h) (by rw [h3]; simp [inI]; omega))
  refine Exists.intro (whenC D n) (And.intro (by rw [h3, hw]; exact zBl hk 1 rfl) ?_)
  refine ifK (fun _ => ?_) (fun h => absurd (show inI (atF D n) D.length = false from h) (by rw [h3]; simp [inI]; omega))
  refine Exists.intro undef (Exists.intro [((1 : Nat), some (dC (D.set k ⟨n, maxI (whenC D n) now, idleC D n⟩)))] (Exists.intro (0 : Nat) (And.intro ?_ ?_)))
  ·refine zFx (b := 1) (off := 0 + (atF D n).toNat * 3 + 1) (sz := 1) (v := .int .i64 (maxI (whenC D n) now)) (C := D.flatMap layD.g) rfl rfl rfl rfl int_tyD rfl rfl ?_ ?_
   ·rw [h3]; exact zRa hk 1 (by decide)
   ·rw [h3]
    refine own_set hk _ 1 _ ?_ (by decide)
    show [Value.int .i64 D[k].n, .int .i64 (maxI (whenC D n) now), .bool D[k].i] = [.int .i64 n, .int .i64 (maxI (whenC D n) now), .bool (idleC D n)]
    rw [h4, hi]
  ·rw [e]
   exact ⟨_, _, _, rfl, by kernel_rfl, fun _ => by kernel_rfl, fun h => (by cases h)⟩
end Go.Proofs.Ytpdeidlkeplegaa
namespace Go.Proofs.Ytpdeidlkeplegaa
open Go Go.RowKit
theorem zMw {f : FuncId} {args args0 : List Value} {H H' : Tr AObj} {n m tb lb b : Nat} {wr : List Nat} {most : Int} {D D' : List CliX} {v0 v : Value} (h : dAt tb (some lb) most D H) (hF : FnS Try.prog 0 f args0 (dH1 most D) 2 (.ret v0 H' m wr)) (ha : RL (caR [tb, lb]) args args0)
  (hv : RV (tau [tb, lb] [b] n) v0 v) (h0w : 0 ∈ wr) (hb : 2 ≤ b ∧ b < JJ) (g0 : H'.get 0 = some (dT most D' (some b))) (gb : H'.get b = some (dC D')) (g1 : H'.get 1 = some (dC D)) :
  CallOK Try.prog 0 f args H n (.ret v (setL H [(tb, some (dT most D' (some n))), (n, some (dC D'))]) (n + 1) [tb, lb]) := by
 refine zCl (n := n) [tb, lb] [b] [(tb, some (dT most D' (some n))), (n, some (dC D'))] hF (by simp [zMz h]) (zGb h) ha d_win1 (d_wins h) (by simp) (fun y hy => ?_) hv (fun p hp => ?_) (fun k j e hk => ?_) (fun j o ho => ?_)
 ·simp only [List.mem_singleton] at hy
  subst hy
  exact ⟨hb.1, hb.2, by rw [gb]; simp⟩
 ·simp only [List.mem_cons, List.not_mem_nil, or_false] at hp
  rcases hp with rfl | rfl
  ·exact .inl (List.mem_cons_self ..)
  ·exact .inr ⟨Nat.le_refl _, Nat.lt_succ_self _⟩
 ·match k, e with
  | 0, e => cases e; exact .inl (List.mem_cons_self ..)
  | 1, e => cases e; exact .inr ⟨_, _, h.2, g1, zBb _⟩
  | k + 2, e => cases e
 ·simp only [List.mem_cons, List.not_mem_nil, or_false, Prod.mk.injEq, Option.some.injEq] at ho
  rcases ho with ⟨rfl, rfl⟩ | ⟨rfl, rfl⟩
  ·exact ⟨0, _, zEb rfl, g0, zBu (zHm hb.1), fun _ => h0w⟩
  ·exact ⟨b, _, zHm hb.1, gb, zBb _, fun h => absurd h (by show ¬ b < 2; omega)⟩
def dtNew (r : (Int × Bool × Int) × List CliX × Bool) (most : Int) (tb : Nat) (o : Option Nat) (H : Tr AObj) (n : Nat) : Res := .ret (dtV r) ((H.set tb (some (dT most r.2.1 (some n)))).set n (some (dC r.2.1))) (n + 1) (tb :: o.toList)
def dtOld (r : (Int × Bool × Int) × List CliX × Bool) (tb : Nat) (o : Option Nat) (H : Tr AObj) (n : Nat) : Res := match o with
 | none => .ret (dtV r) H n []
 | some lb => .ret (dtV r) (H.set lb (some (dC r.2.1))) n [tb, lb]
noncomputable def ct_dtouch : Ct Try.prog 0 :=
 CtR.ct { f := 16, X := DtA, pre := fun x a H _ => (a = [.pointer (some ⟨x.tb, 0, none⟩), .int .i64 x.n, .int .i64 x.now] ∧ x.is = true) ∧ dAt x.tb x.o x.most x.D H ∧ x.D.length ≤ 1000000 ∧ (keysC x.D).Nodup ∧ 1 ≤ x.most,
          out := fun x H n => bif (dtF x.most x.D x.n x.now).2.2 then dtNew (dtF x.most x.D x.n x.now) x.most x.tb x.o H n else dtOld (dtF x.most x.D x.n x.now) x.tb x.o H n,
          ok := fun x a H n ⟨h1, h2, h3, h4, h5⟩ => by
           obtain ⟨h1, _⟩ := h1
           subst h1
           obtain ⟨tb, o, most, D, c, now, is⟩ := x
           cases o with
           | none =>
            have h2' : dAt tb none most D H := h2
            have hD : D = [] := h2'.2
            subst hD
            obtain ⟨r, hF, H', m, wr, rfl, q1, q2⟩ := zRv most c now h5
            show TOK Try.prog 0 (.call _ _) ⟨.e, H, n, [], []⟩ (bif (dtF most [] c now).2.2 then dtNew (dtF most [] c now) most tb none H n else dtOld (dtF most [] c now) tb none H n)
            cases hb : (dtF most [] c now).2.2 with
            | true =>
             obtain ⟨b, hb1, hb2, hw, g0, g1⟩ := q2 hb
             exact zDj [tb] rfl (Nat.le_of_ble_eq_true rfl) (by simp) hF (zEw h2') (.cons _ _ _ _ (.ptr _ _ _ rfl) (.cons _ _ _ _ (.int _ _) (.cons _ _ _ _ (.int _ _) .nil))) d_win0 (d_wins0 h2') (zBf 8 rfl) hw (fun k _ hk => by have hk : k < 1 := hk; omega) ⟨hb1, hb2⟩ g0 g1
            | false =>
             exact zAz [tb] hF (q1 hb).2 (zBi (by simp)) (.cons _ _ _ _ (.ptr _ _ _ rfl) (.cons _ _ _ _ (.int _ _) (.cons _ _ _ _ (.int _ _) .nil))) (zEw h2') rfl
           | some lb =>
            have h2' : dAt tb (some lb) most D H := h2
            obtain ⟨r, hF, H', m, wr, rfl, g1, q1, q2⟩ := zRw most D c now h4 h3
            show TOK Try.prog 0 (.call _ _) ⟨.e, H, n, [], []⟩ (bif (dtF most D c now).2.2 then dtNew (dtF most D c now) most tb (some lb) H n else dtOld (dtF most D c now) tb (some lb) H n)
            cases hb : (dtF most D c now).2.2 with
            | true =>
             rw [hb] at g1
             obtain ⟨b, hb1, hb2, hw, g0, gb⟩ := q2 hb
             exact zMw h2' hF (.cons _ _ _ _ (.ptr _ _ _ rfl) (.cons _ _ _ _ (.int _ _) (.cons _ _ _ _ (.int _ _) .nil))) (zBf 8 rfl) hw ⟨hb1, hb2⟩ g0 gb g1
            | false =>
             rw [hb] at g1
             exact zIs h2' hF (.cons _ _ _ _ (.ptr _ _ _ rfl) (.cons _ _ _ _ (.int _ _) (.cons _ _ _ _ (.int _ _) .nil))) (zBf 8 rfl) (q1 hb) g1,
          uniq := fun x y a H n ⟨h1, h2, _⟩ ⟨k1, k2, _⟩ => by
           obtain ⟨h1, hb⟩ := h1
           obtain ⟨k1, kb⟩ := k1
           rw [h1] at k1
           obtain ⟨tb, o, most, D, c, now, is⟩ := x
           obtain ⟨tb', o', most', D', c', now', is'⟩ := y
           simp only [List.cons.injEq, Value.pointer.injEq, Option.some.injEq, Addr.mk.injEq, Value.int.injEq, true_and, and_true] at k1
           obtain ⟨rfl, rfl, rfl⟩ := k1
           obtain ⟨rfl, rfl, rfl⟩ := zGa h2 k2
           rfl,
          tr := fun x H n K => match x.o with
           | none => frcN x.tb fun tb => brK (dtF x.most x.D x.n x.now).2.2 (K (dtNew (dtF x.most x.D x.n x.now) x.most tb none H n)) (K (.ret (dtV (dtF x.most x.D x.n x.now)) H n []))
           | some lb => frcN x.tb fun tb => frcN lb fun lb => brK (dtF x.most x.D x.n x.now).2.2 (K (dtNew (dtF x.most x.D x.n x.now) x.most tb (some lb) H n)) (K (.ret (dtV (dtF x.most x.D x.n x.now)) (H.set lb (some (dC (dtF x.most x.D x.n x.now).2.1))) n [tb, lb])),
          trOk := fun x H n K h => by
           obtain ⟨tb, o, most, D, c, now, is⟩ := x
           show K (bif (dtF most D c now).2.2 then dtNew (dtF most D c now) most tb o H n else dtOld (dtF most D c now) tb o H n)
           cases o with
           | none =>
            have h : frcN tb fun tb => brK (dtF most D c now).2.2 (K (dtNew (dtF most D c now) most tb none H n)) (K (.ret (dtV (dtF most D c now)) H n [])) := h
            rw [zAs] at h
            cases hb : (dtF most D c now).2.2 with
            | true => rw [hb] at h; exact h
            | false => rw [hb] at h; exact h
           | some lb =>
            have h : frcN tb fun tb => frcN lb fun lb => brK (dtF most D c now).2.2 (K (dtNew (dtF most D c now) most tb (some lb) H n)) (K (.ret (dtV (dtF most D c now)) (H.set lb (some (dC (dtF most D c now).2.1))) n [tb, lb])) := h
            rw [zAs, zAs] at h
            cases hb : (dtF most D c now).2.2 with
            | true => rw [hb] at h; exact h
            | false => rw [hb] at h; exact h }
theorem zFf : (Try.prog.types[3]).size = 1 := by kernel_rfl
theorem by_int20 : (Try.prog.types[3]).bytes ≤ 100 := by decide +kernel
theorem app_sideI {la lm l m sz bytes : Nat} {C news : List Value} (hs : sz = 1) (hb : bytes ≤ 100) (hC : C.length = la) (hn : news.length = lm) (ho : oneL news = true) (h1 : l = la) (h2 : m = lm) (h3 : la + lm ≤ 3000000) (h4 : lm ≠ 0) :
  (Nat.beq 0 0 && Nat.beq 3 3 && (l * sz).ble C.length && oneL news && decide ((l + m) * bytes ≤ 140737488355328) && decide (l + m ≤ 9223372036854775807) && Nat.blt C.length (0 + l * sz + news.length)) = true := by
 subst hs h1 h2
 have h5 := Nat.mul_le_mul h3 hb
 rw [ho, hC, hn, Nat.mul_one, Nat.ble_eq_true_of_le (Nat.le_refl _), decide_eq_true (show (l + m) * bytes ≤ 140737488355328 by omega), decide_eq_true (show l + m ≤ 9223372036854775807 by omega), show Nat.blt l (0 + l + m) = true from Nat.ble_eq_true_of_le (by show l + 1 ≤ _; omega)]
 rfl
theorem zNk {D : List CliX} {k : Nat} (h : k < D.length) : (keysC (D.take (k + 1))).map iV = (keysC (D.take k)).map iV ++ [.int .i64 D[k].n] := by
 unfold keysC
 rw [List.take_succ_eq_append_getElem h, List.map_append, List.map_append]; rfl
theorem zGh {D : List CliX} {k : Nat} (h : k ≤ D.length) : ((keysC (D.take k)).map iV).length = k := by
 unfold keysC
 rw [List.length_map, List.length_map, List.length_take, Nat.min_eq_left h]
theorem zOw {σ : Nat → Nat → Prop} {X Y : List Value} (h : X = Y) (hp : plainL Y = true) : RO Try.prog σ (.cells X 3) (.cells Y 3) := by subst h; exact .same hp
theorem zAj (l : List Int) : plainL (l.map iV) = true := by
 induction l with
 | nil => rfl
 | cons x l ih => exact ih
noncomputable def tbTs6 : Tb Try.prog 0 := tbOf mixed []
theorem dall_fn0 (most : Int) : ∃ r, FnS Try.prog 0 22 [.pointer (some ⟨0, 0, none⟩)] (dH0 most) 1 r ∧ ∃ H m wr, r = .ret (.slice none 0 0) H m wr ∧ ∀ k ∈ wr, 1 ≤ k := by
 refine zCv mixed tbTs6 [] Try.func22 (c := bodyOf Try.f22) (by kernel_rfl) ?_
 refine LW.round (zEa tbTs6 [] 1 _ none mixed _ _ _ ?_)
 exact ⟨_, _, _, rfl, zOb rfl⟩
def daS (most : Int) (D : List CliX) (k : Nat) (f : Nat → Option Value) : Fs := ⟨slots 5 [(0, .pointer (some ⟨0, 0, none⟩)), (3, .slice (some ⟨2, 0, none⟩) k U), (4, .int .i64 (k : Nat))] f, heap 2 [(0, dT most D (some 1)), (1, dC D), (2, .cells ((keysC (D.take k)).map iV) 3)], 3, [], []⟩
theorem dall_fn1 (most : Int) (D : List CliX) (hl : D.length ≤ 1000000) (h0 : D ≠ []) : ∃ r, FnS Try.prog 0 22 [.pointer (some ⟨0, 0, none⟩)] (dH1 most D) 2 r ∧ ∃ H m wr b, r = .ret (.slice (some ⟨b, 0, none⟩) D.length U) H m wr ∧ (∀ k ∈ wr, 2 ≤ k) ∧ 2 ≤ b ∧ b < JJ ∧ H.get b = some (.cells ((keysC D).map iV) 3) := by
 refine zCv mixed tbTs6 [1] Try.func22 (c := bodyOf Try.f22) (by kernel_rfl) ?_
 have hl0 : 0 < D.length := List.length_pos_iff.2 h0
 refine LW.round (zEa tbTs6 [1] 2 _ none mixed _ _ _ ?_)
 refine ifK (fun _ => ?_) (fun h => absurd (show decide ((0 : Int) < ((D.length : Nat) : Int)) = false from h) (by simp; exact h0))
 refine ifK (fun _ => ?_) (fun h => absurd h (by simp [inI]; omega))
 refine Exists.intro D[0].n (And.intro (zBl hl0 0 rfl) ?_)
 refine zCa (fun (k : Nat) f => daS most D k f) (fun k => D.length - k) (fun k => 1 ≤ k ∧ k ≤ D.length) 1 ⟨Nat.le_refl _, hl0⟩ ?_ ?_
 ·exact rcq [3] ⟨⟨_, rfl, .ptr _ _ _ rfl⟩, ⟨_, rfl, .sl _ _ _ _ _ rfl⟩, ⟨_, rfl, .int _ _⟩, trivial⟩ ⟨⟨by decide, _, rfl, zBu rfl⟩, ⟨by decide, _, rfl, zBb _⟩, ⟨by decide, _, rfl, zOw (by rw [show (1 : Nat) = 0 + 1 from rfl, zNk hl0]; rfl) (zAj _)⟩, trivial⟩ .nil
 rintro k f ⟨hk1, hk⟩
 have hk : k ≤ D.length := hk
 refine zEa tbTs6 [1] 2 _ none mixed _ _ _ ?_
 refine ifK (fun h6 => ?_) (fun h6 => ?_)
 ·have h6 : k < D.length := by have h6 : ((k : Nat) : Int) < ((D.length : Nat) : Int) := of_decide_eq_true h6; omega
  refine ifK (fun _ => ?_) (fun h => absurd h (by simp [inI]; omega))
  refine Exists.intro D[k].n (And.intro (zBl h6 0 rfl) ?_)
  refine And.intro (app_sideI (la := k) (lm := 1) zFf by_int20 (zGh hk) (by rw [zFf]; rfl) (by rw [zFf]; rfl) rfl rfl (by omega) (by decide)) ?_
  exact ⟨k + 1, ⟨by omega, h6⟩, by show D.length - (k + 1) < D.length - k; omega, rcq [4] ⟨⟨_, rfl, .ptr _ _ _ rfl⟩, ⟨_, rfl, .sl _ _ _ _ _ rfl⟩, zAc rfl (by show IntKind.i64.wrap ((k : Int) + 1) = ((k + 1 : Nat) : Int); rw [wrapN (by omega) (by omega)]; omega), trivial⟩ ⟨⟨by decide, _, rfl, zBu rfl⟩, ⟨by decide, _, rfl, zBb _⟩, ⟨by decide, _, rfl, zOw (by rw [zNk h6]; show List.take (k * (Try.prog.types[3]).size) ((keysC (D.take k)).map iV) ++ List.take (1 * (Try.prog.types[3]).size) (List.drop 0 [Value.int .i64 D[k].n]) = _; rw [zFf, List.take_of_length_le (by rw [zGh hk]; omega)]; rfl) (zAj _)⟩, trivial⟩ .nil⟩
 ·have h6 : ¬ k < D.length := by have h6 : ¬ ((k : Nat) : Int) < (D.length : Int) := of_decide_eq_false h6; omega
  have hke : k = D.length := by omega
  subst hke
  refine And.intro rfl (zCf (rcq [2] (d := 5) (d2 := 2) (lv := [(3, .slice (some ⟨2, 0, none⟩) D.length U)]) (bs := [(2, .cells ((keysC D).map iV) 3)]) (W := []) (m := 3) (df := []) ⟨⟨_, rfl, .sl _ _ _ _ _ rfl⟩, trivial⟩ ⟨⟨by decide, _, rfl, zOw (by rw [List.take_length]) (zAj _)⟩, trivial⟩ .nil) (fun f => ?_))
  exact ⟨_, _, _, 2, rfl, (fun k hk => by cases hk), by decide, by decide, by kernel_rfl⟩
noncomputable def ct_dall : Ct Try.prog 0 :=
 CtR.ct { f := 22, X := DtA, pre := fun x a H _ => (a = [.pointer (some ⟨x.tb, 0, none⟩)] ∧ x.now = 0 ∧ x.is = true ∧ x.n = 0) ∧ dAt x.tb x.o x.most x.D H ∧ x.D.length ≤ 1000000 ∧ (x.o.isSome = true → x.D ≠ []),
          out := fun x H n => match x.o with
           | none => .ret (.slice none 0 0) H n []
           | some _ => .ret (.slice (some ⟨n, 0, none⟩) x.D.length U) (H.set n (some (.cells ((keysC x.D).map iV) 3))) (n + 1) [],
          ok := fun x a H n ⟨h1, h2, h3, h4⟩ => by
           obtain ⟨h1, _⟩ := h1
           subst h1
           obtain ⟨tb, o, most, D, c, now, is⟩ := x
           cases o with
           | none =>
            have h2' : dAt tb none most D H := h2
            obtain ⟨r, hF, H', m, wr, rfl, hw⟩ := dall_fn0 most
            exact zAz [tb] hF hw (zBi (by simp)) (.cons _ _ _ _ (.ptr _ _ _ rfl) .nil) (zEw h2') rfl
           | some lb =>
            have h2' : dAt tb (some lb) most D H := h2
            obtain ⟨r, hF, H', m, wr, b, rfl, hw, hb1, hb2, gb⟩ := dall_fn1 most D h3 (h4 rfl)
            exact zLq (fun n => .slice (some ⟨n, 0, none⟩) D.length U) [tb, lb] hF hw (zBi (by simp [zMz h2'])) (.cons _ _ _ _ (.ptr _ _ _ rfl) .nil) (zGb h2') gb hb1 hb2 (zAj _) (fun n => .sl _ _ _ _ _ (zHm hb1)),
          uniq := fun x y a H n ⟨h1, h2, _⟩ ⟨k1, k2, _⟩ => by
           obtain ⟨h1, hb, hc, hd⟩ := h1
           obtain ⟨k1, kb, kc, kd⟩ := k1
           rw [h1] at k1
           obtain ⟨tb, o, most, D, c, now, is⟩ := x
           obtain ⟨tb', o', most', D', c', now', is'⟩ := y
           simp only [List.cons.injEq, Value.pointer.injEq, Option.some.injEq, Addr.mk.injEq, and_true] at k1
           subst k1
           obtain ⟨rfl, rfl, rfl⟩ := zGa h2 k2
           rfl }
end Go.Proofs.Ytpdeidlkeplegaa
namespace Go.Proofs.Ytpdeidlkeplegaa
open Go Go.RowKit
section
variable {ev : Operand → Value} {G : Gh} {n : Nat} {o : Oper}
end
end Go.Proofs.Ytpdeidlkeplegaa
namespace Go.Proofs.Ytpdeidlkeplegaa
open Go Go.RowKit
theorem zMv : zMj (evT Try.prog 0 [zMy] 1000000 (.call 8 []) fs0) = true := by kernel_rfl
theorem zLo (w : World) (hpos : 0 < w.heap.size) : Calls Try.prog 8 #[] w fun e w' => e = .returned (.bool true) ∧ Below w.heap.size w w' := evT_true mixed [zMy] 1000000 _ zMv w hpos
end Go.Proofs.Ytpdeidlkeplegaa
namespace Go.Proofs.Ytpdeidlkeplegaa
open Go Go.RowKit
def ints (L : List Int) : AObj := .cells (L.map iV) 3
def inH (a b : List Int) : Tr AObj := heap 2 [(0, ints a), (1, ints b)]
noncomputable def tbTs8 : Tb Try.prog 0 := tbOf mixed []
theorem iV_at {L : List Int} {i : Nat} (h : i < L.length) : (L.map iV)[0 + ((i : Nat) : Int).toNat * 1]? = some (.int .i64 L[i]) := by
 rw [Int.toNat_natCast, Nat.mul_one, Nat.zero_add, List.getElem?_map, List.getElem?_eq_getElem h]; rfl
theorem sameI_fn1 (a b : List Int) (hl : a.length ≤ 1000000000) : ∃ r, FnS Try.prog 0 21 [.slice (some ⟨0, 0, none⟩) a.length U, .slice (some ⟨1, 0, none⟩) b.length U] (inH a b) 2 r ∧ ∃ H m wr, r = .ret (.bool (decide (a = b))) H m wr ∧ ∀ k ∈ wr, 2 ≤ k := by
 refine zCv mixed tbTs8 [0, 1] Try.func21 (c := bodyOf Try.f21) (by kernel_rfl) ?_
 refine ifK (fun h => ?_) (fun h => ?_)
 ·have h : ((a.length : Int) != (b.length : Int)) = true := h
  have h : a.length ≠ b.length := by have : (a.length : Int) ≠ (b.length : Int) := by simpa using h
                                     omega
  rw [decide_eq_false (fun e => h (by rw [e]))]
  exact ⟨_, _, _, rfl, wr_ge2 rfl⟩
 have h : ((a.length : Int) != (b.length : Int)) = false := h
 have h : a.length = b.length := by have : (a.length : Int) = (b.length : Int) := by simpa using h
                                    omega
 refine zCa (fun (i : Nat) f => ⟨slots 5 [(0, .slice (some ⟨0, 0, none⟩) a.length U), (1, .slice (some ⟨1, 0, none⟩) b.length U), (5, .int .i64 (i : Nat))] f, inH a b, 2, [], []⟩) (fun i => a.length - i) (fun i => i ≤ a.length ∧ a.take i = b.take i) 0 ⟨Nat.zero_le _, rfl⟩ (rcq [] ⟨⟨_, rfl, .sl _ _ _ _ _ rfl⟩, ⟨_, rfl, .sl _ _ _ _ _ rfl⟩, ⟨_, rfl, .int _ _⟩, trivial⟩ ⟨bpo (zAj _), bpo (zAj _), trivial⟩ .nil) ?_
 rintro i f ⟨hi, heq⟩
 have hi : i ≤ a.length := hi
 refine zEa tbTs8 [0, 1] 2 _ none mixed _ _ _ ?_
 refine ifK (fun h1 => ?_) (fun h1 => ?_)
 ·have h1 : i < a.length := by have h1 : ((i : Nat) : Int) < (a.length : Int) := of_decide_eq_true h1; omega
  have h1b : i < b.length := by omega
  refine And.intro (by kernel_rfl) ?_
  refine ifK (fun _ => ?_) (fun h2 => absurd h2 (by simp [inI]; omega))
  refine Exists.intro a[i] (And.intro (iV_at h1) ?_)
  refine ifK (fun _ => ?_) (fun h2 => absurd h2 (by simp [inI]; omega))
  refine Exists.intro b[i] (And.intro (iV_at h1b) ?_)
  refine ifK (fun h3 => ?_) (fun h3 => ?_)
  ·have h3 : (a[i] != b[i]) = true := h3
   have h3 : a[i] ≠ b[i] := by simpa using h3
   rw [decide_eq_false (fun e => h3 (by subst e; rfl))]
   exact And.intro rfl (zCf (rcq [] (d := 5) (d2 := 0) (lv := [(4, .bool false)]) (bs := []) (W := []) (m := 2) (df := []) ⟨⟨_, rfl, zBf 8 rfl⟩, trivial⟩ trivial .nil) (fun f => ⟨_, _, _, rfl, fun k hk => by cases hk⟩))
  ·have h3 : (a[i] != b[i]) = false := h3
   have h3 : a[i] = b[i] := by simpa using h3
   exact ⟨i + 1, ⟨h1, by rw [List.take_succ_eq_append_getElem h1, List.take_succ_eq_append_getElem h1b, heq, h3]⟩, by show a.length - (i + 1) < a.length - i; omega, rcq [] ⟨⟨_, rfl, .sl _ _ _ _ _ rfl⟩, ⟨_, rfl, .sl _ _ _ _ _ rfl⟩, zAc rfl (by show IntKind.i64.wrap ((i : Int) + 1) = ((i + 1 : Nat) : Int); rw [wrapN (by omega) (by omega)]; omega), trivial⟩ ⟨bpo (zAj _), bpo (zAj _), trivial⟩ .nil⟩
 ·have h1 : i = a.length := by have h1 : ¬ ((i : Nat) : Int) < (a.length : Int) := of_decide_eq_false h1; omega
  have e : a = b := by rw [h1, List.take_of_length_le (Nat.le_refl _), List.take_of_length_le (by omega)] at heq; exact heq
  rw [decide_eq_true e]
  exact And.intro rfl (zCf (rcq [] (d := 5) (d2 := 0) (lv := []) (bs := []) (W := []) (m := 2) (df := []) trivial trivial .nil) (fun f => ⟨_, _, _, rfl, fun k hk => by cases hk⟩))
structure SiA where
 p : Nat
 q : Nat
 a : List Int
 b : List Int
 na : Nat
 nb : Nat
theorem zQr {a b : List Int} (h : ints a = ints b) : a = b := by
 unfold ints at h
 simp only [AObj.cells.injEq, and_true] at h
 exact layI.flat_inj _ _ ((flatI a).trans (h.trans (flatI b).symm))
noncomputable def ct_sameIo : Ct Try.prog 0 :=
 CtR.ct { f := 21, X := SiA, pre := fun x a H _ => a = [.slice (some ⟨x.p, 0, none⟩) x.na U, .slice (some ⟨x.q, 0, none⟩) x.nb U] ∧ (H.get x.p = some (ints x.a) ∧ H.get x.q = some (ints x.b)) ∧ (x.na = x.a.length ∧ x.nb = x.b.length) ∧ x.p ≠ x.q ∧ x.a.length ≤ 1000000000,
          out := fun x H n => .ret (.bool (decide (x.a = x.b))) H n [],
          ok := fun x a H n ⟨h1, h2, ⟨e1, e2⟩, h3, h4⟩ => by
           rw [e1, e2] at h1
           subst h1
           obtain ⟨r, hF, H', m, wr, rfl, hw⟩ := sameI_fn1 x.a x.b h4
           exact zAz [x.p, x.q] hF hw (zBi (by simp [h3])) (.cons _ _ _ _ (.sl _ _ _ _ _ rfl) (.cons _ _ _ _ (.sl _ _ _ _ _ rfl) .nil)) (zEv ⟨⟨x.p, _, rfl, h2.1, .same (zAj _)⟩, ⟨x.q, _, rfl, h2.2, .same (zAj _)⟩, trivial⟩) rfl,
          uniq := fun x y a H n ⟨h1, h2, _⟩ ⟨k1, k2, _⟩ => by
           rw [h1] at k1
           obtain ⟨p, q, a, b, na, nb⟩ := x
           obtain ⟨p', q', a', b', na', nb'⟩ := y
           simp only [List.cons.injEq, Value.slice.injEq, Option.some.injEq, Addr.mk.injEq, true_and, and_true] at k1
           obtain ⟨⟨rfl, _⟩, ⟨rfl, _⟩⟩ := k1
           have f1 : a = a' := zQr (Option.some.inj (h2.1.symm.trans k2.1))
           have f2 : b = b' := zQr (Option.some.inj (h2.2.symm.trans k2.2))
           cases f1
           cases f2
           rfl }
noncomputable def inl_sameI : Ct Try.prog 0 := Ct.inl tbTs8 mixed [] 21 Try.f21 Try.func21 (bodyOf Try.f21) (by kernel_rfl)
def nilFst (a : List Value) : Bool := match a with | .slice none _ _ :: _ => true | _ => false
noncomputable def ct_sameIx : Ct Try.prog 0 := Ct.alt nilFst inl_sameI ct_sameIo (by kernel_rfl)
end Go.Proofs.Ytpdeidlkeplegaa
