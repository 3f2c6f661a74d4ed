/- DERIVED. slices.Sorted(maps.Keys(m)), m's keys being numbers: a contract for M. -/
import Derived.Test.YtpdeidlkeplegaaMix
import Derived.Test.YtpdeidlkeplegaaS8
import Derived.Test.YtpdeidlkeplegaaLay20
namespace Go.Proofs.Ytpdeidlkeplegaa
open Go Go.RowKit Go.Maps
open Go.WideElems (Fit rd rg rg_of rd_mk)

/-! ## sorting -/
def insI (x : Int) : List Int → List Int
  | [] => [x]
  | y :: l => bif decide (x ≤ y) then x :: y :: l else y :: insI x l
def isortI : List Int → List Int
  | [] => []
  | x :: l => insI x (isortI l)
theorem insI_perm (x : Int) : ∀ l, (insI x l).Perm (x :: l)
  | [] => .refl _
  | y :: l => by
    unfold insI
    cases decide (x ≤ y) with
    | true => exact .refl _
    | false => exact ((insI_perm x l).cons y).trans (.swap x y l)
theorem isortI_perm : ∀ l, (isortI l).Perm l
  | [] => .refl _
  | x :: l => (insI_perm x _).trans ((isortI_perm l).cons x)
theorem insI_sorted {x : Int} : ∀ {l : List Int}, l.Pairwise (· ≤ ·) → (insI x l).Pairwise (· ≤ ·)
  | [], _ => by simp [insI]
  | y :: l, h => by
    rw [List.pairwise_cons] at h
    unfold insI
    cases hd : decide (x ≤ y) with
    | true =>
      have := of_decide_eq_true hd
      refine List.pairwise_cons.2 ⟨fun z hz => ?_, List.pairwise_cons.2 h⟩
      rcases List.mem_cons.1 hz with rfl | hz
      · exact this
      · have := h.1 z hz; omega
    | false =>
      have := of_decide_eq_false hd
      refine List.pairwise_cons.2 ⟨fun z hz => ?_, insI_sorted h.2⟩
      have hz := (insI_perm x l).mem_iff.1 hz
      rcases List.mem_cons.1 hz with rfl | hz
      · omega
      · exact h.1 z hz
theorem isortI_sorted : ∀ l, (isortI l).Pairwise (· ≤ ·)
  | [] => .nil
  | x :: l => insI_sorted (isortI_sorted l)
theorem sort_isort {ss ks : List Int} (h : ss.Perm ks) : (ss.mergeSort fun x y => decide (x ≤ y)) = isortI ks := by
  have tr : ∀ a b c : Int, leI a b = true → leI b c = true → leI a c = true := fun a b c h1 h2 => by simp only [leI, decide_eq_true_eq] at *; exact Int.le_trans h1 h2
  have to : ∀ a b : Int, (leI a b || leI b a) = true := fun a b => by simp only [leI, Bool.or_eq_true, decide_eq_true_eq]; exact Int.le_total a b
  refine List.Perm.eq_of_pairwise (le := fun a b => leI a b = true) (fun a b _ _ h1 h2 => ?_) (List.pairwise_mergeSort tr to ss) ((isortI_sorted ks).imp fun {a b} h => by simpa [leI] using h) (((List.mergeSort_perm ss leI).trans h).trans (isortI_perm ks).symm)
  simp only [leI, decide_eq_true_eq] at h1 h2
  exact Int.le_antisymm h1 h2

/-! ## keys -/
def keyInts : List MapEntry → Option (List Int)
  | [] => some []
  | e :: l => match e.key with
    | .int .i64 k => bif decide (-9223372036854775808 ≤ k) && decide (k ≤ 9223372036854775807) then (keyInts l).map (k :: ·) else none
    | _ => none
def nodupI : List Int → Bool
  | [] => true
  | x :: l => (l.all fun y => !decide (x = y)) && nodupI l
theorem nodupI_spec : ∀ {l : List Int}, nodupI l = true → l.Nodup
  | [], _ => .nil
  | x :: l, h => by
    simp only [nodupI, Bool.and_eq_true] at h
    refine List.nodup_cons.2 ⟨fun hx => ?_, nodupI_spec h.2⟩
    have := List.all_eq_true.1 h.1 x hx
    simp at this
theorem keyInts_ml {E : Env} : ∀ {es l : List MapEntry} {ks : List Int}, keyInts es = some ks → ML E es l → l.map (·.key) = ks.map (Value.int .i64) ∧ ∀ k ∈ ks, -9223372036854775808 ≤ k ∧ k ≤ 9223372036854775807
  | [], _, ks, h, .nil => by simp [keyInts] at h; subst h; simp
  | e :: es, _, ks, h, .cons _ e' _ l' hk hv ht => by
    unfold keyInts at h
    split at h
    · rename_i k hke
      cases hc : (decide (-9223372036854775808 ≤ k) && decide (k ≤ 9223372036854775807)) with
      | false => simp [hc] at h
      | true =>
        simp only [hc, cond_true, Option.map_eq_some_iff] at h
        obtain ⟨ks', h1, rfl⟩ := h
        obtain ⟨h2, h3⟩ := keyInts_ml h1 ht
        rw [hke] at hk
        simp only [Bool.and_eq_true, decide_eq_true_eq] at hc
        refine ⟨by simp [h2, hk.int_eq], fun k' hk' => ?_⟩
        rcases List.mem_cons.1 hk' with rfl | hk'
        · exact hc
        · exact h3 k' hk'
    · cases h

def anyR {H : Type} : Value → Option (DataW H × List MemPlace) := fun _ => some (.nil, [])

def intOfV : Value → Int
  | .int _ a => a
  | _ => 0

/-- What a call gives that lays a new list. -/
theorem list_end {P : Program} {E : Env} {H : Tr AObj} {n : Nat} {w w' : World} {e : TypeId} {sz : Nat} {xs : List Value} {len : Nat} {v : Value} (hE : HR P E H.get w) (hf : len ≠ 0 → Free E n (n + 1)) (hx : plainL xs = true) (hi : (P.info? e).map (·.size) = some sz)
    (hb : Below w.heap.size w w') (hrow : w'.ownsRow w.heap.size e sz v len xs) (hz0 : len = 0 → v = .slice none 0 0) : CallEnd P E n w (listOut e sz xs len id H n) (.returned v) w' := by
  unfold listOut
  cases hz : len.beq 0 with
  | true =>
    have hz := Nat.eq_of_beq_eq_true hz
    simp only [cond_true]
    have hv := hz0 hz
    subst hv
    obtain ⟨b1, b2, b3, b4, b5⟩ := hb
    refine ⟨E, _, rfl, .snil 0 0, .refl E, .refl E _, ⟨fun id hd => Nat.lt_of_lt_of_le (hE.lt id hd) b4, hE.dom, fun id o ho => ?_, hE.inj⟩, .refl E, b1, b2, b3, b4, fun b hb _ => b5 b hb, fun id h1 h2 => absurd h2 h1⟩
    have hd := hE.live (id := id) (by rw [ho]; simp)
    exact (hE.obj id o ho).mono (.refl E) hd (b5 _ (hE.lt id hd))
  | false =>
    have hz : len ≠ 0 := fun e => by subst e; simp at hz
    simp only [cond_false]
    obtain ⟨hxl, hown⟩ := hrow
    rcases hown with ⟨_, h0⟩ | ⟨g, cap, cur, rfl, hg, hc, h1, h2, h3, h4⟩
    · exact absurd h0 hz
    · have hnd : ¬ E.dom n := hf hz n (Nat.le_refl _) (by omega)
      have hle : xs.length ≤ cur.size := by
        rw [h3, hxl]; exact Nat.mul_le_mul_right _ h1
      obtain ⟨k1, k2⟩ := hr_fresh hE hnd hb hg hc hi (xs := xs) (by rw [hxl]; exact h4) hx hle
      refine ⟨_, _, rfl, ?_, k2.ext, dom1, by rw [get_gset]; exact k1, k2⟩
      have := VR.su (E := E.push n g cur.size sz) n 0 len cap (E.push_dom n g cur.size sz) h1 h2 (by rw [Env.push_sz, Env.push_tot, h3]; omega)
      rwa [Env.push_ρ] at this

def sortedArgs (l : List Value) (H : Tr AObj) : Option (List Int) :=
  match l with
  | [.func (.func g) fs cap] =>
    bif g.beq 38 && fs.size.beq 0 then
      (match cap.toList with
      | [.pointer (some ⟨c, 0, none⟩)] => (match H.get c with
        | some (.cells [.map (some mb)] _) => (match H.get mb with
          | some (.map es _) => (match keyInts es with
            | some ks => bif nodupI ks && ks.length.ble 1000000 then some ks else none
            | none => none)
          | _ => none)
        | _ => none)
      | _ => none)
    else none
  | _ => none

theorem sorts_law (m : Nat) : AnyZI.SortsIn Try.prog lay_sorted_ren Fence.wide m :=
  ⟨fun blk off cap ss W hH hblk hsz => callsIn_wide.2 (AnyM.slices_Sort_int lay_sort blk off cap ss W hH hblk hsz),
   fun p cap W => callsIn_wide.2 (AnyM.slices_Sort_int_none lay_sort p cap W)⟩

theorem sorted_ok {l : List Value} {H : Tr AObj} {n : Nat} {ks : List Int} (h : sortedArgs l H = some ks) : TOK Try.prog 0 (.call 28 l) ⟨.e, H, n, [], []⟩ (listOut 3 1 ((isortI ks).map (Value.int .i64)) ks.length id H n) := by
  have main : ∀ (E : Env) (w : World) (args' : Array Value), VL E l args'.toList → HR Try.prog E H.get w → (ks.length ≠ 0 → Free E n (n + 1)) → CallsIn Fence.wide 0 Try.prog 28 args' w (CallEnd Try.prog E n w (listOut 3 1 ((isortI ks).map (Value.int .i64)) ks.length id H n)) := by
    intro E w args' hva hE hf
    unfold sortedArgs at h
    split at h
    case h_2 => cases h
    rename_i g fs cap
    cases hg : (g.beq 38 && fs.size.beq 0) with
    | false => simp [hg] at h
    | true =>
    simp only [hg, cond_true] at h
    simp only [Bool.and_eq_true] at hg
    have hg1 := Nat.eq_of_beq_eq_true hg.1
    have hg2 := Nat.eq_of_beq_eq_true hg.2
    subst hg1
    split at h
    case h_2 => cases h
    rename_i c hcap
    split at h
    case h_2 => cases h
    rename_i mb bt hHc
    split at h
    case h_2 => cases h
    rename_i es ck hHm
    split at h
    case h_2 => cases h
    rename_i ks' hks
    cases hnd : (nodupI ks' && ks'.length.ble 1000000) with
    | false => simp [hnd] at h
    | true =>
    simp only [hnd, cond_true, Option.some.injEq] at h
    subst h
    simp only [Bool.and_eq_true] at hnd
    have hlen : ks'.length ≤ 1000000 := Nat.le_of_ble_eq_true hnd.2
    have hnodup := nodupI_spec hnd.1
    have harg : args' = #[.func (.func 38) #[] #[.pointer (some ⟨E.ρ c, 0, none⟩)]] := by
      have hv : ∃ v', args'.toList = [v'] ∧ VR E (.func (.func 38) fs cap) v' := by
        generalize args'.toList = x at hva
        cases hva with | cons _ v' _ l' hv ht => cases ht; exact ⟨v', rfl, hv⟩
      obtain ⟨v', h1, h2⟩ := hv
      have : v' = .func (.func 38) #[] #[.pointer (some ⟨E.ρ c, 0, none⟩)] := by
        cases h2 with
        | func _ _ fs' _ cap' _ ha hc =>
          have e1 : fs' = #[] := by
            have : fs'.toList.length = 0 := by rw [← ha.length, Array.length_toList, hg2]
            exact Array.ext' (List.eq_nil_of_length_eq_zero this)
          have e2 : cap' = #[.pointer (some ⟨E.ρ c, 0, none⟩)] := by
            rw [hcap] at hc
            generalize hy : cap'.toList = y at hc
            cases hc with
            | cons _ u _ l' hu ht =>
              cases ht
              cases hu
              exact Array.ext' hy
          rw [e1, e2]
      rw [this] at h1
      exact Array.ext' h1
    subst harg
    obtain ⟨es', hb, hmp⟩ := hE.obj mb _ hHm
    obtain ⟨cell', hc1, _, hc3⟩ := or_cells_at (hE.obj c _ hHc) 0 (.map (some mb)) rfl
    have hc2 : cell' = .map (some (E.ρ mb)) := by cases hc3; rfl
    subst hc2
    have hclt : E.ρ c < w.heap.size := hE.lt c (hE.live (by rw [hHc]; simp))
    obtain ⟨pl, hperm, hml⟩ := hmp.perm
    obtain ⟨hkeys, hrange⟩ := keyInts_ml hks hml
    have hkp : (ks'.map (Value.int .i64)).Perm (es'.toList.map (·.key)) := by rw [← hkeys]; exact hperm.map _
    have hread : ∀ x ∈ es'.toList, ∃ k : Int, k ∈ ks' ∧ x.key = .int .i64 k := fun x hx => by
      have : x.key ∈ ks'.map (Value.int .i64) := hkp.mem_iff.2 (List.mem_map.2 ⟨x, hx, rfl⟩)
      obtain ⟨k, hk, e⟩ := List.mem_map.1 this
      exact ⟨k, hk, e.symm⟩
    have hkey : ∀ x ∈ es'.toList, ∃ k : Int, k ∈ ks' ∧ x.key = .int .i64 k ∧ keyOf Try.prog 3 x.key = some (.int .i64 k) := fun x hx => by
      obtain ⟨k, hk, e⟩ := hread x hx
      refine ⟨k, hk, e, ?_⟩
      rw [e]
      have := hrange k hk
      have e1 : IntKind.min .i64 = -9223372036854775808 := by decide
      have e2 : IntKind.max .i64 = 9223372036854775807 := by decide
      exact keyOf_int_mk Try.underlying3 (by simp only [Lit.wf, Bool.and_eq_true, decide_eq_true_eq, e1, e2]; exact this)
    have hsize : es'.size = ks'.length := by have := hkp.length_eq; simpa using this.symm
    have hfit : Fit Try.prog 3 (anyR (H := Unit)) es' ck := ⟨by rw [hsize]; unfold maxLen; omega, ⟨hmp.lt, hmp.nd, (hkp.nodup_iff).1 (List.pairwise_map.2 (hnodup.imp fun {a b} hne e => hne (by simpa using e)))⟩, fun x hx => by
      obtain ⟨k, _, _, hk⟩ := hkey x hx
      exact ⟨_, rd_mk hk (by rfl)⟩⟩
    obtain ⟨D0, hD0⟩ : ∃ D0 : DataW Unit, D0 = .map ((es'.toList.map (rg Try.prog 3 (anyR (H := Unit)))).foldr DataW.insert []) := ⟨_, rfl⟩
    have hown : w.ownsMap Try.prog 3 (anyR (H := Unit)) (E.ρ mb) es'.size D0 := ⟨es', ck, hb, hfit, Nat.le_refl _, hD0⟩
    have hik : (Go.intKeys D0).Perm ks' := by
      have h1 : (Go.intKeys D0).Perm ((es'.toList.map (rg Try.prog 3 (anyR (H := Unit)))).map fun p => Go.intOf p.1) := by
        rw [hD0]
        exact (Go.WideShapes.sorted_perm _).map _
      refine h1.trans ?_
      have h2 : ((es'.toList.map (rg Try.prog 3 (anyR (H := Unit)))).map fun p => Go.intOf p.1).map (Value.int .i64) = es'.toList.map (·.key) := by
        rw [List.map_map, List.map_map]
        refine List.map_congr_left fun x hx => ?_
        obtain ⟨k, _, e, hk⟩ := hkey x hx
        have : rd Try.prog 3 (anyR (H := Unit)) x = some (.int .i64 k, .nil) := by
          cases x; exact rd_mk (R := anyR (H := Unit)) (yv := (.nil, [])) hk rfl
        show Value.int .i64 (Go.intOf (rg Try.prog 3 (anyR (H := Unit)) x).1) = x.key
        rw [rg_of this, e]; rfl
      have h3 : (((es'.toList.map (rg Try.prog 3 (anyR (H := Unit)))).map fun p => Go.intOf p.1).map (Value.int .i64)).Perm (ks'.map (Value.int .i64)) := by rw [h2]; exact hkp.symm
      have h4 := h3.map intOfV
      simpa [List.map_map, Function.comp_def, intOfV] using h4
    have hms : Maps.size D0 = es'.size := by
      rw [hD0]
      show List.length _ = _
      rw [(Go.WideShapes.sorted_perm _).length_eq]; simp
    have hseq : SeqGives Fence.wide 2 Try.prog 38 #[.pointer (some ⟨E.ρ c, 0, none⟩)] encZ (fun ss => ss.Perm (Go.intKeys D0)) (Maps.size D0) w :=
      AnyZI.keys_gives (ρ := lay_keys_ren) { lay_keys with } Fence.wide 2 trivial rfl (by omega) (E.ρ c) (E.ρ mb) es'.size D0 w hclt hc1 hown
    have cS := AnyZI.sorted_in lay_sorted Fence.wide 5 trivial trivial trivial trivial rfl (by omega) (sorts_law _) (enters_of Try.func37 (by kernel_rfl) rfl) 38 #[.pointer (some ⟨E.ρ c, 0, none⟩)] trivial (enters_of Try.func38 (by kernel_rfl) rfl) _ _ (by rw [hms, hsize]; unfold maxLen; omega) (by rw [hms, hsize]; omega) w hseq
    change CallsIn _ _ Try.prog 28 _ _ _ at cS
    refine (callsIn_wide.2 (callsIn_wide.1 cS)).mono ?_
    rintro e w' ⟨v, ss, rfl, hS, hrow, hnil, hbel⟩
    have hsk : ss.Perm ks' := hS.trans hik
    have hrow' : w'.ownsRow w.heap.size 3 1 v ks'.length ((isortI ks').map (Value.int .i64)) := by
      have := hrow
      rw [sort_isort hsk, hsk.length_eq] at this
      exact this
    refine list_end hE hf ?_ (by kernel_rfl) hbel hrow' (fun h0 => hnil.2 (List.eq_nil_of_length_eq_zero (by rw [hsk.length_eq]; exact h0)))
    simp [plainL, plainV]
  unfold listOut at main ⊢
  cases hz : ks.length.beq 0 with
  | true =>
    simp only [hz, cond_true] at main ⊢
    exact ⟨Grw.refl _ _ _, fun E w args' hgl hva hE hl hf => main E w args' hva hE (fun h0 => absurd (Nat.eq_of_beq_eq_true hz) h0)⟩
  | false =>
    simp only [hz, cond_false] at main ⊢
    exact ⟨⟨Nat.le_succ _, fun k hk _ => Tr.get_set_ne _ _ (by have hk : k < n := hk; omega), fun h0 => h0.new _⟩, fun E w args' hgl hva hE hl hf => main E w args' hva hE (fun _ => hf)⟩

def ct_sorted : Ct Try.prog 0 where
  f := 28
  res l H n := match sortedArgs l H with | some ks => listOut 3 1 ((isortI ks).map (Value.int .i64)) ks.length id H n | none => .bad "sorted" []
  ok l H n := by
    cases h : sortedArgs l H with
    | none => trivial
    | some ks => exact sorted_ok h
  ck l H n K := match sortedArgs l H with | some ks => K (listOut 3 1 ((isortI ks).map (Value.int .i64)) ks.length id H n) | none => False
  imp l H n K h := by
    cases hs : sortedArgs l H with
    | none => rw [hs] at h; exact h.elim
    | some ks => rw [hs] at h; exact h
end Go.Proofs.Ytpdeidlkeplegaa
