/- DERIVED. Texts put together: N1, D1, Ov1, D2, D3, D4, D5, D5b, D6, N2, E1, E2, E3, E4P, F1, F2, F3, F4P, F5, N3, R1, R2, R3, R4, R5, Lv1, Pk1, Pk2, Pk3, H1, Pk4, Pk5, Pk6, Pk7, Pk8, Pk9, Pk10. -/
import Derived.Test.YtmpaeabkdhjamaaZ12
import Derived.Test.YtmpaeabkdhjamaaZ13
import Derived.Test.YtmpaeabkdhjamaaZ16
set_option maxRecDepth 1000000
set_option maxHeartbeats 32000000
namespace Go.Proofs.Ytmpaeabkdhjamaa
open Go Go.RowKit
def bs (s : ByteArray) : Bs := s.data.toList
theorem str_bs (s : ByteArray) : str (bs s) = .string s := by simp [str, bs]
def shortB (s : ByteArray) : Bool := s.data.size.ble 1000000000
theorem zFp {s : ByteArray} (h : shortB s = true) : (bs s).length ≤ 1000000000 := by unfold bs; rw [Array.length_toList]; exact Nat.le_of_ble_eq_true h
def Ct.str1 (f : FuncId) (out : ByteArray → Value) (hp : ∀ s, plainV 8 (out s) = true) (ok : ∀ s w, (bs s).length ≤ 1000000000 → Calls Try.prog f #[.string s] w fun e w' => e = .returned (out s) ∧ Below w.heap.size w w') : Ct Try.prog 0 where
 f := f
 res l H n := match l with | [.string s] => bif shortB s then .ret (out s) H n [] else .bad "long" [] | _ => .bad "arguments" []
 ok l H n := by
  split
  ·rename_i s
   cases hs : shortB s with
   | false => trivial
   | true => exact zIk (fun w => ok s w (zFp hs)) rfl (hp s) H n
  ·trivial
 ck l H n K := match l with | [.string s] => shortB s = true ∧ K (.ret (out s) H n []) | _ => False
 imp l H n K h := by
  split at h
  ·obtain ⟨h1, h2⟩ := h
   simp only [h1, cond_true]; exact h2
  ·exact h.elim
def zIx : Ct Try.prog 0 := Ct.str1 32 (fun s => .int .i64 (labels (bs s)).2) (fun _ => rfl) (fun s w hs => by have := zNp (bs s) w hs; rwa [str_bs] at this)
def zTb : Ct Try.prog 0 := Ct.str1 63 (fun s => str (lower (bs s))) (fun _ => rfl) (fun s w hs => by have := lower_any (bs s) w hs; rwa [str_bs] at this)
end Go.Proofs.Ytmpaeabkdhjamaa
namespace Go.Proofs.Ytmpaeabkdhjamaa
open Go Go.RowKit
theorem zOo (s : ByteArray) (l h : Nat) : bs (subS s l h) = ((bs s).take h).drop l := by simp [bs, subS]
theorem zAd (s : ByteArray) : s.data.size = (bs s).length := by simp [bs]
theorem zMt (s : ByteArray) (i : Nat) (h : i < (bs s).length) : atS s (i : Int) = (bs s)[i] := by
 unfold atS
 rw [Int.toNat_natCast, List.getD_eq_getElem?_getD]
 show ((bs s)[i]?).getD 0 = _
 rw [List.getElem?_eq_getElem h]; rfl
theorem wrapN {x : Int} (h1 : 0 ≤ x) (h2 : x < 9223372036854775808) : IntKind.i64.wrap x = x := zAq (by omega) h2
theorem zMu (c : UInt8) : c.toNat < 256 := UInt8.toNat_lt c
def txtF : Nat → Bs → Bool
 | 0, _ => false
 | _ + 1, [] => true
 | n + 1, c :: r => decide (c.toNat ≤ r.length) && txtF n (r.drop c.toNat)
theorem txtF_eq : ∀ (n m : Nat) (l : Bs), l.length < n → l.length < m → txtF n l = txtF m l
 | n + 1, m + 1, [], _, _ => rfl
 | n + 1, m + 1, c :: r, h1, h2 => by
  simp only [txtF]
  rw [txtF_eq n m (r.drop c.toNat) (by simp at h1 ⊢; omega) (by simp at h2 ⊢; omega)]
def txt (l : Bs) : Bool := txtF (l.length + 1) l
theorem txt_nil : txt [] = true := rfl
theorem txt_cons (c : UInt8) (r : Bs) : txt (c :: r) = (decide (c.toNat ≤ r.length) && txt (r.drop c.toNat)) := by
 unfold txt
 simp only [txtF, List.length_cons]
 rw [txtF_eq (r.length + 1) ((r.drop c.toNat).length + 1) _ (by simp; omega) (by omega)]
theorem txt_at (l : Bs) (i : Nat) (h : i < l.length) : txt (l.drop i) = (decide (i + 1 + l[i].toNat ≤ l.length) && txt (l.drop (i + 1 + l[i].toNat))) := by
 rw [List.drop_eq_getElem_cons h, txt_cons, List.drop_drop]
 congr 1
 rw [decide_eq_decide]; simp; omega
def texts (l : Bs) : Bool := !l.isEmpty && txt l
theorem texts_fn (s : ByteArray) (hs : (bs s).length ≤ 1000000000) : ∃ r, FnS Try.prog 0 81 [.string s] .e 0 r ∧ ∃ H m wr, r = .ret (.bool (texts (bs s))) H m wr := by
 refine zBm mixed (tbOf mixed []) [] Try.func81 (c := bodyOf Try.f81) (by kernel_rfl) ?_
 refine zNn (fun i f => ⟨slots 6 [(0, .string s), (3, .int .i64 (i : Nat))] f, heap 0 [], 0, [], []⟩) (fun i => (bs s).length - i) (fun i => i ≤ (bs s).length ∧ txt (bs s) = txt ((bs s).drop i)) 0 ⟨Nat.zero_le _, rfl⟩
  (zBe [] rfl rfl rfl (fun l e => by cases e) List.nodup_nil (fun x hx => by cases hx) rfl rfl (fun k hk _ => hk) ⟨⟨_, rfl, .string _⟩, ⟨_, rfl, .int _ _⟩, trivial⟩ trivial .nil) ?_
 rintro i f ⟨hi, heq⟩
 refine zAn (tbOf mixed []) [] 0 _ none mixed _ _ _ ?_
 refine ifK (fun h1 => ?_) (fun h1 => ?_)
 ·have h1 : i < (bs s).length := by have := of_decide_eq_true h1; rw [zAd] at this; omega
  have hb := zMu (bs s)[i]
  have hat := zMt s i h1
  have e1 : IntKind.i64.wrap ((i : Int) + IntKind.i64.wrap (1 + IntKind.i64.wrap ((atS s (i : Int)).toNat : Int))) = ((i + 1 + (bs s)[i].toNat : Nat) : Int) := by
   rw [hat, wrapN (x := (((bs s)[i]).toNat : Int)) (by omega) (by omega), wrapN (x := 1 + (((bs s)[i]).toNat : Int)) (by omega) (by omega), wrapN (by omega) (by omega)]; omega
  refine And.intro (by simp only [inI, zAd]; simp; omega) ?_
  have hstep := txt_at (bs s) i h1
  refine ifK (fun h2 => ?_) (fun h2 => ?_)
  ·have h2 := of_decide_eq_true h2
   rw [e1, zAd] at h2
   have : texts (bs s) = false := by
    unfold texts; rw [heq, hstep, decide_eq_false (by omega)]; simp
   rw [this]; exact ⟨_, _, _, rfl⟩
  ·have h2 := of_decide_eq_false h2
   rw [e1, zAd] at h2
   refine ⟨i + 1 + (bs s)[i].toNat, ⟨by omega, ?_⟩, by omega, zBe [] rfl rfl rfl (fun l e => by cases e) List.nodup_nil (fun x hx => by cases hx) rfl rfl (fun k hk _ => hk) ⟨⟨_, rfl, .string _⟩, zAe rfl e1, trivial⟩ trivial .nil⟩
   rw [heq, hstep, decide_eq_true (by omega), Bool.true_and]
 ·have h1 : ¬ i < (bs s).length := by have := of_decide_eq_false h1; rw [zAd] at this; omega
  have : texts (bs s) = !(s.data.toList == []) := by
   unfold texts
   rw [heq, List.drop_eq_nil_of_le (by omega), txt_nil, Bool.and_true]
   show (!(bs s).isEmpty) = !(bs s == [])
   cases bs s <;> rfl
  rw [this]; exact ⟨_, _, _, rfl⟩
end Go.Proofs.Ytmpaeabkdhjamaa
namespace Go.Proofs.Ytmpaeabkdhjamaa
open Go Go.RowKit
def u8V (x : Int) : Value := .int .u8 x
theorem zFb (L : List Int) : plainL (L.map u8V) = true := by simp [plainL, plainV, u8V]
def ovX (x : Int) : Int := bitsI .xor .u8 x 90
def ovL (L : List Int) (i : Nat) : List Int := (L.take i).map ovX ++ L.drop i
theorem ovL_len (L : List Int) (i : Nat) : (ovL L i).length = L.length := by simp [ovL]; omega
theorem ovL_set (L : List Int) (i : Nat) (h : i < L.length) : (ovL L i).set i (ovX L[i]) = ovL L (i + 1) := by
 unfold ovL
 have hl : ((L.take i).map ovX).length = i := by simp; omega
 rw [List.set_append_right _ _ (by omega), hl, Nat.sub_self, List.drop_eq_getElem_cons h, List.set_cons_zero, List.take_succ_eq_append_getElem h, List.map_append, List.append_assoc]; rfl
theorem ovL_get (L : List Int) (i : Nat) (h : i < L.length) : ((ovL L i).map u8V)[i]? = some (.int .u8 L[i]) := by
 unfold ovL
 have hl : ((L.take i).map ovX).length = i := by simp; omega
 rw [List.map_append, List.getElem?_append_right (by simp; omega), List.length_map, hl, Nat.sub_self, List.drop_eq_getElem_cons h]; rfl
theorem set_u8 (C : List Int) (j : Nat) (b : Int) (h : j < C.length) : (C.map u8V).take (0 + j * 1) ++ [u8V b] ++ (C.map u8V).drop (0 + j * 1 + 1) = (C.set j b).map u8V := by
 rw [Nat.zero_add, Nat.mul_one, List.map_set, List.set_eq_take_append_cons_drop, if_pos (by rw [List.length_map]; exact h)]
 simp
noncomputable def tbOv1 : Tb Try.prog 0 := tbOf mixed []
def ov1S (L : List Int) (i : Nat) (f : Nat → Option Value) : Fs := ⟨slots 6 [(2, .slice (some ⟨0, 0, none⟩) L.length L.length), (3, .int .i64 (i : Int))] f, heap 1 [(0, .cells ((ovL L i).map u8V) 5)], 1, [0], []⟩
theorem over_fn (L : List Int) (n : Nat) (hn : n ≤ L.length) (hL : L.length ≤ 9223372036854775807) :
  ∃ r, FnS Try.prog 0 25 [.slice (some ⟨0, 0, none⟩) n L.length] (heap 1 [(0, .cells (L.map u8V) 5)]) 1 r ∧ ∃ H m wr, r = .ret (.tuple #[]) H m wr ∧ 0 ∈ wr ∧ H.get 0 = some (.cells ((ovL L L.length).map u8V) 5) := by
 have h1s : (Try.prog.types[5]).size = 1 := by kernel_rfl
 have hU : L.length.beq U = false := by cases hb : L.length.beq U; rfl; exact absurd (Nat.eq_of_beq_eq_true hb) (by unfold U; omega)
 refine zBm mixed tbOv1 [0, 900003] Try.func25 (c := bodyOf Try.f25) (by kernel_rfl) ?_
 refine And.intro hU ?_
 refine ifK (fun g => by rw [hU] at g; cases g) (fun _ => ?_)
 refine And.intro (by simp only [inLH, Bool.and_eq_true, decide_eq_true_eq]; exact ⟨⟨⟨⟨(by omega), (by omega)⟩, (by omega)⟩, Nat.ble_eq_true_of_le hn⟩, Nat.ble_eq_true_of_le (by omega)⟩) ?_
 refine zBs (ov1S L) (fun i => L.length - i) (fun i => i ≤ L.length) 0 (Nat.zero_le _) (rcq [] ⟨⟨_, rfl, ?_⟩, ⟨_, rfl, .int _ _⟩, trivial⟩ ⟨⟨by decide, _, rfl, zBb (by simp [ovL]) (zFb _)⟩, trivial⟩ .nil) ?_
 ·show RV _ (.slice (some ⟨0, bif L.length.beq 0 then 0 else 0 + 0 * _, none⟩) (L.length - 0) (L.length - 0)) _
  have e : (bif L.length.beq 0 then 0 else 0 + 0 * (Try.prog.types[5]).size) = 0 := by cases L.length.beq 0 <;> simp
  rw [e, Nat.sub_zero]; exact .sl _ _ _ _ _ rfl
 rintro i f hi
 have hi : i ≤ L.length := hi
 refine zAn tbOv1 [0, 900003] 1 _ none mixed _ _ _ ?_
 refine ifK (fun h1 => ?_) (fun h1 => ?_)
 ·have h1 : i < L.length := by have := of_decide_eq_true h1; omega
  refine ifK (fun _ => ?_) (fun h2 => absurd h2 (by simp [inI]; omega))
  refine Exists.intro L[i] (And.intro (by rw [h1s, Int.toNat_natCast, Nat.zero_add, Nat.mul_one]; exact ovL_get L i h1) ?_)
  refine ifK (fun _ => ?_) (fun h2 => absurd h2 (by simp [inI]; omega))
  refine Exists.intro undef (Exists.intro [((0 : Nat), some (AObj.cells ((ovL L (i + 1)).map u8V) 5))] (Exists.intro (0 : Nat) (And.intro ?_ ?_)))
  ·refine aop_store (b := 0) (off := 0 + i * 1) (sz := 1) (bytes := 1) (z := .int .u8 0) (v := u8V (ovX L[i])) (C := (ovL L i).map u8V) rfl ?_ rfl rfl bytes_ty rfl rfl (by rw [List.length_map, ovL_len]; omega) ?_
   ·show Value.pointer _ = _
    rw [h1s]; rfl
   ·rw [← ovL_set L i h1]
    exact set_u8 (ovL L i) i (ovX L[i]) (by rw [ovL_len]; exact h1)
  exact ⟨i + 1, h1, by show L.length - (i + 1) < L.length - i; omega, rcq [] ⟨⟨_, rfl, .sl _ _ _ _ _ rfl⟩, zAe rfl (by rw [wrapN (by omega) (by omega)]; omega), trivial⟩ ⟨bpo (zFb _), trivial⟩ .nil⟩
 have h1 : i = L.length := by have h1 : ¬ ((i : Nat) : Int) < (L.length : Int) := of_decide_eq_false h1; omega
 subst h1
 refine And.intro rfl (zAi (rcq [] (d := 6) (d2 := 1) (lv := []) (bs := [(0, .cells ((ovL L L.length).map u8V) 5)]) (W := [0]) (m := 1) (df := []) trivial ⟨bpo (zFb _), trivial⟩ .nil) (fun f => ?_))
 exact ⟨_, _, _, rfl, List.mem_of_elem_eq_true (by kernel_rfl), rfl⟩
theorem HR.wk {P : Program} {E : Env} {G G' : Gh} {w : World} (h : HR P E G w) (hs : ∀ k o, G' k = some o → ∃ o1, G k = some o1 ∧ (OR P E w k o1 → OR P E w k o) ∧ (o1.isWin → o.isWin)) : HR P E G' w := by
 have hn : ∀ i, G' i ≠ none → G i ≠ none := fun i hi => by
  cases hg : G' i with
  | none => exact absurd hg hi
  | some o => obtain ⟨o1, h1, _⟩ := hs i o hg; rw [h1]; simp
 refine ⟨h.lt, fun k hk => ?_, fun k o ho => ?_, fun i j hi hj hr e => h.inj i j (hn i hi) (hn j hj) hr e, fun k o ho hr => ?_⟩
 ·cases hg : G' k with
  | none => rfl
  | some o => exact absurd (h.dom k hk) (hn k (by rw [hg]; simp))
 ·obtain ⟨o1, h1, h2, _⟩ := hs k o ho; exact h2 (h.obj k o1 h1)
 ·obtain ⟨o1, h1, _, h3⟩ := hs k o ho; exact h3 (h.ro k o1 h1 hr)
theorem u8_list {l : List Value} (h : ∀ v ∈ l, ∃ x, v = .int .u8 x) : ∃ L : List Int, l = L.map u8V := by
 induction l with
 | nil => exact ⟨[], rfl⟩
 | cons v l ih =>
  obtain ⟨x, rfl⟩ := h v (List.mem_cons_self ..)
  obtain ⟨L, rfl⟩ := ih (fun v hv => h v (List.mem_cons_of_mem _ hv))
  exact ⟨x :: L, rfl⟩
theorem byte_rest {l : List Value} (h : restOK Try.prog 5 l) : ∀ v ∈ l, ∃ x, v = .int .u8 x := by
 have hz : (Try.prog.info? 5).bind (·.zero) = some (.int .u8 0) := by kernel_rfl
 obtain ⟨i, h1, h2⟩ := Option.bind_eq_some_iff.1 hz
 exact h (by kernel_rfl) i _ h1 h2 rfl
theorem OR.bytes {E : Env} {w : World} {b : Nat} {c : List Value} (h : OR Try.prog E w b (.cells c 5)) (hc : ∃ L : List Int, c = L.map u8V) :
  ∃ arr fr, w.heap[E.ρ b]? = some (.cells arr 5 fr) ∧ (fr = (0, 0) ∨ (arr.size ≤ fr.1 ∧ Try.prog.underlying 5 = some (.int .u8))) ∧ arr.size = E.tot b ∧ E.sz b = 1 ∧ E.sh b = 0 ∧ ∃ L : List Int, arr.toList = L.map u8V := by
 obtain ⟨arr, fr, h1, h2, h3, h4, h5, h6, h7, h8⟩ := h
 obtain ⟨L, rfl⟩ := hc
 have h9 : arr.toList.take (L.map u8V).length = L.map u8V := by
  have : plainL (L.map u8V) = true := zFb L
  have := zDd 9 (E := E) (v := .agg (L.map u8V).toArray) (v' := .agg (arr.toList.take (L.map u8V).length).toArray) (by simpa [plainV, plainL] using this) (.agg _ _ (by simpa using h6))
  simpa using this
 obtain ⟨M, hM⟩ := u8_list (byte_rest h8)
 have hsz : E.sz b = 1 := by
  have := zJp
  rw [h4] at this; simpa using this
 refine ⟨arr, fr, h1, h2, h3, hsz, h7, L ++ M, ?_⟩
 rw [List.map_append, ← hM]
 conv => lhs; rw [← List.take_append_drop (L.map u8V).length arr.toList, h9]
theorem zTx {E : Env} {w : World} {b : Nat} {arr : Array Value} {fr : Nat × Nat} {L : List Int} (h1 : w.heap[E.ρ b]? = some (.cells arr 5 fr)) (h2 : fr = (0, 0) ∨ (arr.size ≤ fr.1 ∧ Try.prog.underlying 5 = some (.int .u8))) (h3 : arr.size = E.tot b) (h4 : E.sz b = 1) (h5 : E.sh b = 0) (h6 : arr.toList = L.map u8V) :
  OR Try.prog E w b (.cells (L.map u8V) 5) ∧ OR Try.prog E w b (.cells [] 5) := by
 have hl : (L.map u8V).length = arr.size := by rw [← h6]; simp
 refine ⟨⟨arr, fr, h1, h2, h3, by rw [h4]; exact zJp, by omega, ?_, h5, restOK.nil (List.drop_eq_nil_of_le (by rw [hl]; simp))⟩, ⟨arr, fr, h1, h2, h3, by rw [h4]; exact zJp, Nat.zero_le _, .nil, h5, fun _ _ _ _ _ _ v hv => ?_⟩⟩
 ·rw [h6, List.take_of_length_le (Nat.le_refl _)]; exact zCg (zFb L)
 ·have hv : v ∈ arr.toList := hv
  rw [h6] at hv
  obtain ⟨x, _, rfl⟩ := List.mem_map.1 hv
  exact ⟨x, rfl⟩
theorem byV_u8 (l : Bl) : ∃ L : List Int, l.map byV = L.map u8V := ⟨l.map fun b => (b.toNat : Int), by rw [List.map_map]; rfl⟩
theorem over_call (b n : Nat) (C : List Value) (hC : ∃ L : List Int, C = L.map u8V) (hn : n ≠ 0) (H : Tr AObj) (m : Nat) (hb : H.get b = some (.cells C 5)) :
  CallOK Try.prog 0 25 [.slice (some ⟨b, 0, none⟩) n U] H m (.ret (.tuple #[]) (H.set b (some (.cells [] 5))) m [b]) := by
 refine ⟨⟨Nat.le_refl _, fun k hk hm => Tr.get_set_ne _ _ (fun e => hm (by simp [e])), fun h0 k hk => ?_⟩, fun E w args' hgl hva hE hlow hfree => ?_⟩
 ·have hlt := h0.lt (k := b) (by rw [hb]; simp)
  rw [Tr.get_set_ne _ _ (by omega)]; exact h0 k hk
 obtain ⟨arr, fr, q1, q2, q3, q4, q5, L, q6⟩ := (hE.obj b _ hb).bytes hC
 have hll : L.length = arr.size := by have := congrArg List.length q6; simpa using this.symm
 obtain ⟨o1, _⟩ := zTx q1 q2 q3 q4 q5 q6
 obtain ⟨c', hc1, hc2, hc3, hargs⟩ : ∃ c', n ≤ c' ∧ c' ≤ maxLen ∧ c' = L.length ∧ VL E [.slice (some ⟨b, 0, none⟩) n c'] args'.toList := by
  cases hva' : args'.toList with
  | nil => rw [hva'] at hva; cases hva
  | cons x xs =>
   rw [hva'] at hva
   cases hva with
   | cons _ _ _ _ hv ht =>
    cases hv with
    | sl _ _ _ _ hd hc => exact absurd rfl hc
    | su _ _ _ c' hd h1 h2 h3 =>
     refine ⟨c', h1, h2, by rw [hll, q3, ← h3, q4]; omega, .cons _ _ _ _ (.sl b 0 n c' hd ?_) ht⟩
     have : maxLen = 9223372036854775807 := by decide
     unfold U; omega
    | se _ _ _ a' hd ha hc => exact absurd rfl hn
 have hmx : maxLen = 9223372036854775807 := by decide
 subst hc3
 obtain ⟨r, hF, H', k, wr, rfl, h0w, hg⟩ := over_fn L n hc1 (by omega)
 have hb' : (H.set b (some (.cells (L.map u8V) 5))).get b = some (.cells (L.map u8V) 5) := Tr.get_set_self _ _ _
 have hE' : HR Try.prog E (H.set b (some (.cells (L.map u8V) 5))).get w := hE.wk fun k o ho => by
  by_cases hk : k = b
  ·subst hk
   rw [Tr.get_set_self] at ho; cases ho
   exact ⟨_, hb, fun _ => o1, fun h => h⟩
  ·rw [Tr.get_set_ne _ _ hk] at ho
   exact ⟨o, ho, fun h => h, fun h => h⟩
 have hcall := zMw (b := b) (n := m) hF hb' h0w hg (zFb _) (zFb _) rfl (ArgOK.of (.cons _ _ _ _ (.sl _ _ _ _ _ rfl) .nil))
 refine (hcall.2 E w args' hgl hargs hE' (fun k hk => ?_) hfree).mono ?_
 ·by_cases hkb : k = b
  ·subst hkb; have := hlow k hk; rw [hb] at this; cases this
  ·rw [Tr.get_set_ne _ _ hkb]; exact hlow k hk
 ·rintro e w' ⟨E2, v', r1, r2, r3, r4, r5, r6⟩
  refine ⟨E2, v', r1, r2, r3, r4, r5.wk fun k o ho => ?_, r6⟩
  by_cases hk : k = b
  ·subst hk
   have ho : (H.set k (some (.cells [] 5))).get k = some o := ho
   rw [Tr.get_set_self] at ho; cases ho
   refine ⟨_, Tr.get_set_self _ _ _, fun h => ?_, fun h => h⟩
   obtain ⟨arr2, fr2, s1, s2, s3, s4, s5, L2, s6⟩ := h.bytes ⟨_, rfl⟩
   exact (zTx s1 s2 s3 s4 s5 s6).2
  ·have ho : (H.set b (some (.cells [] 5))).get k = some o := ho
   rw [Tr.get_set_ne _ _ hk] at ho
   exact ⟨o, by rw [Tr.get_set_ne _ _ hk, Tr.get_set_ne _ _ hk]; exact ho, fun h => h, fun h => h⟩
structure OvX where
 b : Nat
 l : Bl
noncomputable def ct_over1 : Ct Try.prog 0 :=
 CtR.ct { f := 25, X := OvX, pre := fun x a H _ => a = [.slice (some ⟨x.b, 0, none⟩) x.l.length U] ∧ H.get x.b = some (.cells (x.l.map byV) 5) ∧ x.l ≠ [],
          out := fun x H n => .ret (.tuple #[]) (H.set x.b (some (.cells [] 5))) n [x.b],
          tr := fun x H n K => frcN x.b fun b => K (.ret (.tuple #[]) (H.set b (some (.cells [] 5))) n [b]),
          trOk := fun x H n K h => by rw [zCe] at h; exact h,
          ok := fun x a H n ⟨h1, h2, h3⟩ => by
           subst h1
           exact over_call x.b x.l.length _ (byV_u8 x.l) (by cases hx : x.l with | nil => exact absurd hx h3 | cons y l => simp) H n h2,
          uniq := fun x y a H m ⟨h1, _⟩ ⟨k1, _⟩ => by
           obtain ⟨b, l⟩ := x
           obtain ⟨b', l'⟩ := y
           rw [h1] at k1
           simp only [List.cons.injEq, Value.slice.injEq, Option.some.injEq, Addr.mk.injEq, and_true] at k1
           obtain ⟨rfl, _⟩ := k1; rfl }
noncomputable def zVh : Ct Try.prog 0 := Ct.inl tbOv1 mixed [] 25 Try.f25 Try.func25 (bodyOf Try.f25) (by kernel_rfl)
noncomputable def ct_overB : Ct Try.prog 0 := Ct.alt nil0 zVh ct_over1 rfl
end Go.Proofs.Ytmpaeabkdhjamaa
namespace Go.Proofs.Ytmpaeabkdhjamaa
open Go Go.RowKit
def rOf (Q : Value → Tr AObj → Prop) (r : Res) : Prop := match r with | .ret v H _ _ => Q v H | _ => False
def resV (r : Res) : Value := match r with | .ret v _ _ _ => v | _ => .nilFunc
noncomputable def evP (t : Int) : Res := ev Try.prog 0 1000 (.call 75 [.int .i64 t]) ⟨.e, .e, 0, [], []⟩
theorem zCk (t : Int) (Q : Value → Tr AObj → Prop) : (frcTr (tmpsOf [.int .i64 t] 0 .e) fun T => sx (tbK mixed (g0 := 0) true []) [] 0 (1 + (Try.f75.ntmps - 1)) none (bodyOf Try.f75) ⟨T, .e, 0, [], []⟩ (fnK (tbK mixed (g0 := 0) true []) Try.f75 (rOf Q))) =
  brK (t == 1) (Q (resV (evP 1)) (resH (evP 1))) (brK (t == 28) (Q (resV (evP 28)) (resH (evP 1))) (brK (t == 2) (Q (resV (evP 2)) (resH (evP 1))) (brK (t == 5) (Q (resV (evP 5)) (resH (evP 1))) (brK (t == 12) (Q (resV (evP 12)) (resH (evP 1)))
   (brK (t == 15) (Q (resV (evP 15)) (resH (evP 1))) (brK (t == 6) (Q (resV (evP 6)) (resH (evP 1))) (brK (t == 16) (Q (resV (evP 16)) (resH (evP 1))) (Q (.tuple #[.slice none 0 0, .bool false]) (resH (evP 1)))))))))) := by kernel_rfl
def part (n : Int) (name rest : Bool) : List Value := [.int .i64 n, .bool name, .bool rest]
def partsTab : List (Int × Nat × List Value) :=
 [(1, 1, part 4 false false), (28, 1, part 16 false false), (2, 1, part 0 true false), (5, 1, part 0 true false), (12, 1, part 0 true false), (15, 2, part 2 false false ++ part 0 true false),
  (6, 3, part 0 true false ++ part 0 true false ++ part 20 false false), (16, 1, part 0 false true)]
def partsOut (len : Nat) (c : List Value) (H : Tr AObj) (n : Nat) : Res := .ret (.tuple #[.slice (some ⟨n, 0, none⟩) len len, .bool true]) (H.set n (some (.cells c 116))) (n + 1) []
def partsGo (t : Int) (H : Tr AObj) (n : Nat) : List (Int × Nat × List Value) → Res
 | [] => .ret (.tuple #[.slice none 0 0, .bool false]) H n []
 | (k, len, c) :: l => bif t == k then partsOut len c H n else partsGo t H n l
theorem zUa (t : Int) (H : Tr AObj) (n : Nat) : CallOK Try.prog 0 75 [.int .i64 t] H n (partsGo t H n partsTab) := by
 have main : ∀ v, (frcTr (tmpsOf [.int .i64 t] 0 .e) fun T => sx (tbK mixed (g0 := 0) true []) [] 0 (1 + (Try.f75.ntmps - 1)) none (bodyOf Try.f75) ⟨T, .e, 0, [], []⟩ (fnK (tbK mixed (g0 := 0) true []) Try.f75 (rOf fun v' H' => v' = v ∧ H' = resH (evP 1)))) → ∃ m wr, FnS Try.prog 0 75 [.int .i64 t] .e 0 (.ret v (resH (evP 1)) m wr) := by
  intro v h
  obtain ⟨r, h1, h2⟩ := zBm mixed (tbK mixed true []) [] Try.func75 (c := bodyOf Try.f75) (by kernel_rfl) h
  cases r with
  | ret v' H' m wr => obtain ⟨rfl, rfl⟩ := h2; exact ⟨m, wr, h1⟩
  | _ => exact h2.elim
 have one : ∀ (b len : Nat) (c : List Value), (∃ m wr, FnS Try.prog 0 75 [.int .i64 t] .e 0 (.ret (.tuple #[.slice (some ⟨b, 0, none⟩) len len, .bool true]) (resH (evP 1)) m wr)) → (resH (evP 1)).get b = some (.cells c 116) → b < JJ → plainL c = true → CallOK Try.prog 0 75 [.int .i64 t] H n (partsOut len c H n) := by
  rintro b len c ⟨m, wr, hF⟩ hb hJ hp
  exact zCw (fun n => .tuple #[.slice (some ⟨n, 0, none⟩) len len, .bool true]) hF rfl hb hJ hp (fun n => .tuple _ _ (.cons _ _ _ _ (.sl _ _ _ _ _ (zIg _ _)) (.cons _ _ _ _ (.bool _) .nil))) H n
 unfold partsTab
 simp only [partsGo]
 cases h1 : (t == 1) with
 | true => exact one 2 1 _ (main _ (by rw [zCk, h1]; exact ⟨(by kernel_rfl), rfl⟩)) (by kernel_rfl) (by decide) rfl
 | false =>
 cases h2 : (t == 28) with
 | true => exact one 3 1 _ (main _ (by rw [zCk, h1, h2]; exact ⟨(by kernel_rfl), rfl⟩)) (by kernel_rfl) (by decide) rfl
 | false =>
 cases h3 : (t == 2) with
 | true => exact one 4 1 _ (main _ (by rw [zCk, h1, h2, h3]; exact ⟨(by kernel_rfl), rfl⟩)) (by kernel_rfl) (by decide) rfl
 | false =>
 cases h4 : (t == 5) with
 | true => exact one 5 1 _ (main _ (by rw [zCk, h1, h2, h3, h4]; exact ⟨(by kernel_rfl), rfl⟩)) (by kernel_rfl) (by decide) rfl
 | false =>
 cases h5 : (t == 12) with
 | true => exact one 6 1 _ (main _ (by rw [zCk, h1, h2, h3, h4, h5]; exact ⟨(by kernel_rfl), rfl⟩)) (by kernel_rfl) (by decide) rfl
 | false =>
 cases h6 : (t == 15) with
 | true => exact one 7 2 _ (main _ (by rw [zCk, h1, h2, h3, h4, h5, h6]; exact ⟨(by kernel_rfl), rfl⟩)) (by kernel_rfl) (by decide) rfl
 | false =>
 cases h7 : (t == 6) with
 | true => exact one 8 3 _ (main _ (by rw [zCk, h1, h2, h3, h4, h5, h6, h7]; exact ⟨(by kernel_rfl), rfl⟩)) (by kernel_rfl) (by decide) rfl
 | false =>
 cases h8 : (t == 16) with
 | true => exact one 9 1 _ (main _ (by rw [zCk, h1, h2, h3, h4, h5, h6, h7, h8]; exact ⟨(by kernel_rfl), rfl⟩)) (by kernel_rfl) (by decide) rfl
 | false =>
  obtain ⟨m, wr, hF⟩ := main (.tuple #[.slice none 0 0, .bool false]) (by rw [zCk, h1, h2, h3, h4, h5, h6, h7, h8]; exact ⟨rfl, rfl⟩)
  exact zBa hF rfl rfl H n
end Go.Proofs.Ytmpaeabkdhjamaa
namespace Go.Proofs.Ytmpaeabkdhjamaa
open Go Go.RowKit
def zposF : Nat → Bs → Option Nat
 | 0, _ => none
 | _ + 1, [] => none
 | n + 1, c :: r => if c.toNat = 0 then some 0 else (zposF n (r.drop c.toNat)).map (· + (c.toNat + 1))
theorem zUo : ∀ (n m : Nat) (l : Bs), l.length < n → l.length < m → zposF n l = zposF m l
 | n + 1, m + 1, [], _, _ => rfl
 | n + 1, m + 1, c :: r, h1, h2 => by
  simp only [zposF]
  rw [zUo n m (r.drop c.toNat) (by simp at h1 ⊢; omega) (by simp at h2 ⊢; omega)]
def zpos (l : Bs) : Option Nat := zposF (l.length + 1) l
theorem zUp : zpos [] = none := rfl
theorem zQm (c : UInt8) (r : Bs) : zpos (c :: r) = if c.toNat = 0 then some 0 else (zpos (r.drop c.toNat)).map (· + (c.toNat + 1)) := by
 unfold zpos
 simp only [zposF, List.length_cons]
 rw [zUo (r.length + 1) ((r.drop c.toNat).length + 1) _ (by simp; omega) (by omega)]
theorem zpos_at (l : Bs) (i : Nat) (h : i < l.length) : zpos (l.drop i) = if l[i].toNat = 0 then some 0 else (zpos (l.drop (i + 1 + l[i].toNat))).map (· + (l[i].toNat + 1)) := by
 rw [List.drop_eq_getElem_cons h, zQm, List.drop_drop]
theorem zSq : ∀ (n : Nat) (l : Bs) (k : Nat), l.length ≤ n → zpos l = some k → k < l.length
 | 0, l, k, hn, h => by
  have : l = [] := List.length_eq_zero_iff.1 (by omega)
  subst this; cases h
 | n + 1, [], k, _, h => by cases h
 | n + 1, c :: r, k, hn, h => by
  rw [zQm] at h
  split at h
  ·cases h; simp
  ·obtain ⟨j, hj, rfl⟩ := Option.map_eq_some_iff.1 h
   have := zSq n (r.drop c.toNat) j (by simp at hn ⊢; omega) hj
   simp at this ⊢; omega
theorem zLw {l : Bs} (h : (labels l).2 = 0) : l.length ≤ 255 := by
 unfold labels at h
 split at h
 ·cases h
 ·split at h
  ·cases h
  ·omega
def front (l : Bs) : Option Nat := match zpos l with | some k => if (labels (l.take (k + 1))).2 = 0 then some (k + 1) else none | none => none
def unfitV : Value := .iface 125 (.agg #[])
noncomputable def tbD3 : Tb Try.prog 0 := tbOf mixed [zIx]
theorem first_fn (s : ByteArray) (hs : (bs s).length ≤ 1000000000) : ∃ r, FnS Try.prog 0 82 [.string s] .e 0 r ∧ ∃ H m wr, (∃ k, front (bs s) = some k ∧ r = .ret (.string (subS s 0 k)) H m wr) ∨ (front (bs s) = none ∧ r = .pan [(unfitV, false)] H m wr) := by
 refine zBm mixed tbD3 [] Try.func82 (c := bodyOf Try.f82) (by kernel_rfl) ?_
 refine zNn (fun i f => ⟨slots 6 [(0, .string s), (3, .int .i64 (i : Nat))] f, heap 0 [], 0, [], []⟩) (fun i => (bs s).length + 300 - i) (fun i => i ≤ (bs s).length + 256 ∧ zpos (bs s) = (zpos ((bs s).drop i)).map (· + i)) 0 ⟨Nat.zero_le _, by simp⟩
  (zBe [] rfl rfl rfl (fun l e => by cases e) List.nodup_nil (fun x hx => by cases hx) rfl rfl (fun k hk _ => hk) ⟨⟨_, rfl, .string _⟩, ⟨_, rfl, .int _ _⟩, trivial⟩ trivial .nil) ?_
 rintro i f ⟨hi, heq⟩
 refine zAn tbD3 [] 0 _ none mixed _ _ _ ?_
 refine ifK (fun h1 => ?_) (fun h1 => ?_)
 ·have h1 : i < (bs s).length := by have := of_decide_eq_true h1; rw [zAd] at this; omega
  have hb := zMu (bs s)[i]
  have hat := zMt s i h1
  have hstep := zpos_at (bs s) i h1
  refine ifK (fun h2 => ?_) (fun h2 => ?_)
  ·have h2 := of_decide_eq_true h2
   refine And.intro (by simp only [inI, zAd]; simp; omega) ?_
   refine ifK (fun h3 => ?_) (fun h3 => ?_)
   ·have h3 : (bs s)[i].toNat = 0 := by rw [hat] at h3; simpa using h3
    rw [if_pos h3] at hstep
    rw [hstep] at heq
    have hz : zpos (bs s) = some i := by rw [heq]; simp
    have e1 : IntKind.i64.wrap ((i : Int) + 1) = ((i + 1 : Nat) : Int) := by rw [wrapN (by omega) (by omega)]; omega
    have e2 : (IntKind.i64.wrap ((i : Int) + 1)).toNat = i + 1 := by rw [e1]; rfl
    refine And.intro (by rw [e1]; simp only [inLH, zAd]; simp; omega) ?_
    have hsub : bs (subS s (Int.toNat 0) (IntKind.i64.wrap ((i : Int) + 1)).toNat) = (bs s).take (i + 1) := by rw [zOo, e2]; simp
    refine And.intro (by unfold shortB; rw [zAd, hsub]; simp; omega) ?_
    refine ifK (fun h4 => ?_) (fun h4 => ?_)
    ·have h4 : (labels ((bs s).take (i + 1))).2 = 0 := by rw [hsub] at h4; simpa using h4
     have hf : front (bs s) = some (i + 1) := by unfold front; rw [hz]; simp [h4]
     exact ⟨_, _, _, .inl ⟨i + 1, hf, by rw [← e2]; rfl⟩⟩
    ·have h4 : ¬ (labels ((bs s).take (i + 1))).2 = 0 := by rw [hsub] at h4; simpa using h4
     have hf : front (bs s) = none := by unfold front; rw [hz]; simp [h4]
     exact ⟨_, _, _, .inr ⟨hf, rfl⟩⟩
   ·have h3 : (bs s)[i].toNat ≠ 0 := by rw [hat] at h3; simpa using h3
    rw [if_neg h3] at hstep
    have e1 : IntKind.i64.wrap ((i : Int) + IntKind.i64.wrap (1 + IntKind.i64.wrap ((atS s (i : Int)).toNat : Int))) = ((i + 1 + (bs s)[i].toNat : Nat) : Int) := by
     rw [hat, wrapN (x := (((bs s)[i]).toNat : Int)) (by omega) (by omega), wrapN (x := 1 + (((bs s)[i]).toNat : Int)) (by omega) (by omega), wrapN (by omega) (by omega)]; omega
    refine And.intro (by simp only [inI, zAd]; simp; omega) ?_
    refine ⟨i + 1 + (bs s)[i].toNat, ⟨by omega, ?_⟩, by omega, zBe [] rfl rfl rfl (fun l e => by cases e) List.nodup_nil (fun x hx => by cases hx) rfl rfl (fun k hk _ => hk) ⟨⟨_, rfl, .string _⟩, zAe rfl e1, trivial⟩ trivial .nil⟩
    rw [heq, hstep, Option.map_map]
    congr 1
    funext j; simp; omega
  ·have h2 : ¬ i < 255 := by have := of_decide_eq_false h2; omega
   have hf : front (bs s) = none := by
    unfold front
    rw [heq]
    cases hz : zpos ((bs s).drop i) with
    | none => rfl
    | some j =>
     simp only [Option.map_some]
     rw [if_neg]
     intro hl
     have h5 := zLw hl
     have h6 := zSq _ _ _ (Nat.le_refl _) hz
     simp at h5 h6; omega
   exact ⟨_, _, _, .inr ⟨hf, rfl⟩⟩
 ·have h1 : ¬ i < (bs s).length := by have := of_decide_eq_false h1; rw [zAd] at this; omega
  have hf : front (bs s) = none := by
   unfold front
   rw [heq, List.drop_eq_nil_of_le (by omega), zUp]; rfl
  exact ⟨_, _, _, .inr ⟨hf, rfl⟩⟩
end Go.Proofs.Ytmpaeabkdhjamaa
namespace Go.Proofs.Ytmpaeabkdhjamaa
open Go Go.RowKit
def Ct.strF (f : FuncId) (out : ByteArray → Value) (hp : ∀ s, plainV 8 (out s) = true) (ok : ∀ s, (bs s).length ≤ 1000000000 → ∃ H m wr, FnS Try.prog 0 f [.string s] .e 0 (.ret (out s) H m wr)) : Ct Try.prog 0 where
 f := f
 res l H n := match l with | [.string s] => bif shortB s then .ret (out s) H n [] else .bad "long" [] | _ => .bad "arguments" []
 ok l H n := by
  split
  ·rename_i s
   cases hs : shortB s with
   | false => trivial
   | true => obtain ⟨_, _, _, h⟩ := ok s (zFp hs); exact zBa h rfl (hp s) H n
  ·trivial
 ck l H n K := match l with | [.string s] => shortB s = true ∧ K (.ret (out s) H n []) | _ => False
 imp l H n K h := by
  split at h
  ·obtain ⟨h1, h2⟩ := h
   simp only [h1, cond_true]; exact h2
  ·exact h.elim
def zNb : Ct Try.prog 0 := Ct.strF 81 (fun s => .bool (texts (bs s))) (fun _ => rfl) (fun s hs => by
 obtain ⟨r, h, H, m, wr, rfl⟩ := texts_fn s hs
 exact ⟨H, m, wr, h⟩)
def frontN (l : Bs) : Nat := (front l).getD 0
def zMy : Ct Try.prog 0 where
 f := 82
 res l H n := match l with | [.string s] => bif shortB s then (bif (front (bs s)).isSome then .ret (.string (subS s 0 (frontN (bs s)))) H n [] else .pan [(unfitV, false)] H n []) else .bad "long" [] | _ => .bad "arguments" []
 ok l H n := by
  split
  ·rename_i s
   cases hs : shortB s with
   | false => trivial
   | true =>
    obtain ⟨r, h, H', m, wr, ⟨k, hf, rfl⟩ | ⟨hf, rfl⟩⟩ := first_fn s (zFp hs)
    ·simp only [hf, Option.isSome_some, cond_true]
     have : frontN (bs s) = k := by simp [frontN, hf]
     rw [this]
     exact zBa h rfl rfl H n
    ·simp only [hf, Option.isSome_none, cond_true, cond_false]
     exact zLc h rfl rfl H n
  ·trivial
 ck l H n K := match l with | [.string s] => shortB s = true ∧ brK (front (bs s)).isSome (K (.ret (.string (subS s 0 (frontN (bs s)))) H n [])) (K (.pan [(unfitV, false)] H n [])) | _ => False
 imp l H n K h := by
  split at h
  ·rename_i s
   obtain ⟨h1, h2⟩ := h
   simp only [h1, cond_true]
   cases hf : (front (bs s)).isSome with
   | true => rw [hf] at h2; exact h2
   | false => rw [hf] at h2; exact h2
  ·exact h.elim
end Go.Proofs.Ytmpaeabkdhjamaa
namespace Go.Proofs.Ytmpaeabkdhjamaa
open Go Go.RowKit
inductive Pt where
 | nm
 | rest
 | sz (k : Nat)
def Pt.cell : Pt → List Value
 | .nm => part 0 true false
 | .rest => part 0 false true
 | .sz k => part k false false
def Pt.isName : Pt → Bool
 | .nm => true
 | _ => false
theorem Pt.cell_len (p : Pt) : p.cell.length = 3 := by cases p <;> rfl
theorem Pt.cell_plain (p : Pt) : plainL p.cell = true := by cases p <;> rfl
def pc (p : Bs × Bool) : List Value := [str p.1, .bool p.2]
theorem zHi (p : Bs × Bool) : (pc p).length = 2 := rfl
theorem zCl (p : Bs × Bool) : plainL (pc p) = true := rfl
def Pt.cut (p : Pt) (l : Bs) : Option Nat :=
 match p with
 | .nm => front l
 | .rest => if texts l then some l.length else none
 | .sz k => if k ≤ l.length then some k else none
def cuts : List Pt → Bs → Option (List (Bs × Bool) × Bs)
 | [], l => some ([], l)
 | p :: ps, l => match p.cut l with
  | none => none
  | some n => (cuts ps (l.drop n)).map fun x => ((l.take n, p.isName) :: x.1, x.2)
theorem zFx {l : Bs} {k : Nat} (h : front l = some k) : k ≤ l.length := by
 unfold front at h
 split at h
 ·rename_i j hj
  have := zSq _ _ _ (Nat.le_refl _) hj
  split at h
  ·cases h; omega
  ·cases h
 ·cases h
def spS (ps : List Pt) (x : Nat × List (Bs × Bool) × ByteArray) (f : Nat → Option Value) : Fs :=
 match x with
 | (i, acc, s) =>
  match acc with
  | [] => ⟨slots 7 [(1, .string s), (4, .pointer (some ⟨0, 0, none⟩)), (5, .pointer (some ⟨1, 0, none⟩)), (22, .slice (some ⟨2, 0, none⟩) ps.length ps.length), (23, .int .i64 ps.length), (24, .int .i64 i)] f,
    heap 3 [(0, .cells [.slice none 0 0] 96), (1, .cells [.bool false] 4), (2, .cells (ps.flatMap Pt.cell) 116)], 3, [], [.call 80 [.pointer (some ⟨0, 0, none⟩), .pointer (some ⟨1, 0, none⟩)] []]⟩
  | a :: l => ⟨slots 7 [(1, .string s), (4, .pointer (some ⟨0, 0, none⟩)), (5, .pointer (some ⟨1, 0, none⟩)), (22, .slice (some ⟨2, 0, none⟩) ps.length ps.length), (23, .int .i64 ps.length), (24, .int .i64 i)] f,
    heap 3 [(0, .cells [.slice (some ⟨3, 0, none⟩) (l.length + 1) U] 96), (1, .cells [.bool false] 4), (2, .cells (ps.flatMap Pt.cell) 116), (3, .cells ((a :: l).flatMap pc) 110)], 4, [], [.call 80 [.pointer (some ⟨0, 0, none⟩), .pointer (some ⟨1, 0, none⟩)] []]⟩
end Go.Proofs.Ytmpaeabkdhjamaa
namespace Go.Proofs.Ytmpaeabkdhjamaa
open Go Go.RowKit
noncomputable def endS (tb : Tb Try.prog 0) (x : Ex) (s : Fs) : Res :=
 match modeOf x with
 | some u => (match evOut Try.prog tb.go s.df u s.H s.n s.wr with
  | .ok none H n wr => (match zBi Try.prog { s with H } Try.f60.results.toList with | some vs => .ret (tupleOf vs) H n wr | none => .bad "" [])
  | _ => .bad "" [])
 | none => .bad "" []
def hOf (r : Res) : Tr AObj := match r with | .ret _ H _ _ => H | _ => .e
def nOf (r : Res) : Nat := match r with | .ret _ _ n _ => n | _ => 0
def wOf (r : Res) : List Nat := match r with | .ret _ _ _ wr => wr | _ => []
noncomputable def sEnd0 (f2 : Nat → Option Value) : Fs := ⟨slots 7 [(4, .pointer (some ⟨0, 0, none⟩)), (5, .pointer (some ⟨1, 0, none⟩))] f2, heap 2 [(0, .cells [.slice none 0 0] 96), (1, .cells [.bool false] 4)], 2, [], [.call 80 [.pointer (some ⟨0, 0, none⟩), .pointer (some ⟨1, 0, none⟩)] []]⟩
theorem zNe (tb : Tb Try.prog 0) (R : Res → Prop) (f2 : Nat → Option Value) : fnK tb Try.f60 R (.pan [(unfitV, false)]) (sEnd0 f2) = R (.ret (.tuple #[.slice none 0 0, .bool false]) (hOf (endS tb (.pan [(unfitV, false)]) (sEnd0 f2))) (nOf (endS tb (.pan [(unfitV, false)]) (sEnd0 f2))) (wOf (endS tb (.pan [(unfitV, false)]) (sEnd0 f2)))) := by kernel_rfl
noncomputable def sEnd1 (k : Nat) (f2 : Nat → Option Value) : Fs := ⟨slots 7 [(4, .pointer (some ⟨0, 0, none⟩)), (5, .pointer (some ⟨1, 0, none⟩))] f2, heap 2 [(0, .cells [.slice (some ⟨2, 0, none⟩) (k + 1) U] 96), (1, .cells [.bool false] 4)], 3, [], [.call 80 [.pointer (some ⟨0, 0, none⟩), .pointer (some ⟨1, 0, none⟩)] []]⟩
theorem zNf (tb : Tb Try.prog 0) (R : Res → Prop) (k : Nat) (f2 : Nat → Option Value) : fnK tb Try.f60 R (.pan [(unfitV, false)]) (sEnd1 k f2) = R (.ret (.tuple #[.slice none 0 0, .bool false]) (hOf (endS tb (.pan [(unfitV, false)]) (sEnd1 k f2))) (nOf (endS tb (.pan [(unfitV, false)]) (sEnd1 k f2))) (wOf (endS tb (.pan [(unfitV, false)]) (sEnd1 k f2)))) := by kernel_rfl
noncomputable def sEnd2 (k : Nat) (b : Bool) (c : List Value) (f2 : Nat → Option Value) : Fs := ⟨slots 7 [(4, .pointer (some ⟨0, 0, none⟩)), (5, .pointer (some ⟨1, 0, none⟩))] f2, heap 2 [(0, .cells [.slice (some ⟨2, 0, none⟩) (k + 1) U] 96), (1, .cells [.bool b] 4), (2, .cells c 110)], 3, [], [.call 80 [.pointer (some ⟨0, 0, none⟩), .pointer (some ⟨1, 0, none⟩)] []]⟩
theorem end_ret (tb : Tb Try.prog 0) (R : Res → Prop) (k : Nat) (b : Bool) (c : List Value) (f2 : Nat → Option Value) : fnK tb Try.f60 R .ret (sEnd2 k b c f2) = R (.ret (.tuple #[.slice (some ⟨2, 0, none⟩) (k + 1) U, .bool b]) (hOf (endS tb .ret (sEnd2 k b c f2))) (nOf (endS tb .ret (sEnd2 k b c f2))) (wOf (endS tb .ret (sEnd2 k b c f2)))) := by kernel_rfl
theorem zRj (tb : Tb Try.prog 0) (k : Nat) (b : Bool) (c : List Value) (f2 : Nat → Option Value) : (hOf (endS tb .ret (sEnd2 k b c f2))).get 2 = some (.cells c 110) := by kernel_rfl
end Go.Proofs.Ytmpaeabkdhjamaa
namespace Go.Proofs.Ytmpaeabkdhjamaa
open Go Go.RowKit
def zHr (t : Int) (ps : List Pt) (h : ∀ H n, partsGo t H n partsTab = partsOut ps.length (ps.flatMap Pt.cell) H n) : Ct Try.prog 0 where
 f := 75
 res l H n := match l with | [.int .i64 t'] => bif t' == t then partsOut ps.length (ps.flatMap Pt.cell) H n else .bad "type" [] | _ => .bad "arguments" []
 ok l H n := by
  split
  ·rename_i t'
   cases hb : (t' == t) with
   | false => trivial
   | true =>
    have hb : t' = t := by simpa using hb
    subst hb
    have := zUa t' H n
    rw [h] at this
    exact this
  ·trivial
 ck l H n K := match l with | [.int .i64 t'] => (t' == t) = true ∧ K (partsOut ps.length (ps.flatMap Pt.cell) H n) | _ => False
 imp l H n K h := by
  split at h
  ·obtain ⟨h1, h2⟩ := h
   simp only [h1, cond_true]; exact h2
  ·exact h.elim
theorem zCa (s : ByteArray) (x : Int) (k : Nat) (h : x = k) : Value.string (subS s (Int.toNat 0) x.toNat) = str ((bs s).take k) := by
 subst h
 show _ = Value.string ⟨((bs s).take k).toArray⟩
 congr 1
theorem zAo (s : ByteArray) (x : Int) (k : Nat) (h : x = k) : bs (subS s x.toNat ((s.data.size : Int)).toNat) = (bs s).drop k := by
 subst h
 rw [zOo, Int.toNat_natCast, Int.toNat_natCast, zAd, List.take_length]
theorem zOx (ps : List Pt) (i : Nat) (h : i < ps.length) (l : Bs) : cuts (ps.drop i) l = match ps[i].cut l with
  | none => none
  | some n => (cuts (ps.drop (i + 1)) (l.drop n)).map fun x => ((l.take n, ps[i].isName) :: x.1, x.2) := by
 rw [List.drop_eq_getElem_cons h]; rfl
theorem zUk (t : Int) (ps : List Pt) (hps : 0 < ps.length) (hps2 : ps.length < 1000) (ht : ∀ H n, partsGo t H n partsTab = partsOut ps.length (ps.flatMap Pt.cell) H n) (s0 : ByteArray) (hs0 : (bs s0).length ≤ 1000000000) :
  ∃ r, FnS Try.prog 0 60 [.int .i64 t, .string s0] .e 0 r ∧ ∃ H m wr,
   (∃ out rest b, cuts ps (bs s0) = some (out, rest) ∧ r = .ret (.tuple #[.slice (some ⟨b, 0, none⟩) out.length U, .bool rest.isEmpty]) H m wr ∧ H.get b = some (.cells (out.flatMap pc) 110) ∧ b < JJ) ∨
   (cuts ps (bs s0) = none ∧ r = .ret (.tuple #[.slice none 0 0, .bool false]) H m wr) := by
 refine fn_sxR mixed (tbOf mixed [zHr t ps ht, zNb, zMy]) [2, 3] Try.func60 (c := bodyOf Try.f60) (by kernel_rfl) ?_
 refine And.intro (by simp) ?_
 refine zNn (spS ps) (fun x => ps.length - x.1) (fun x => x.1 ≤ ps.length ∧ (bs x.2.2).length ≤ 1000000000 ∧ x.2.1.length = x.1 ∧ cuts ps (bs s0) = (cuts (ps.drop x.1) (bs x.2.2)).map fun y => (x.2.1 ++ y.1, y.2)) (0, [], s0) ⟨Nat.zero_le _, hs0, rfl, by simp⟩
  (zBe [0, 1, 2] rfl rfl rfl (fun l e => by cases e) (by decide) (by decide) rfl rfl (fun k hk h => by omega) ⟨⟨_, rfl, .string _⟩, ⟨_, rfl, .ptr _ _ _ rfl⟩, ⟨_, rfl, .ptr _ _ _ rfl⟩, ⟨_, rfl, .sl _ _ _ _ _ rfl⟩, ⟨_, rfl, .int _ _⟩, ⟨_, rfl, .int _ _⟩, trivial⟩
   ⟨bpo rfl, bpo rfl, bpo (zAa _ Pt.cell_plain ps), trivial⟩ (.fn _ _ _ _ _ _ _ (.cons _ _ _ _ (.ptr _ _ _ rfl) (.cons _ _ _ _ (.ptr _ _ _ rfl) .nil)) .nil .nil)) ?_
 rintro ⟨i, acc, s⟩ f ⟨hi, hs, hacc, heq⟩
 have hi : i ≤ ps.length := hi
 have hs : (bs s).length ≤ 1000000000 := hs
 have hacc : acc.length = i := hacc
 have heq : cuts ps (bs s0) = (cuts (ps.drop i) (bs s)).map fun y => (acc ++ y.1, y.2) := heq
 have hsB : shortB s = true := by unfold shortB; rw [zAd]; exact Nat.ble_eq_true_of_le hs
 have side : ∀ (h1 : i < ps.length), (0 + ((i : Nat) : Int).toNat * 3 + 3 ≤ (ps.flatMap Pt.cell).length ∧ List.take 3 (List.drop (0 + ((i : Nat) : Int).toNat * 3) (ps.flatMap Pt.cell)) = ps[i].cell) := fun h1 => by
  have := zHu Pt.cell 3 Pt.cell_len ps i h1
  rw [Int.toNat_natCast, Nat.zero_add]; exact this
 cases acc with
 | nil =>
  refine zAn (tbOf mixed [zHr t ps ht, zNb, zMy]) [2] 0 _ none mixed _ _ _ ?_
  refine ifK (fun h1 => ?_) (fun h1 => ?_)
  ·have h1 : i < ps.length := by have := of_decide_eq_true h1; omega
   have hst := zOx ps i h1 (bs s)
   have hsd := side h1
   refine ifK (fun _ => ?_) (fun h2 => absurd h2 (by simp [inI]; omega))
   cases hp : ps[i] with
   | nm =>
    rw [hp] at hst hsd
    refine Exists.intro 0 (Exists.intro true (Exists.intro false (And.intro hsd ?_)))
    refine And.intro hsB ?_
    refine ifK (fun h3 => ?_) (fun h3 => ?_)
    ·obtain ⟨k, hk⟩ := Option.isSome_iff_exists.1 h3
     have hcut : Pt.nm.cut (bs s) = some k := hk
     have hkn : frontN (bs s) = k := by simp [frontN, hk]
     have hkl := zFx hk
     have hx : ((subS s 0 (frontN (bs s))).data.size : Int) = (k : Nat) := by rw [zAd, zOo, hkn]; simp; omega
     refine And.intro (by kernel_rfl) ?_
     refine And.intro (by rw [hx]; simp only [inLH, zAd, Bool.and_eq_true, decide_eq_true_eq] <;> omega) ?_
     refine And.intro (by rw [hx]; simp only [inLH, zAd, Bool.and_eq_true, decide_eq_true_eq] <;> omega) ?_
     refine ⟨(i + 1, [] ++ [((bs s).take (k), true)], subS s (((subS s 0 (frontN (bs s))).data.size : Int)).toNat ((s.data.size : Int)).toNat), ⟨h1, ?_, ?_, ?_⟩, ?_, ?_⟩
     ·show (bs (subS s _ _)).length ≤ _; rw [zAo s _ _ hx]; simp <;> omega
     ·simp only [List.length_append, hacc]; rfl
     ·show cuts ps (bs s0) = (cuts (ps.drop (i + 1)) (bs (subS s _ _))).map _; rw [zAo s _ _ hx, heq, hst, hcut]; simp only [Option.map_map]; exact congrArg (fun g => Option.map g _) (funext fun y => by simp [Pt.isName])
     ·show ps.length - (i + 1) < ps.length - i; omega
     ·refine zBe [0, 1, 2, 5] rfl rfl rfl (fun l e => by cases e) (by decide) (by decide) rfl rfl (fun k hk h => by omega) ⟨⟨_, rfl, .string _⟩, ⟨_, rfl, .ptr _ _ _ rfl⟩, ⟨_, rfl, .ptr _ _ _ rfl⟩, ⟨_, rfl, .sl _ _ _ _ _ rfl⟩, ⟨_, rfl, .int _ _⟩, zAe rfl (by rw [wrapN (by omega) (by omega)]; omega), trivial⟩ ⟨⟨by decide, _, rfl, ?_⟩, bpo rfl, bpo (zAa _ Pt.cell_plain ps), ⟨by decide, _, rfl, ?_⟩, trivial⟩ (.fn _ _ _ _ _ _ _ (.cons _ _ _ _ (.ptr _ _ _ rfl) (.cons _ _ _ _ (.ptr _ _ _ rfl) .nil)) .nil .nil)
      ·exact zDf rfl
      ·refine zBb ?_ (zAa pc zCl _)
       show [Value.string (subS s (Int.toNat 0) (((subS s 0 (frontN (bs s))).data.size : Int)).toNat), .bool true] = _
       rw [zCa s _ _ hx]; rfl
    ·have hcut : Pt.nm.cut (bs s) = none := by have : (front (bs s)).isSome = false := h3; simpa [Pt.cut] using this
     have hn : cuts ps (bs s0) = none := by rw [heq, hst, hcut]; rfl
     refine And.intro rfl (zAi (zBe [0, 1] (d := 7) (d2 := 2) (lv := [(4, .pointer (some ⟨0, 0, none⟩)), (5, .pointer (some ⟨1, 0, none⟩))]) (bs := [(0, .cells [.slice none 0 0] 96), (1, .cells [.bool false] 4)]) (W := []) (m := 2) (df := [.call 80 [.pointer (some ⟨0, 0, none⟩), .pointer (some ⟨1, 0, none⟩)] []]) rfl rfl rfl (fun l e => by cases e) (by decide) (by decide) rfl rfl (fun k hk h => by omega) ⟨⟨_, rfl, .ptr _ _ _ rfl⟩, ⟨_, rfl, .ptr _ _ _ rfl⟩, trivial⟩ ⟨bpo rfl, bpo rfl, trivial⟩ (.fn _ _ _ _ _ _ _ (.cons _ _ _ _ (.ptr _ _ _ rfl) (.cons _ _ _ _ (.ptr _ _ _ rfl) .nil)) .nil .nil)) (fun f2 => ?_))
     refine Eq.mpr (zNe _ _ f2) ?_
     exact Exists.intro _ (Exists.intro _ (Exists.intro _ (Or.inr (And.intro hn rfl))))
   | rest =>
    rw [hp] at hst hsd
    refine Exists.intro 0 (Exists.intro false (Exists.intro true (And.intro hsd ?_)))
    refine And.intro hsB ?_
    refine ifK (fun h3 => ?_) (fun h3 => ?_)
    ·have hcut : Pt.rest.cut (bs s) = some (bs s).length := by have h3 : texts (bs s) = true := h3; simp [Pt.cut, h3]
     have hx : (s.data.size : Int) = ((bs s).length : Nat) := by rw [zAd]
     refine And.intro (by kernel_rfl) ?_
     refine And.intro (by rw [hx]; simp only [inLH, zAd, Bool.and_eq_true, decide_eq_true_eq] <;> omega) ?_
     refine And.intro (by rw [hx]; simp only [inLH, zAd, Bool.and_eq_true, decide_eq_true_eq] <;> omega) ?_
     refine ⟨(i + 1, [] ++ [((bs s).take ((bs s).length), false)], subS s ((s.data.size : Int)).toNat ((s.data.size : Int)).toNat), ⟨h1, ?_, ?_, ?_⟩, ?_, ?_⟩
     ·show (bs (subS s _ _)).length ≤ _; rw [zAo s _ _ hx]; simp <;> omega
     ·simp only [List.length_append, hacc]; rfl
     ·show cuts ps (bs s0) = (cuts (ps.drop (i + 1)) (bs (subS s _ _))).map _; rw [zAo s _ _ hx, heq, hst, hcut]; simp only [Option.map_map]; exact congrArg (fun g => Option.map g _) (funext fun y => by simp [Pt.isName])
     ·show ps.length - (i + 1) < ps.length - i; omega
     ·refine zBe [0, 1, 2, 5] rfl rfl rfl (fun l e => by cases e) (by decide) (by decide) rfl rfl (fun k hk h => by omega) ⟨⟨_, rfl, .string _⟩, ⟨_, rfl, .ptr _ _ _ rfl⟩, ⟨_, rfl, .ptr _ _ _ rfl⟩, ⟨_, rfl, .sl _ _ _ _ _ rfl⟩, ⟨_, rfl, .int _ _⟩, zAe rfl (by rw [wrapN (by omega) (by omega)]; omega), trivial⟩ ⟨⟨by decide, _, rfl, ?_⟩, bpo rfl, bpo (zAa _ Pt.cell_plain ps), ⟨by decide, _, rfl, ?_⟩, trivial⟩ (.fn _ _ _ _ _ _ _ (.cons _ _ _ _ (.ptr _ _ _ rfl) (.cons _ _ _ _ (.ptr _ _ _ rfl) .nil)) .nil .nil)
      ·exact zDf rfl
      ·refine zBb ?_ (zAa pc zCl _)
       show [Value.string (subS s (Int.toNat 0) ((s.data.size : Int)).toNat), .bool false] = _
       rw [zCa s _ _ hx]; rfl
    ·have hcut : Pt.rest.cut (bs s) = none := by have h3 : texts (bs s) = false := h3; simp [Pt.cut, h3]
     have hn : cuts ps (bs s0) = none := by rw [heq, hst, hcut]; rfl
     refine And.intro rfl (zAi (zBe [0, 1] (d := 7) (d2 := 2) (lv := [(4, .pointer (some ⟨0, 0, none⟩)), (5, .pointer (some ⟨1, 0, none⟩))]) (bs := [(0, .cells [.slice none 0 0] 96), (1, .cells [.bool false] 4)]) (W := []) (m := 2) (df := [.call 80 [.pointer (some ⟨0, 0, none⟩), .pointer (some ⟨1, 0, none⟩)] []]) rfl rfl rfl (fun l e => by cases e) (by decide) (by decide) rfl rfl (fun k hk h => by omega) ⟨⟨_, rfl, .ptr _ _ _ rfl⟩, ⟨_, rfl, .ptr _ _ _ rfl⟩, trivial⟩ ⟨bpo rfl, bpo rfl, trivial⟩ (.fn _ _ _ _ _ _ _ (.cons _ _ _ _ (.ptr _ _ _ rfl) (.cons _ _ _ _ (.ptr _ _ _ rfl) .nil)) .nil .nil)) (fun f2 => ?_))
     refine Eq.mpr (zNe _ _ f2) ?_
     exact Exists.intro _ (Exists.intro _ (Exists.intro _ (Or.inr (And.intro hn rfl))))
   | sz k =>
    rw [hp] at hst hsd
    refine Exists.intro (k : Int) (Exists.intro false (Exists.intro false (And.intro hsd ?_)))
    refine ifK (fun h3 => ?_) (fun h3 => ?_)
    ·have h3 : ¬ k ≤ (bs s).length := by have := of_decide_eq_true h3; rw [zAd] at this; omega
     have hcut : (Pt.sz k).cut (bs s) = none := by simp [Pt.cut, h3]
     have hn : cuts ps (bs s0) = none := by rw [heq, hst, hcut]; rfl
     refine And.intro rfl (zAi (zBe [0, 1] (d := 7) (d2 := 2) (lv := [(4, .pointer (some ⟨0, 0, none⟩)), (5, .pointer (some ⟨1, 0, none⟩))]) (bs := [(0, .cells [.slice none 0 0] 96), (1, .cells [.bool false] 4)]) (W := []) (m := 2) (df := [.call 80 [.pointer (some ⟨0, 0, none⟩), .pointer (some ⟨1, 0, none⟩)] []]) rfl rfl rfl (fun l e => by cases e) (by decide) (by decide) rfl rfl (fun k hk h => by omega) ⟨⟨_, rfl, .ptr _ _ _ rfl⟩, ⟨_, rfl, .ptr _ _ _ rfl⟩, trivial⟩ ⟨bpo rfl, bpo rfl, trivial⟩ (.fn _ _ _ _ _ _ _ (.cons _ _ _ _ (.ptr _ _ _ rfl) (.cons _ _ _ _ (.ptr _ _ _ rfl) .nil)) .nil .nil)) (fun f2 => ?_))
     refine Eq.mpr (zNe _ _ f2) ?_
     exact Exists.intro _ (Exists.intro _ (Exists.intro _ (Or.inr (And.intro hn rfl))))
    ·have h3 : k ≤ (bs s).length := by have := of_decide_eq_false h3; rw [zAd] at this; omega
     have hcut : (Pt.sz k).cut (bs s) = some k := by simp [Pt.cut, h3]
     have hx : (k : Int) = (k : Nat) := rfl
     refine And.intro (by kernel_rfl) ?_
     refine And.intro (by rw [hx]; simp only [inLH, zAd, Bool.and_eq_true, decide_eq_true_eq] <;> omega) ?_
     refine And.intro (by rw [hx]; simp only [inLH, zAd, Bool.and_eq_true, decide_eq_true_eq] <;> omega) ?_
     refine ⟨(i + 1, [] ++ [((bs s).take (k), false)], subS s ((k : Int)).toNat ((s.data.size : Int)).toNat), ⟨h1, ?_, ?_, ?_⟩, ?_, ?_⟩
     ·show (bs (subS s _ _)).length ≤ _; rw [zAo s _ _ hx]; simp <;> omega
     ·simp only [List.length_append, hacc]; rfl
     ·show cuts ps (bs s0) = (cuts (ps.drop (i + 1)) (bs (subS s _ _))).map _; rw [zAo s _ _ hx, heq, hst, hcut]; simp only [Option.map_map]; exact congrArg (fun g => Option.map g _) (funext fun y => by simp [Pt.isName])
     ·show ps.length - (i + 1) < ps.length - i; omega
     ·refine zBe [0, 1, 2, 5] rfl rfl rfl (fun l e => by cases e) (by decide) (by decide) rfl rfl (fun k hk h => by omega) ⟨⟨_, rfl, .string _⟩, ⟨_, rfl, .ptr _ _ _ rfl⟩, ⟨_, rfl, .ptr _ _ _ rfl⟩, ⟨_, rfl, .sl _ _ _ _ _ rfl⟩, ⟨_, rfl, .int _ _⟩, zAe rfl (by rw [wrapN (by omega) (by omega)]; omega), trivial⟩ ⟨⟨by decide, _, rfl, ?_⟩, bpo rfl, bpo (zAa _ Pt.cell_plain ps), ⟨by decide, _, rfl, ?_⟩, trivial⟩ (.fn _ _ _ _ _ _ _ (.cons _ _ _ _ (.ptr _ _ _ rfl) (.cons _ _ _ _ (.ptr _ _ _ rfl) .nil)) .nil .nil)
      ·exact zDf rfl
      ·refine zBb ?_ (zAa pc zCl _)
       show [Value.string (subS s (Int.toNat 0) ((k : Int)).toNat), .bool false] = _
       rw [zCa s _ _ hx]; rfl
  ·have h1 : ¬ i < ps.length := by have := of_decide_eq_false h1; omega
   exact absurd hacc (by simp; omega)
 | cons a l =>
  refine zAn (tbOf mixed [zHr t ps ht, zNb, zMy]) [2, 3] 0 _ none mixed _ _ _ ?_
  refine ifK (fun h1 => ?_) (fun h1 => ?_)
  ·have h1 : i < ps.length := by have := of_decide_eq_true h1; omega
   have hst := zOx ps i h1 (bs s)
   have hsd := side h1
   refine ifK (fun _ => ?_) (fun h2 => absurd h2 (by simp [inI]; omega))
   cases hp : ps[i] with
   | nm =>
    rw [hp] at hst hsd
    refine Exists.intro 0 (Exists.intro true (Exists.intro false (And.intro hsd ?_)))
    refine And.intro hsB ?_
    refine ifK (fun h3 => ?_) (fun h3 => ?_)
    ·obtain ⟨k, hk⟩ := Option.isSome_iff_exists.1 h3
     have hcut : Pt.nm.cut (bs s) = some k := hk
     have hkn : frontN (bs s) = k := by simp [frontN, hk]
     have hkl := zFx hk
     have hx : ((subS s 0 (frontN (bs s))).data.size : Int) = (k : Nat) := by rw [zAd, zOo, hkn]; simp; omega
     refine And.intro (by kernel_rfl) ?_
     refine And.intro (by rw [hx]; simp only [inLH, zAd, Bool.and_eq_true, decide_eq_true_eq] <;> omega) ?_
     refine And.intro (by rw [zAf pc 2 zHi]; have hT : (Try.prog.types[110]).size = 2 := (by kernel_rfl); have hB : (Try.prog.types[110]).bytes = 24 := (by kernel_rfl); have hl : l.length + 1 = i := hacc; simp [oneL, Value.oneCell', hT, hB]; omega) ?_
     refine And.intro (by rw [hx]; simp only [inLH, zAd, Bool.and_eq_true, decide_eq_true_eq] <;> omega) ?_
     refine ⟨(i + 1, (a :: l) ++ [((bs s).take (k), true)], subS s (((subS s 0 (frontN (bs s))).data.size : Int)).toNat ((s.data.size : Int)).toNat), ⟨h1, ?_, ?_, ?_⟩, ?_, ?_⟩
     ·show (bs (subS s _ _)).length ≤ _; rw [zAo s _ _ hx]; simp <;> omega
     ·simp only [List.length_append, hacc]; rfl
     ·show cuts ps (bs s0) = (cuts (ps.drop (i + 1)) (bs (subS s _ _))).map _; rw [zAo s _ _ hx, heq, hst, hcut]; simp only [Option.map_map]; exact congrArg (fun g => Option.map g _) (funext fun y => by simp [Pt.isName])
     ·show ps.length - (i + 1) < ps.length - i; omega
     ·refine zBe [0, 1, 2, 6] rfl rfl rfl (fun l e => by cases e) (by decide) (by decide) rfl rfl (fun k hk h => by omega) ⟨⟨_, rfl, .string _⟩, ⟨_, rfl, .ptr _ _ _ rfl⟩, ⟨_, rfl, .ptr _ _ _ rfl⟩, ⟨_, rfl, .sl _ _ _ _ _ rfl⟩, ⟨_, rfl, .int _ _⟩, zAe rfl (by rw [wrapN (by omega) (by omega)]; omega), trivial⟩ ⟨⟨by decide, _, rfl, ?_⟩, bpo rfl, bpo (zAa _ Pt.cell_plain ps), ⟨by decide, _, rfl, ?_⟩, trivial⟩ (.fn _ _ _ _ _ _ _ (.cons _ _ _ _ (.ptr _ _ _ rfl) (.cons _ _ _ _ (.ptr _ _ _ rfl) .nil)) .nil .nil)
      ·have : (l ++ [((bs s).take (k), true)]).length = l.length + 1 := by simp
       show RO _ _ _ (.cells [.slice _ ((l ++ [_]).length + 1) U] _)
       rw [this]
       exact zDf rfl
      ·refine zBb ?_ (zAa pc zCl _)
       show List.take ((l.length + 1) * 2) ((a :: l).flatMap pc) ++ [Value.string (subS s (Int.toNat 0) (((subS s 0 (frontN (bs s))).data.size : Int)).toNat), .bool true] = _
       rw [zCa s _ _ hx, List.take_of_length_le (by rw [zAf pc 2 zHi]; simp)]
       show _ = ((a :: l) ++ [_]).flatMap pc
       rw [zKc]; rfl
    ·have hcut : Pt.nm.cut (bs s) = none := by have : (front (bs s)).isSome = false := h3; simpa [Pt.cut] using this
     have hn : cuts ps (bs s0) = none := by rw [heq, hst, hcut]; rfl
     refine And.intro rfl (zAi (zBe [0, 1, 3] (d := 7) (d2 := 2) (lv := [(4, .pointer (some ⟨0, 0, none⟩)), (5, .pointer (some ⟨1, 0, none⟩))]) (bs := [(0, .cells [.slice (some ⟨2, 0, none⟩) (l.length + 1) U] 96), (1, .cells [.bool false] 4)]) (W := []) (m := 3) (df := [.call 80 [.pointer (some ⟨0, 0, none⟩), .pointer (some ⟨1, 0, none⟩)] []]) rfl rfl rfl (fun l e => by cases e) (by decide) (by decide) rfl rfl (fun k hk h => by omega) ⟨⟨_, rfl, .ptr _ _ _ rfl⟩, ⟨_, rfl, .ptr _ _ _ rfl⟩, trivial⟩ ⟨⟨by decide, _, rfl, zDf rfl⟩, bpo rfl, trivial⟩ (.fn _ _ _ _ _ _ _ (.cons _ _ _ _ (.ptr _ _ _ rfl) (.cons _ _ _ _ (.ptr _ _ _ rfl) .nil)) .nil .nil)) (fun f2 => ?_))
     refine Eq.mpr (zNf _ _ l.length f2) ?_
     exact Exists.intro _ (Exists.intro _ (Exists.intro _ (Or.inr (And.intro hn rfl))))
   | rest =>
    rw [hp] at hst hsd
    refine Exists.intro 0 (Exists.intro false (Exists.intro true (And.intro hsd ?_)))
    refine And.intro hsB ?_
    refine ifK (fun h3 => ?_) (fun h3 => ?_)
    ·have hcut : Pt.rest.cut (bs s) = some (bs s).length := by have h3 : texts (bs s) = true := h3; simp [Pt.cut, h3]
     have hx : (s.data.size : Int) = ((bs s).length : Nat) := by rw [zAd]
     refine And.intro (by kernel_rfl) ?_
     refine And.intro (by rw [hx]; simp only [inLH, zAd, Bool.and_eq_true, decide_eq_true_eq] <;> omega) ?_
     refine And.intro (by rw [zAf pc 2 zHi]; have hT : (Try.prog.types[110]).size = 2 := (by kernel_rfl); have hB : (Try.prog.types[110]).bytes = 24 := (by kernel_rfl); have hl : l.length + 1 = i := hacc; simp [oneL, Value.oneCell', hT, hB]; omega) ?_
     refine And.intro (by rw [hx]; simp only [inLH, zAd, Bool.and_eq_true, decide_eq_true_eq] <;> omega) ?_
     refine ⟨(i + 1, (a :: l) ++ [((bs s).take ((bs s).length), false)], subS s ((s.data.size : Int)).toNat ((s.data.size : Int)).toNat), ⟨h1, ?_, ?_, ?_⟩, ?_, ?_⟩
     ·show (bs (subS s _ _)).length ≤ _; rw [zAo s _ _ hx]; simp <;> omega
     ·simp only [List.length_append, hacc]; rfl
     ·show cuts ps (bs s0) = (cuts (ps.drop (i + 1)) (bs (subS s _ _))).map _; rw [zAo s _ _ hx, heq, hst, hcut]; simp only [Option.map_map]; exact congrArg (fun g => Option.map g _) (funext fun y => by simp [Pt.isName])
     ·show ps.length - (i + 1) < ps.length - i; omega
     ·refine zBe [0, 1, 2, 6] rfl rfl rfl (fun l e => by cases e) (by decide) (by decide) rfl rfl (fun k hk h => by omega) ⟨⟨_, rfl, .string _⟩, ⟨_, rfl, .ptr _ _ _ rfl⟩, ⟨_, rfl, .ptr _ _ _ rfl⟩, ⟨_, rfl, .sl _ _ _ _ _ rfl⟩, ⟨_, rfl, .int _ _⟩, zAe rfl (by rw [wrapN (by omega) (by omega)]; omega), trivial⟩ ⟨⟨by decide, _, rfl, ?_⟩, bpo rfl, bpo (zAa _ Pt.cell_plain ps), ⟨by decide, _, rfl, ?_⟩, trivial⟩ (.fn _ _ _ _ _ _ _ (.cons _ _ _ _ (.ptr _ _ _ rfl) (.cons _ _ _ _ (.ptr _ _ _ rfl) .nil)) .nil .nil)
      ·have : (l ++ [((bs s).take ((bs s).length), false)]).length = l.length + 1 := by simp
       show RO _ _ _ (.cells [.slice _ ((l ++ [_]).length + 1) U] _)
       rw [this]
       exact zDf rfl
      ·refine zBb ?_ (zAa pc zCl _)
       show List.take ((l.length + 1) * 2) ((a :: l).flatMap pc) ++ [Value.string (subS s (Int.toNat 0) ((s.data.size : Int)).toNat), .bool false] = _
       rw [zCa s _ _ hx, List.take_of_length_le (by rw [zAf pc 2 zHi]; simp)]
       show _ = ((a :: l) ++ [_]).flatMap pc
       rw [zKc]; rfl
    ·have hcut : Pt.rest.cut (bs s) = none := by have h3 : texts (bs s) = false := h3; simp [Pt.cut, h3]
     have hn : cuts ps (bs s0) = none := by rw [heq, hst, hcut]; rfl
     refine And.intro rfl (zAi (zBe [0, 1, 3] (d := 7) (d2 := 2) (lv := [(4, .pointer (some ⟨0, 0, none⟩)), (5, .pointer (some ⟨1, 0, none⟩))]) (bs := [(0, .cells [.slice (some ⟨2, 0, none⟩) (l.length + 1) U] 96), (1, .cells [.bool false] 4)]) (W := []) (m := 3) (df := [.call 80 [.pointer (some ⟨0, 0, none⟩), .pointer (some ⟨1, 0, none⟩)] []]) rfl rfl rfl (fun l e => by cases e) (by decide) (by decide) rfl rfl (fun k hk h => by omega) ⟨⟨_, rfl, .ptr _ _ _ rfl⟩, ⟨_, rfl, .ptr _ _ _ rfl⟩, trivial⟩ ⟨⟨by decide, _, rfl, zDf rfl⟩, bpo rfl, trivial⟩ (.fn _ _ _ _ _ _ _ (.cons _ _ _ _ (.ptr _ _ _ rfl) (.cons _ _ _ _ (.ptr _ _ _ rfl) .nil)) .nil .nil)) (fun f2 => ?_))
     refine Eq.mpr (zNf _ _ l.length f2) ?_
     exact Exists.intro _ (Exists.intro _ (Exists.intro _ (Or.inr (And.intro hn rfl))))
   | sz k =>
    rw [hp] at hst hsd
    refine Exists.intro (k : Int) (Exists.intro false (Exists.intro false (And.intro hsd ?_)))
    refine ifK (fun h3 => ?_) (fun h3 => ?_)
    ·have h3 : ¬ k ≤ (bs s).length := by have := of_decide_eq_true h3; rw [zAd] at this; omega
     have hcut : (Pt.sz k).cut (bs s) = none := by simp [Pt.cut, h3]
     have hn : cuts ps (bs s0) = none := by rw [heq, hst, hcut]; rfl
     refine And.intro rfl (zAi (zBe [0, 1, 3] (d := 7) (d2 := 2) (lv := [(4, .pointer (some ⟨0, 0, none⟩)), (5, .pointer (some ⟨1, 0, none⟩))]) (bs := [(0, .cells [.slice (some ⟨2, 0, none⟩) (l.length + 1) U] 96), (1, .cells [.bool false] 4)]) (W := []) (m := 3) (df := [.call 80 [.pointer (some ⟨0, 0, none⟩), .pointer (some ⟨1, 0, none⟩)] []]) rfl rfl rfl (fun l e => by cases e) (by decide) (by decide) rfl rfl (fun k hk h => by omega) ⟨⟨_, rfl, .ptr _ _ _ rfl⟩, ⟨_, rfl, .ptr _ _ _ rfl⟩, trivial⟩ ⟨⟨by decide, _, rfl, zDf rfl⟩, bpo rfl, trivial⟩ (.fn _ _ _ _ _ _ _ (.cons _ _ _ _ (.ptr _ _ _ rfl) (.cons _ _ _ _ (.ptr _ _ _ rfl) .nil)) .nil .nil)) (fun f2 => ?_))
     refine Eq.mpr (zNf _ _ l.length f2) ?_
     exact Exists.intro _ (Exists.intro _ (Exists.intro _ (Or.inr (And.intro hn rfl))))
    ·have h3 : k ≤ (bs s).length := by have := of_decide_eq_false h3; rw [zAd] at this; omega
     have hcut : (Pt.sz k).cut (bs s) = some k := by simp [Pt.cut, h3]
     have hx : (k : Int) = (k : Nat) := rfl
     refine And.intro (by kernel_rfl) ?_
     refine And.intro (by rw [hx]; simp only [inLH, zAd, Bool.and_eq_true, decide_eq_true_eq] <;> omega) ?_
     refine And.intro (by rw [zAf pc 2 zHi]; have hT : (Try.prog.types[110]).size = 2 := (by kernel_rfl); have hB : (Try.prog.types[110]).bytes = 24 := (by kernel_rfl); have hl : l.length + 1 = i := hacc; simp [oneL, Value.oneCell', hT, hB]; omega) ?_
     refine And.intro (by rw [hx]; simp only [inLH, zAd, Bool.and_eq_true, decide_eq_true_eq] <;> omega) ?_
     refine ⟨(i + 1, (a :: l) ++ [((bs s).take (k), false)], subS s ((k : Int)).toNat ((s.data.size : Int)).toNat), ⟨h1, ?_, ?_, ?_⟩, ?_, ?_⟩
     ·show (bs (subS s _ _)).length ≤ _; rw [zAo s _ _ hx]; simp <;> omega
     ·simp only [List.length_append, hacc]; rfl
     ·show cuts ps (bs s0) = (cuts (ps.drop (i + 1)) (bs (subS s _ _))).map _; rw [zAo s _ _ hx, heq, hst, hcut]; simp only [Option.map_map]; exact congrArg (fun g => Option.map g _) (funext fun y => by simp [Pt.isName])
     ·show ps.length - (i + 1) < ps.length - i; omega
     ·refine zBe [0, 1, 2, 6] rfl rfl rfl (fun l e => by cases e) (by decide) (by decide) rfl rfl (fun k hk h => by omega) ⟨⟨_, rfl, .string _⟩, ⟨_, rfl, .ptr _ _ _ rfl⟩, ⟨_, rfl, .ptr _ _ _ rfl⟩, ⟨_, rfl, .sl _ _ _ _ _ rfl⟩, ⟨_, rfl, .int _ _⟩, zAe rfl (by rw [wrapN (by omega) (by omega)]; omega), trivial⟩ ⟨⟨by decide, _, rfl, ?_⟩, bpo rfl, bpo (zAa _ Pt.cell_plain ps), ⟨by decide, _, rfl, ?_⟩, trivial⟩ (.fn _ _ _ _ _ _ _ (.cons _ _ _ _ (.ptr _ _ _ rfl) (.cons _ _ _ _ (.ptr _ _ _ rfl) .nil)) .nil .nil)
      ·have : (l ++ [((bs s).take (k), false)]).length = l.length + 1 := by simp
       show RO _ _ _ (.cells [.slice _ ((l ++ [_]).length + 1) U] _)
       rw [this]
       exact zDf rfl
      ·refine zBb ?_ (zAa pc zCl _)
       show List.take ((l.length + 1) * 2) ((a :: l).flatMap pc) ++ [Value.string (subS s (Int.toNat 0) ((k : Int)).toNat), .bool false] = _
       rw [zCa s _ _ hx, List.take_of_length_le (by rw [zAf pc 2 zHi]; simp)]
       show _ = ((a :: l) ++ [_]).flatMap pc
       rw [zKc]; rfl
  ·have h1 : ¬ i < ps.length := by have := of_decide_eq_false h1; omega
   have hc : cuts ps (bs s0) = some (a :: l, bs s) := by rw [heq, List.drop_eq_nil_of_le (by omega)]; simp [cuts]
   refine And.intro rfl ?_
   refine (zAi (zBe [0, 1, 3] (d := 7) (d2 := 2) (lv := [(4, .pointer (some ⟨0, 0, none⟩)), (5, .pointer (some ⟨1, 0, none⟩))]) (bs := [(0, .cells [.slice (some ⟨2, 0, none⟩) (l.length + 1) U] 96), (1, .cells [.bool (s.data.toList == [])] 4), (2, .cells ((a :: l).flatMap pc) 110)]) (W := []) (m := 3) (df := [.call 80 [.pointer (some ⟨0, 0, none⟩), .pointer (some ⟨1, 0, none⟩)] []]) rfl rfl rfl (fun l e => by cases e) (by decide) (by decide) rfl rfl (fun k hk h => by omega) ⟨⟨_, rfl, .ptr _ _ _ rfl⟩, ⟨_, rfl, .ptr _ _ _ rfl⟩, trivial⟩ ⟨⟨by decide, _, rfl, zDf rfl⟩, bpo rfl, bpo (zAa pc zCl _), trivial⟩ (.fn _ _ _ _ _ _ _ (.cons _ _ _ _ (.ptr _ _ _ rfl) (.cons _ _ _ _ (.ptr _ _ _ rfl) .nil)) .nil .nil)) (fun f2 => ?_))
   refine Eq.mpr (end_ret _ _ l.length (s.data.toList == []) ((a :: l).flatMap pc) f2) ?_
   have hem : (bs s).isEmpty = (s.data.toList == []) := by show _ = (bs s == []); cases bs s <;> rfl
   refine ⟨?zH, ?zm, ?zw, Or.inl ⟨a :: l, bs s, 2, hc, ?zg, ?zh, by decide⟩⟩
   case zg => rw [hem]; exact rfl
   case zh => exact zRj _ _ _ _ _
end Go.Proofs.Ytmpaeabkdhjamaa
namespace Go.Proofs.Ytmpaeabkdhjamaa
open Go Go.RowKit
def zGz : Ct Try.prog 0 := Ct.str1 35 (fun s => .int .i64 (labels (bs s)).2) (fun _ => rfl) (fun s w hs => by have := zPx (bs s) w hs; rwa [str_bs] at this)
end Go.Proofs.Ytmpaeabkdhjamaa
namespace Go.Proofs.Ytmpaeabkdhjamaa
open Go Go.RowKit
def ptsT (t : Int) : Option (List Pt) :=
 bif t == 1 then some [.sz 4] else bif t == 28 then some [.sz 16] else bif t == 2 then some [.nm] else bif t == 5 then some [.nm] else bif t == 12 then some [.nm] else bif t == 15 then some [.sz 2, .nm]
 else bif t == 6 then some [.nm, .nm, .sz 20] else bif t == 16 then some [.rest] else none
theorem zKj {t : Int} {ps : List Pt} (h : ptsT t = some ps) : 0 < ps.length ∧ ps.length < 1000 ∧ ∀ H n, partsGo t H n partsTab = partsOut ps.length (ps.flatMap Pt.cell) H n := by
 unfold ptsT at h
 unfold partsTab
 simp only [partsGo]
 cases h1 : (t == 1) with
 | true => rw [h1] at h; cases h; exact ⟨by decide, by decide, fun _ _ => rfl⟩
 | false =>
 cases h2 : (t == 28) with
 | true => rw [h1, h2] at h; cases h; exact ⟨by decide, by decide, fun _ _ => rfl⟩
 | false =>
 cases h3 : (t == 2) with
 | true => rw [h1, h2, h3] at h; cases h; exact ⟨by decide, by decide, fun _ _ => rfl⟩
 | false =>
 cases h4 : (t == 5) with
 | true => rw [h1, h2, h3, h4] at h; cases h; exact ⟨by decide, by decide, fun _ _ => rfl⟩
 | false =>
 cases h5 : (t == 12) with
 | true => rw [h1, h2, h3, h4, h5] at h; cases h; exact ⟨by decide, by decide, fun _ _ => rfl⟩
 | false =>
 cases h6 : (t == 15) with
 | true => rw [h1, h2, h3, h4, h5, h6] at h; cases h; exact ⟨by decide, by decide, fun _ _ => rfl⟩
 | false =>
 cases h7 : (t == 6) with
 | true => rw [h1, h2, h3, h4, h5, h6, h7] at h; cases h; exact ⟨by decide, by decide, fun _ _ => rfl⟩
 | false =>
 cases h8 : (t == 16) with
 | true => rw [h1, h2, h3, h4, h5, h6, h7, h8] at h; cases h; exact ⟨by decide, by decide, fun _ _ => rfl⟩
 | false => rw [h1, h2, h3, h4, h5, h6, h7, h8] at h; cases h
theorem ptsT_none {t : Int} (h : ptsT t = none) : ∀ H n, partsGo t H n partsTab = .ret (.tuple #[.slice none 0 0, .bool false]) H n [] := by
 unfold ptsT at h
 unfold partsTab
 simp only [partsGo]
 cases h1 : (t == 1) with
 | true => rw [h1] at h; cases h
 | false =>
 cases h2 : (t == 28) with
 | true => rw [h1, h2] at h; cases h
 | false =>
 cases h3 : (t == 2) with
 | true => rw [h1, h2, h3] at h; cases h
 | false =>
 cases h4 : (t == 5) with
 | true => rw [h1, h2, h3, h4] at h; cases h
 | false =>
 cases h5 : (t == 12) with
 | true => rw [h1, h2, h3, h4, h5] at h; cases h
 | false =>
 cases h6 : (t == 15) with
 | true => rw [h1, h2, h3, h4, h5, h6] at h; cases h
 | false =>
 cases h7 : (t == 6) with
 | true => rw [h1, h2, h3, h4, h5, h6, h7] at h; cases h
 | false =>
 cases h8 : (t == 16) with
 | true => rw [h1, h2, h3, h4, h5, h6, h7, h8] at h; cases h
 | false => exact fun _ _ => rfl
def zVa (t : Int) (h : ∀ H n, partsGo t H n partsTab = .ret (.tuple #[.slice none 0 0, .bool false]) H n []) : Ct Try.prog 0 where
 f := 75
 res l H n := match l with | [.int .i64 t'] => bif t' == t then .ret (.tuple #[.slice none 0 0, .bool false]) H n [] else .bad "type" [] | _ => .bad "arguments" []
 ok l H n := by
  split
  ·rename_i t'
   cases hb : (t' == t) with
   | false => trivial
   | true =>
    have hb : t' = t := by simpa using hb
    subst hb
    have := zUa t' H n
    rw [h] at this
    exact this
  ·trivial
 ck l H n K := match l with | [.int .i64 t'] => (t' == t) = true ∧ K (.ret (.tuple #[.slice none 0 0, .bool false]) H n []) | _ => False
 imp l H n K h := by
  split at h
  ·obtain ⟨h1, h2⟩ := h
   simp only [h1, cond_true]; exact h2
  ·exact h.elim
theorem zWa (t : Int) (ht : ∀ H n, partsGo t H n partsTab = .ret (.tuple #[.slice none 0 0, .bool false]) H n []) (s : ByteArray) :
  ∃ r, FnS Try.prog 0 60 [.int .i64 t, .string s] .e 0 r ∧ ∃ H m wr b, r = .ret (.tuple #[.slice (some ⟨b, 0, none⟩) 1 1, .bool true]) H m wr ∧ H.get b = some (.cells [.string s, .bool false] 110) ∧ b < JJ := by
 refine zBm mixed (tbOf mixed [zVa t ht]) [] Try.func60 (c := bodyOf Try.f60) (by kernel_rfl) ?_
 refine And.intro (by simp) ?_
 exact ⟨_, _, _, _, rfl, rfl, by decide⟩
end Go.Proofs.Ytmpaeabkdhjamaa
namespace Go.Proofs.Ytmpaeabkdhjamaa
open Go Go.RowKit
def outT (t : Int) (l : Bs) : Option (List (Bs × Bool) × Bs) := match ptsT t with | some ps => cuts ps l | none => none
def outP (t : Int) (l : Bs) : List (Bs × Bool) := match outT t l with | some x => x.1 | none => []
def outR (t : Int) (l : Bs) : Bs := match outT t l with | some x => x.2 | none => []
theorem zOr (t : Int) (s : ByteArray) (hs : (bs s).length ≤ 1000000000) (H : Tr AObj) (n : Nat) :
  (ptsT t = none → CallOK Try.prog 0 60 [.int .i64 t, .string s] H n (.ret (.tuple #[.slice (some ⟨n, 0, none⟩) 1 1, .bool true]) (H.set n (some (.cells [.string s, .bool false] 110))) (n + 1) [])) ∧
  ((ptsT t).isSome = true → (outT t (bs s)).isSome = true → CallOK Try.prog 0 60 [.int .i64 t, .string s] H n (.ret (.tuple #[.slice (some ⟨n, 0, none⟩) (outP t (bs s)).length U, .bool (outR t (bs s)).isEmpty]) (H.set n (some (.cells ((outP t (bs s)).flatMap pc) 110))) (n + 1) [])) ∧
  ((ptsT t).isSome = true → (outT t (bs s)).isSome = false → CallOK Try.prog 0 60 [.int .i64 t, .string s] H n (.ret (.tuple #[.slice none 0 0, .bool false]) H n [])) := by
 refine ⟨fun h => ?_, fun h1 h2 => ?_, fun h1 h2 => ?_⟩
 ·obtain ⟨r, hF, H', m, wr, b, rfl, hb, hJ⟩ := zWa t (ptsT_none h) s
  exact zCw (fun n => .tuple #[.slice (some ⟨n, 0, none⟩) 1 1, .bool true]) hF rfl hb hJ rfl (fun n => .tuple _ _ (.cons _ _ _ _ (.sl _ _ _ _ _ (zIg _ _)) (.cons _ _ _ _ (.bool _) .nil))) H n
 ·obtain ⟨ps, hp⟩ := Option.isSome_iff_exists.1 h1
  obtain ⟨p1, p2, p3⟩ := zKj hp
  obtain ⟨⟨out, rest⟩, ho⟩ := Option.isSome_iff_exists.1 h2
  have hc : cuts ps (bs s) = some (out, rest) := by unfold outT at ho; rw [hp] at ho; exact ho
  have e1 : outP t (bs s) = out := by unfold outP; rw [ho]
  have e2 : outR t (bs s) = rest := by unfold outR; rw [ho]
  obtain ⟨r, hF, H', m, wr, ⟨out', rest', b, q1, rfl, q3, q4⟩ | ⟨q1, _⟩⟩ := zUk t ps p1 p2 p3 s hs
  ·rw [hc] at q1; cases q1
   rw [e1, e2]
   exact zCw (fun n => .tuple #[.slice (some ⟨n, 0, none⟩) out.length U, .bool rest.isEmpty]) hF rfl q3 q4 (zAa pc zCl _) (fun n => .tuple _ _ (.cons _ _ _ _ (.sl _ _ _ _ _ (zIg _ _)) (.cons _ _ _ _ (.bool _) .nil))) H n
  ·rw [hc] at q1; cases q1
 ·obtain ⟨ps, hp⟩ := Option.isSome_iff_exists.1 h1
  obtain ⟨p1, p2, p3⟩ := zKj hp
  have hc : cuts ps (bs s) = none := by unfold outT at h2; rw [hp] at h2; simpa using h2
  obtain ⟨r, hF, H', m, wr, ⟨out', rest', b, q1, _⟩ | ⟨_, rfl⟩⟩ := zUk t ps p1 p2 p3 s hs
  ·rw [hc] at q1; cases q1
  ·exact zBa hF rfl rfl H n
def zNa : Ct Try.prog 0 where
 f := 60
 res l H n := match l with
  | [.int .i64 t, .string s] => bif shortB s then (bif (ptsT t).isSome then (bif (outT t (bs s)).isSome then .ret (.tuple #[.slice (some ⟨n, 0, none⟩) (outP t (bs s)).length U, .bool (outR t (bs s)).isEmpty]) (H.set n (some (.cells ((outP t (bs s)).flatMap pc) 110))) (n + 1) [] else .ret (.tuple #[.slice none 0 0, .bool false]) H n [])
    else .ret (.tuple #[.slice (some ⟨n, 0, none⟩) 1 1, .bool true]) (H.set n (some (.cells [.string s, .bool false] 110))) (n + 1) []) else .bad "long" []
  | _ => .bad "arguments" []
 ok l H n := by
  split
  ·rename_i t s
   cases hs : shortB s with
   | false => trivial
   | true =>
    obtain ⟨c1, c2, c3⟩ := zOr t s (zFp hs) H n
    cases h1 : (ptsT t).isSome with
    | false => exact c1 (by simpa using h1)
    | true =>
     cases h2 : (outT t (bs s)).isSome with
     | true => exact c2 h1 h2
     | false => exact c3 h1 h2
  ·trivial
 ck l H n K := match l with
  | [.int .i64 t, .string s] => shortB s = true ∧ brK (ptsT t).isSome (brK (outT t (bs s)).isSome (K (.ret (.tuple #[.slice (some ⟨n, 0, none⟩) (outP t (bs s)).length U, .bool (outR t (bs s)).isEmpty]) (H.set n (some (.cells ((outP t (bs s)).flatMap pc) 110))) (n + 1) [])) (K (.ret (.tuple #[.slice none 0 0, .bool false]) H n [])))
    (K (.ret (.tuple #[.slice (some ⟨n, 0, none⟩) 1 1, .bool true]) (H.set n (some (.cells [.string s, .bool false] 110))) (n + 1) []))
  | _ => False
 imp l H n K h := by
  split at h
  ·rename_i t s
   obtain ⟨h0, h⟩ := h
   simp only [h0, cond_true]
   cases h1 : (ptsT t).isSome with
   | false => rw [h1] at h; exact h
   | true =>
    rw [h1] at h
    cases h2 : (outT t (bs s)).isSome with
    | true => rw [h2] at h; exact h
    | false => rw [h2] at h; exact h
  ·exact h.elim
def fitsD (t : Int) (l : Bs) : Bool := bif (ptsT t).isSome then (outT t l).isSome && (outR t l).isEmpty else true
def checkD (t : Int) (l : Bs) : Int := if t < 0 ∨ 65535 < t then 5 else if 65535 < l.length then 3 else if fitsD t l then 0 else 4
noncomputable def tbE2 : Tb Try.prog 0 := tbOf mixed [zNa]
theorem check_fn (t : Int) (s : ByteArray) (hs : (bs s).length ≤ 1000000000) : ∃ r, FnS Try.prog 0 34 [.int .i64 t, .string s] .e 0 r ∧ ∃ H m wr, r = .ret (.int .i64 (checkD t (bs s))) H m wr := by
 have hsB : shortB s = true := by unfold shortB; rw [zAd]; exact Nat.ble_eq_true_of_le hs
 refine zBm mixed tbE2 [] Try.func34 (c := bodyOf Try.f34) (by kernel_rfl) ?_
 unfold checkD fitsD
 refine ifK (fun h1 => ?_) (fun h1 => ?_)
 ·rw [if_pos (.inl (of_decide_eq_true h1))]; exact ⟨_, _, _, rfl⟩
 have h1 := of_decide_eq_false h1
 refine ifK (fun h2 => ?_) (fun h2 => ?_)
 ·rw [if_pos (.inr (of_decide_eq_true h2))]; exact ⟨_, _, _, rfl⟩
 have h2 := of_decide_eq_false h2
 rw [if_neg (by omega)]
 refine ifK (fun h3 => ?_) (fun h3 => ?_)
 ·have h3 := of_decide_eq_true h3
  rw [zAd] at h3
  rw [if_pos (by omega)]; exact ⟨_, _, _, rfl⟩
 have h3 := of_decide_eq_false h3
 rw [zAd] at h3
 rw [if_neg (by omega)]
 refine And.intro hsB ?_
 refine ifK (fun h4 => ?_) (fun h4 => ?_)
 ·rw [h4]
  refine ifK (fun h5 => ?_) (fun h5 => ?_)
  ·rw [h5]
   refine ifK (fun h6 => ?_) (fun h6 => ?_)
   ·rw [show (outR t (bs s)).isEmpty = false by simpa using h6]; exact ⟨_, _, _, rfl⟩
   ·rw [show (outR t (bs s)).isEmpty = true by simpa using h6]; exact ⟨_, _, _, rfl⟩
  ·rw [h5]; exact ⟨_, _, _, rfl⟩
 ·rw [h4]; exact ⟨_, _, _, rfl⟩
def Ct.intStr (f : FuncId) (out : Int → ByteArray → Value) (hp : ∀ t s, plainV 8 (out t s) = true) (ok : ∀ t s, (bs s).length ≤ 1000000000 → ∃ H m wr, FnS Try.prog 0 f [.int .i64 t, .string s] .e 0 (.ret (out t s) H m wr)) : Ct Try.prog 0 where
 f := f
 res l H n := match l with | [.int .i64 t, .string s] => bif shortB s then .ret (out t s) H n [] else .bad "long" [] | _ => .bad "arguments" []
 ok l H n := by
  split
  ·rename_i t s
   cases hs : shortB s with
   | false => trivial
   | true => obtain ⟨_, _, _, h⟩ := ok t s (zFp hs); exact zBa h rfl (hp t s) H n
  ·trivial
 ck l H n K := match l with | [.int .i64 t, .string s] => shortB s = true ∧ K (.ret (out t s) H n []) | _ => False
 imp l H n K h := by
  split at h
  ·obtain ⟨h1, h2⟩ := h
   simp only [h1, cond_true]; exact h2
  ·exact h.elim
def zHs : Ct Try.prog 0 := Ct.intStr 34 (fun t s => .int .i64 (checkD t (bs s))) (fun _ _ => rfl) (fun t s hs => by
 obtain ⟨r, h, H, m, wr, rfl⟩ := check_fn t s hs
 exact ⟨H, m, wr, h⟩)
end Go.Proofs.Ytmpaeabkdhjamaa
namespace Go.Proofs.Ytmpaeabkdhjamaa
open Go Go.RowKit
noncomputable def tbE3 : Tb Try.prog 0 := tbOf mixed [zNa, zHs, zTb]
def lowP (p : Bs × Bool) : Bs := if p.2 then lower p.1 else p.1
theorem bs_cat (s t : ByteArray) : bs (catS s t) = bs s ++ bs t := by simp [bs, catS]
theorem zRa (l : Bs) : bs ⟨l.toArray⟩ = l := by simp [bs]
theorem zKf (l : Bs) : (lower l).length = l.length := by simp [lower]
theorem lowP_len (p : Bs × Bool) : (lowP p).length = p.1.length := by unfold lowP; split <;> simp [zKf]
theorem zTa {s t : ByteArray} (h : (bs s).length + (bs t).length ≤ 9000000000000000000) : catOk s t = true := by
 unfold catOk
 rw [zAd, zAd]; exact Nat.ble_eq_true_of_le (by omega)
theorem zBq {s : ByteArray} (h : (bs s).length ≤ 1000000000) : shortB s = true := by unfold shortB; rw [zAd]; exact Nat.ble_eq_true_of_le h
def sumL (ps : List (Bs × Bool)) : Nat := (ps.flatMap fun p => p.1).length
theorem zOd (ps : List (Bs × Bool)) (i : Nat) (h : i < ps.length) : (ps[i].1).length ≤ sumL ps := by
 unfold sumL
 have : ps[i] ∈ ps := List.getElem_mem h
 revert this
 generalize ps[i] = p
 intro hm
 induction ps with
 | nil => cases hm
 | cons q r ih =>
  rw [List.flatMap_cons, List.length_append]
  rcases List.mem_cons.1 hm with e | e
  ·rw [e]; omega
  ·by_cases hr : r = []
   ·subst hr; cases e
   ·have : ∀ (l : List (Bs × Bool)), p ∈ l → p.1.length ≤ (l.flatMap fun p => p.1).length := by
     intro l hl
     induction l with
     | nil => cases hl
     | cons x y ihy =>
      rw [List.flatMap_cons, List.length_append]
      rcases List.mem_cons.1 hl with e2 | e2
      ·rw [e2]; omega
      ·have := ihy e2; omega
    have := this r e; omega
theorem zPm (ps : List (Bs × Bool)) (i : Nat) (h : i < ps.length) : (ps.take (i + 1)).flatMap lowP = (ps.take i).flatMap lowP ++ lowP ps[i] := by
 rw [List.take_succ_eq_append_getElem h, List.flatMap_append]; simp only [List.flatMap_cons, List.flatMap_nil, List.append_nil]
theorem low_sum (ps : List (Bs × Bool)) (i : Nat) : ((ps.take i).flatMap lowP).length ≤ sumL ps := by
 unfold sumL
 induction ps generalizing i with
 | nil => simp
 | cons p r ih =>
  cases i with
  | zero => simp
  | succ i =>
   have := ih i
   simp only [List.take_succ_cons, List.flatMap_cons, List.length_append, lowP_len]; omega
theorem zQj (s : ByteArray) : Value.string s = str (bs s) := by simp [str, bs]
def lwS (ps : List (Bs × Bool)) (c : Nat) (x : Nat × ByteArray) (f : Nat → Option Value) : Fs :=
 ⟨slots 7 [(7, .string x.2), (19, .slice (some ⟨0, 0, none⟩) ps.length c), (20, .int .i64 ps.length), (21, .int .i64 x.1)] f, heap 1 [(0, .cells (ps.flatMap pc) 110)], 1, [], []⟩
theorem zMa (ps : List (Bs × Bool)) (c : Nat) (hl : ps.length < 1000) (hs : sumL ps ≤ 1000000000) {s0 : Fs} {K : Ex → Fs → Prop} (h0 : ∃ f, RcM Try.prog 0 0 (2 + (Try.f64.ntmps - 2)) none s0 (lwS ps c (0, ⟨#[]⟩) f))
  (hK : ∀ f, K (.exit 0) ⟨slots 7 [(7, str (ps.flatMap lowP))] f, heap 0 [], 0, [], []⟩) : LW Try.prog 0 0 (2 + (Try.f64.ntmps - 2)) none (loopAt Try.f64 0) s0 K := by
 refine zBs (lwS ps c) (fun x => ps.length - x.1) (fun x => x.1 ≤ ps.length ∧ bs x.2 = (ps.take x.1).flatMap lowP) (0, ⟨#[]⟩) ⟨Nat.zero_le _, rfl⟩ h0 ?_
 rintro ⟨i, o⟩ f ⟨hi, ho⟩
 have hi : i ≤ ps.length := hi
 have ho : bs o = (ps.take i).flatMap lowP := ho
 refine zAn tbE3 [0] 0 _ none mixed _ _ _ ?_
 refine ifK (fun h1 => ?_) (fun h1 => ?_)
 ·have h1 : i < ps.length := by have := of_decide_eq_true h1; omega
  have hsum := zOd ps i h1
  have hol : (bs o).length ≤ sumL ps := by rw [ho]; exact low_sum ps i
  refine ifK (fun _ => ?_) (fun h2 => absurd h2 (by simp [inI]; omega))
  have hfl := zHu pc 2 zHi ps i h1
  refine Exists.intro ⟨ps[i].1.toArray⟩ (Exists.intro ps[i].2 (And.intro (by rw [Int.toNat_natCast, Nat.zero_add]; exact hfl) ?_))
  refine ifK (fun h3 => ?_) (fun h3 => ?_)
  ·refine And.intro (zBq (by rw [zRa]; omega)) ?_
   refine And.intro (zTa (by rw [zRa (lower _), zKf, zRa ps[i].1]; have e9 : (bs (i, o).2).length = (bs o).length := rfl; omega)) ?_
   refine ⟨(i + 1, catS o ⟨(lower (bs ⟨ps[i].1.toArray⟩)).toArray⟩), ⟨h1, ?_⟩, ?_, ?_⟩
   ·show bs (catS _ _) = _
    rw [bs_cat, zRa (lower _), zRa ps[i].1, ho]; show _ = (ps.take (i + 1)).flatMap lowP; rw [zPm ps i h1]
    unfold lowP; rw [if_pos h3]
   ·show ps.length - (i + 1) < ps.length - i; omega
   ·exact rcq [0] ⟨⟨_, rfl, .string _⟩, ⟨_, rfl, .sl _ _ _ _ _ rfl⟩, ⟨_, rfl, .int _ _⟩, zAe rfl (by rw [wrapN (by omega) (by omega)]; omega), trivial⟩ ⟨bpo (zAa _ zCl ps), trivial⟩ .nil
  ·refine And.intro (zTa (by rw [zRa ps[i].1]; have e9 : (bs (i, o).2).length = (bs o).length := rfl; omega)) ?_
   refine ⟨(i + 1, catS o ⟨ps[i].1.toArray⟩), ⟨h1, ?_⟩, ?_, ?_⟩
   ·show bs (catS _ _) = _
    rw [bs_cat, zRa ps[i].1, ho]; show _ = (ps.take (i + 1)).flatMap lowP; rw [zPm ps i h1]
    unfold lowP; rw [h3]; rfl
   ·show ps.length - (i + 1) < ps.length - i; omega
   ·exact rcq [0] ⟨⟨_, rfl, .string _⟩, ⟨_, rfl, .sl _ _ _ _ _ rfl⟩, ⟨_, rfl, .int _ _⟩, zAe rfl (by rw [wrapN (by omega) (by omega)]; omega), trivial⟩ ⟨bpo (zAa _ zCl ps), trivial⟩ .nil
 ·have h1 : ¬ i < ps.length := by have := of_decide_eq_false h1; omega
  have hh : Value.string o = str (ps.flatMap lowP) := by rw [zQj, ho, List.take_of_length_le (by omega)]
  refine And.intro rfl (zAi (rcq [] (d := 7) (d2 := 0) (lv := [(7, str (ps.flatMap lowP))]) (bs := []) (W := []) (m := 0) (df := []) ⟨⟨_, rfl, ?_⟩, trivial⟩ trivial .nil) hK)
  rw [← hh]; exact .string _
def lowerD (t : Int) (l : Bs) : Bs := bif (ptsT t).isSome then (bif (outT t l).isSome && (outR t l).isEmpty then (outP t l).flatMap lowP else l) else l
theorem zIy : ∀ (ps : List Pt) (l : Bs) (o : List (Bs × Bool)) (r : Bs), cuts ps l = some (o, r) → o.length = ps.length ∧ (o.flatMap fun p => p.1) ++ r = l
 | [], l, o, r, h => by simp only [cuts, Option.some.injEq, Prod.mk.injEq] at h; obtain ⟨rfl, rfl⟩ := h; simp
 | p :: ps, l, o, r, h => by
  simp only [cuts] at h
  cases hc : p.cut l with
  | none => rw [hc] at h; cases h
  | some n =>
   rw [hc] at h
   simp only [] at h
   obtain ⟨⟨o', r'⟩, h1, h2⟩ := Option.map_eq_some_iff.1 h
   simp only [Prod.mk.injEq] at h2
   obtain ⟨rfl, rfl⟩ := h2
   obtain ⟨e1, e2⟩ := zIy ps _ _ _ h1
   refine ⟨by simp [e1], ?_⟩
   rw [List.flatMap_cons, List.append_assoc, e2]; simp
theorem outP_sum {t : Int} {l : Bs} (h1 : (ptsT t).isSome = true) (h2 : (outT t l).isSome = true) : (outP t l).length < 1000 ∧ sumL (outP t l) ≤ l.length := by
 obtain ⟨ps, hp⟩ := Option.isSome_iff_exists.1 h1
 obtain ⟨⟨o, r⟩, ho⟩ := Option.isSome_iff_exists.1 h2
 have hc : cuts ps l = some (o, r) := by unfold outT at ho; rw [hp] at ho; exact ho
 have e1 : outP t l = o := by unfold outP; rw [ho]
 obtain ⟨q1, q2⟩ := zIy ps l o r hc
 have := (zKj hp).2.1
 rw [e1]
 refine ⟨by omega, ?_⟩
 unfold sumL; rw [← q2]; simp
theorem lower_fn (t : Int) (s : ByteArray) (hs : (bs s).length ≤ 1000000000) : ∃ r, FnS Try.prog 0 64 [.int .i64 t, .string s] .e 0 r ∧ ∃ H m wr, r = .ret (str (lowerD t (bs s))) H m wr := by
 refine zBm mixed tbE3 [0] Try.func64 (c := bodyOf Try.f64) (by kernel_rfl) ?_
 unfold lowerD
 refine And.intro (zBq hs) ?_
 refine ifK (fun h1 => ?_) (fun h1 => ?_)
 ·rw [h1]
  refine ifK (fun h2 => ?_) (fun h2 => ?_)
  ·rw [h2]
   obtain ⟨o1, o2⟩ := outP_sum h1 h2
   refine ifK (fun h3 => ?_) (fun h3 => ?_)
   ·rw [show (outR t (bs s)).isEmpty = false by simpa using h3]
    exact ⟨_, _, _, by simp only [Bool.and_false, cond_true, cond_false]; rw [← zQj]; rfl⟩
   ·rw [show (outR t (bs s)).isEmpty = true by simpa using h3]
    refine zMa (outP t (bs s)) U o1 (by omega) (rcq [0] ⟨⟨_, rfl, .string _⟩, ⟨_, rfl, .sl _ _ _ _ _ rfl⟩, ⟨_, rfl, .int _ _⟩, ⟨_, rfl, .int _ _⟩, trivial⟩ ⟨bpo (zAa _ zCl _), trivial⟩ .nil) (fun f => ?_)
    exact ⟨_, _, _, rfl⟩
  ·rw [h2]
   exact ⟨_, _, _, by simp only [Bool.false_and, cond_true, cond_false]; rw [← zQj]; rfl⟩
 ·rw [h1]
  have e : [(bs s, false)].flatMap lowP = bs s := by simp [lowP]
  refine zMa [(bs s, false)] 1 (by simp) (by simp [sumL]; omega) (rcq [0] ⟨⟨_, rfl, .string _⟩, ⟨_, rfl, .sl _ _ _ _ _ rfl⟩, ⟨_, rfl, .int _ _⟩, ⟨_, rfl, .int _ _⟩, trivial⟩ ⟨⟨by decide, _, rfl, zBb (by rw [zQj s]; rfl) rfl⟩, trivial⟩ .nil) (fun f => ?_)
  exact ⟨_, _, _, by rw [e]; rfl⟩
def zVb : Ct Try.prog 0 := Ct.intStr 64 (fun t s => str (lowerD t (bs s))) (fun _ _ => rfl) (fun t s hs => by
 obtain ⟨r, h, H, m, wr, rfl⟩ := lower_fn t s hs
 exact ⟨H, m, wr, h⟩)
end Go.Proofs.Ytmpaeabkdhjamaa
namespace Go.Proofs.Ytmpaeabkdhjamaa
open Go Go.RowKit
theorem zCi {t : Int} {l : Bs} (h : checkD t l = 0) : 0 ≤ t ∧ t ≤ 65535 ∧ l.length ≤ 65535 ∧ fitsD t l = true := by
 unfold checkD at h
 split at h
 ·cases h
 ·split at h
  ·cases h
  ·split at h
   ·rename_i h1 h2 h3
    exact ⟨by omega, by omega, by omega, h3⟩
   ·cases h
theorem zNj {t : Int} {ps : List Pt} {l : Bs} (hp : ptsT t = some ps) (h : fitsD t l = true) : ∃ o, cuts ps l = some (o, []) ∧ outT t l = some (o, []) := by
 unfold fitsD at h
 rw [hp] at h
 simp only [Option.isSome_some, cond_true, Bool.and_eq_true] at h
 obtain ⟨⟨o, r⟩, ho⟩ := Option.isSome_iff_exists.1 h.1
 have hr : r = [] := by
  have := h.2
  unfold outR at this
  rw [ho] at this
  simpa using this
 subst hr
 refine ⟨o, ?_, ho⟩
 unfold outT at ho
 rw [hp] at ho; exact ho
end Go.Proofs.Ytmpaeabkdhjamaa
namespace Go.Proofs.Ytmpaeabkdhjamaa
open Go Go.RowKit
noncomputable def tbF1 : Tb Try.prog 0 := tbOf mixed [zGz]
def formL (t : Int) : List Int := if t = 1 then [4] else if t = 28 then [16] else if t = 2 then [-1] else if t = 5 then [-1] else if t = 12 then [-1] else if t = 15 then [2, -1] else if t = 6 then [-1, -1, 20] else if t = 16 then [-2] else [-3]
def intV (i : Int) : Value := .int .i64 i
theorem zBw (l : List Int) : plainL (l.map intV) = true := by simp [plainL, plainV, intV]
theorem form_fn (t : Int) : ∃ r, FnS Try.prog 0 66 [.int .i64 t] .e 0 r ∧ ∃ H m wr, r = .ret (.slice (some ⟨0, 0, none⟩) (formL t).length (formL t).length) H m wr ∧ H.get 0 = some (.cells ((formL t).map intV) 3) := by
 refine zBm mixed tbF1 [] Try.func66 (c := bodyOf Try.f66) (by kernel_rfl) ?_
 unfold formL
 refine ifK (fun h => ?_) (fun h => ?_)
 ·rw [if_pos (by simpa using h)]; exact ⟨_, _, _, rfl, rfl⟩
 rw [if_neg (by simpa using h)]
 refine ifK (fun h => ?_) (fun h => ?_)
 ·rw [if_pos (by simpa using h)]; exact ⟨_, _, _, rfl, rfl⟩
 rw [if_neg (by simpa using h)]
 refine ifK (fun h => ?_) (fun h => ?_)
 ·rw [if_pos (by simpa using h)]; exact ⟨_, _, _, rfl, rfl⟩
 rw [if_neg (by simpa using h)]
 refine ifK (fun h => ?_) (fun h => ?_)
 ·rw [if_pos (by simpa using h)]; exact ⟨_, _, _, rfl, rfl⟩
 rw [if_neg (by simpa using h)]
 refine ifK (fun h => ?_) (fun h => ?_)
 ·rw [if_pos (by simpa using h)]; exact ⟨_, _, _, rfl, rfl⟩
 rw [if_neg (by simpa using h)]
 refine ifK (fun h => ?_) (fun h => ?_)
 ·rw [if_pos (by simpa using h)]; exact ⟨_, _, _, rfl, rfl⟩
 rw [if_neg (by simpa using h)]
 refine ifK (fun h => ?_) (fun h => ?_)
 ·rw [if_pos (by simpa using h)]; exact ⟨_, _, _, rfl, rfl⟩
 rw [if_neg (by simpa using h)]
 refine ifK (fun h => ?_) (fun h => ?_)
 ·rw [if_pos (by simpa using h)]; exact ⟨_, _, _, rfl, rfl⟩
 rw [if_neg (by simpa using h)]
 exact ⟨_, _, _, rfl, rfl⟩
def formOut (t : Int) (H : Tr AObj) (n : Nat) : Res := .ret (.slice (some ⟨n, 0, none⟩) (formL t).length (formL t).length) (H.set n (some (.cells ((formL t).map intV) 3))) (n + 1) []
def ct_form : Ct Try.prog 0 where
 f := 66
 res l H n := match l with | [.int .i64 t] => formOut t H n | _ => .bad "arguments" []
 ok l H n := by
  split
  ·rename_i t
   obtain ⟨r, hF, H', m, wr, rfl, hb⟩ := form_fn t
   exact zCw (fun n => .slice (some ⟨n, 0, none⟩) (formL t).length (formL t).length) hF rfl hb (by decide) (zBw _) (fun n => .sl _ _ _ _ _ (zIg _ _)) H n
  ·trivial
 ck l H n K := match l with | [.int .i64 t] => K (formOut t H n) | _ => False
 imp l H n K h := by
  split at h
  ·exact h
  ·exact h.elim
theorem rtexts_fn (s : ByteArray) (hs : (bs s).length ≤ 1000000000) : ∃ r, FnS Try.prog 0 78 [.string s] .e 0 r ∧ ∃ H m wr, r = .ret (.bool (texts (bs s))) H m wr := by
 refine zBm mixed tbF1 [] Try.func78 (c := bodyOf Try.f78) (by kernel_rfl) ?_
 refine zBs (fun i f => ⟨slots 6 [(0, .string s), (3, .int .i64 (i : Nat))] f, heap 0 [], 0, [], []⟩) (fun i => (bs s).length - i) (fun i => i ≤ (bs s).length + 256 ∧ (i ≤ (bs s).length → txt (bs s) = txt ((bs s).drop i)) ∧ ((bs s).length < i → txt (bs s) = false)) 0 ⟨by omega, fun _ => rfl, fun h => by omega⟩
  (rcq [] ⟨⟨_, rfl, .string _⟩, ⟨_, rfl, .int _ _⟩, trivial⟩ trivial .nil) ?_
 rintro i f ⟨hi, h1, h2⟩
 refine zAn tbF1 [] 0 _ none mixed _ _ _ ?_
 refine ifK (fun h3 => ?_) (fun h3 => ?_)
 ·have h3 : i < (bs s).length := by have := of_decide_eq_true h3; rw [zAd] at this; omega
  have hb := zMu (bs s)[i]
  have hat := zMt s i h3
  have e1 : IntKind.i64.wrap (IntKind.i64.wrap ((i : Int) + 1) + IntKind.i64.wrap ((atS s (i : Int)).toNat : Int)) = ((i + 1 + (bs s)[i].toNat : Nat) : Int) := by
   rw [hat, wrapN (x := (((bs s)[i]).toNat : Int)) (by omega) (by omega), wrapN (x := (i : Int) + 1) (by omega) (by omega), wrapN (by omega) (by omega)]; omega
  refine And.intro (by simp only [inI, zAd]; simp; omega) ?_
  have hstep := txt_at (bs s) i h3
  refine ⟨i + 1 + (bs s)[i].toNat, ⟨by omega, fun h4 => ?_, fun h4 => ?_⟩, by omega, rcq [] ⟨⟨_, rfl, .string _⟩, zAe rfl e1, trivial⟩ trivial .nil⟩
  ·rw [h1 (by omega), hstep, decide_eq_true (by omega), Bool.true_and]
  ·rw [h1 (by omega), hstep, decide_eq_false (by omega), Bool.false_and]
 ·have h3 : ¬ i < (bs s).length := by have := of_decide_eq_false h3; rw [zAd] at this; omega
  refine And.intro rfl (zAi (rcq [] (d := 6) (d2 := 0) (lv := [(0, .string s), (3, .int .i64 (i : Nat))]) (bs := []) (W := []) (m := 0) (df := []) ⟨⟨_, rfl, .string _⟩, ⟨_, rfl, .int _ _⟩, trivial⟩ trivial .nil) (fun f => ?_))
  refine ifK (fun h4 => ?_) (fun h4 => ?_)
  ·have hne : (bs s).isEmpty = false := by
    have : (!(bs s == [])) = true := h4
    cases hb : bs s with
    | nil => rw [hb] at this; cases this
    | cons a l => rfl
   have : texts (bs s) = ((i : Int) == (s.data.size : Int)) := by
    unfold texts
    rw [hne, Bool.not_false, Bool.true_and, zAd]
    by_cases hie : i = (bs s).length
    ·rw [h1 (by omega), List.drop_eq_nil_of_le (by omega), txt_nil, hie]; simp
    ·rw [h2 (by omega)]; symm; simp; omega
   rw [this]; exact ⟨_, _, _, rfl⟩
  ·have : texts (bs s) = false := by
    have : (!(bs s == [])) = false := h4
    cases hb : bs s with
    | nil => rfl
    | cons a l => rw [hb] at this; cases this
   rw [this]; exact ⟨_, _, _, rfl⟩
def ct_rtexts : Ct Try.prog 0 := Ct.strF 78 (fun s => .bool (texts (bs s))) (fun _ => rfl) (fun s hs => by
 obtain ⟨r, h, H, m, wr, rfl⟩ := rtexts_fn s hs
 exact ⟨H, m, wr, h⟩)
def frontI (l : Bs) : Int := match front l with | some k => (k : Int) | none => -1
theorem rfront_fn (s : ByteArray) (hs : (bs s).length ≤ 100000000) : ∃ r, FnS Try.prog 0 83 [.string s] .e 0 r ∧ ∃ H m wr, r = .ret (.int .i64 (frontI (bs s))) H m wr := by
 refine zBm mixed tbF1 [] Try.func83 (c := bodyOf Try.f83) (by kernel_rfl) ?_
 refine zBs (fun i f => ⟨slots 6 [(0, .string s), (3, .int .i64 (i : Nat))] f, heap 0 [], 0, [], []⟩) (fun i => (bs s).length + 300 - i) (fun i => i ≤ (bs s).length + 256 ∧ zpos (bs s) = (zpos ((bs s).drop i)).map (· + i)) 0 ⟨by omega, by simp⟩
  (rcq [] ⟨⟨_, rfl, .string _⟩, ⟨_, rfl, .int _ _⟩, trivial⟩ trivial .nil) ?_
 rintro i f ⟨hi, heq⟩
 refine zAn tbF1 [] 0 _ none mixed _ _ _ ?_
 refine ifK (fun h1 => ?_) (fun h1 => ?_)
 ·have h1 : i < (bs s).length := by have := of_decide_eq_true h1; rw [zAd] at this; omega
  have hb := zMu (bs s)[i]
  have hat := zMt s i h1
  have hstep := zpos_at (bs s) i h1
  refine And.intro (by simp only [inI, zAd]; simp; omega) ?_
  refine ifK (fun h3 => ?_) (fun h3 => ?_)
  ·have h3 : (bs s)[i].toNat ≠ 0 := by rw [hat] at h3; simpa using h3
   rw [if_neg h3] at hstep
   have e1 : IntKind.i64.wrap (IntKind.i64.wrap ((i : Int) + 1) + IntKind.i64.wrap ((atS s (i : Int)).toNat : Int)) = ((i + 1 + (bs s)[i].toNat : Nat) : Int) := by
    rw [hat, wrapN (x := (((bs s)[i]).toNat : Int)) (by omega) (by omega), wrapN (x := (i : Int) + 1) (by omega) (by omega), wrapN (by omega) (by omega)]; omega
   refine And.intro (by simp only [inI, zAd]; simp; omega) ?_
   refine ⟨i + 1 + (bs s)[i].toNat, ⟨by omega, ?_⟩, by omega, rcq [] ⟨⟨_, rfl, .string _⟩, zAe rfl e1, trivial⟩ trivial .nil⟩
   rw [heq, hstep, Option.map_map]
   congr 1
   funext j; simp; omega
  ·have h3 : (bs s)[i].toNat = 0 := by rw [hat] at h3; simpa using h3
   rw [if_pos h3] at hstep
   rw [hstep] at heq
   have hz : zpos (bs s) = some i := by rw [heq]; simp
   refine And.intro rfl (zAi (rcq [] (d := 6) (d2 := 0) (lv := [(0, .string s), (3, .int .i64 (i : Nat))]) (bs := []) (W := []) (m := 0) (df := []) ⟨⟨_, rfl, .string _⟩, ⟨_, rfl, .int _ _⟩, trivial⟩ trivial .nil) (fun f => ?_))
   refine ifK (fun _ => ?_) (fun h4 => absurd h4 (by rw [zAd]; simp; omega))
   have e1 : IntKind.i64.wrap ((i : Int) + 1) = ((i + 1 : Nat) : Int) := by rw [wrapN (by omega) (by omega)]; omega
   have e2 : (IntKind.i64.wrap ((i : Int) + 1)).toNat = i + 1 := by rw [e1]; rfl
   refine And.intro (by rw [e1]; simp only [inLH, zAd]; simp; omega) ?_
   have hsub : bs (subS s (Int.toNat 0) (IntKind.i64.wrap ((i : Int) + 1)).toNat) = (bs s).take (i + 1) := by rw [zOo, e2]; simp
   refine And.intro (zBq (by rw [hsub]; simp; omega)) ?_
   refine ifK (fun h4 => ?_) (fun h4 => ?_)
   ·have h4 : (labels ((bs s).take (i + 1))).2 = 0 := by rw [hsub] at h4; simpa using h4
    have hf : frontI (bs s) = IntKind.i64.wrap ((i : Int) + 1) := by unfold frontI front; rw [hz, e1]; simp [h4]
    rw [hf]; exact ⟨_, _, _, rfl⟩
   ·have h4 : ¬ (labels ((bs s).take (i + 1))).2 = 0 := by rw [hsub] at h4; simpa using h4
    have hf : frontI (bs s) = -1 := by unfold frontI front; rw [hz]; simp [h4]
    rw [hf]; exact ⟨_, _, _, rfl⟩
 ·have h1 : ¬ i < (bs s).length := by have := of_decide_eq_false h1; rw [zAd] at this; omega
  have hf : frontI (bs s) = -1 := by
   unfold frontI front
   rw [heq, List.drop_eq_nil_of_le (by omega), zUp]; rfl
  rw [hf]
  refine And.intro rfl (zAi (rcq [] (d := 6) (d2 := 0) (lv := [(0, .string s), (3, .int .i64 (i : Nat))]) (bs := []) (W := []) (m := 0) (df := []) ⟨⟨_, rfl, .string _⟩, ⟨_, rfl, .int _ _⟩, trivial⟩ trivial .nil) (fun f => ?_))
  refine ifK (fun h4 => absurd h4 (by rw [zAd]; simp; omega)) (fun _ => ?_)
  exact ⟨_, _, _, rfl⟩
def ct_rfront : Ct Try.prog 0 where
 f := 83
 res l H n := match l with | [.string s] => bif s.data.size.ble 100000000 then .ret (.int .i64 (frontI (bs s))) H n [] else .bad "long" [] | _ => .bad "arguments" []
 ok l H n := by
  split
  ·rename_i s
   cases hs : s.data.size.ble 100000000 with
   | false => trivial
   | true =>
    obtain ⟨r, h, H', m, wr, rfl⟩ := rfront_fn s (by rw [← zAd]; exact Nat.le_of_ble_eq_true hs)
    exact zBa h rfl rfl H n
  ·trivial
 ck l H n K := match l with | [.string s] => s.data.size.ble 100000000 = true ∧ brK (front (bs s)).isSome (K (.ret (.int .i64 (frontN (bs s) : Int)) H n [])) (K (.ret (.int .i64 (-1)) H n [])) | _ => False
 imp l H n K h := by
  split at h
  ·rename_i s
   obtain ⟨h1, h2⟩ := h
   simp only [h1, cond_true]
   unfold frontI
   cases hf : front (bs s) with
   | none => rw [hf] at h2; exact h2
   | some k => rw [hf] at h2; simp only [frontN, hf, Option.getD_some] at h2; exact h2
  ·exact h.elim
end Go.Proofs.Ytmpaeabkdhjamaa
namespace Go.Proofs.Ytmpaeabkdhjamaa
open Go Go.RowKit
inductive Pr where
 | nm
 | rest
 | all
 | sz (k : Nat)
def Pr.i : Pr → Int
 | .nm => -1
 | .rest => -2
 | .all => -3
 | .sz k => (k : Int)
def Pr.cut (p : Pr) (l : Bs) : Option Nat :=
 match p with
 | .nm => front l
 | .rest => if texts l then some l.length else none
 | .all => some l.length
 | .sz k => if k ≤ l.length then some k else none
def cutsR : List Pr → Bs → Option (List Bs × Bs)
 | [], l => some ([], l)
 | p :: ps, l => match p.cut l with
  | none => none
  | some n => (cutsR ps (l.drop n)).map fun x => (l.take n :: x.1, x.2)
theorem zLq (ps : List Pr) (i : Nat) (h : i < ps.length) (l : Bs) : cutsR (ps.drop i) l = match ps[i].cut l with
  | none => none
  | some n => (cutsR (ps.drop (i + 1)) (l.drop n)).map fun x => (l.take n :: x.1, x.2) := by
 rw [List.drop_eq_getElem_cons h]; rfl
noncomputable def tbF2 : Tb Try.prog 0 := tbOf mixed [ct_form, ct_rtexts, ct_rfront]
theorem zBy (l : List Bs) : plainL (l.map str) = true := by simp [plainL, plainV, str]
def paS (ps : List Pr) (x : Nat × List Bs × ByteArray) (f : Nat → Option Value) : Fs :=
 match x with
 | (i, acc, s) =>
  match acc with
  | [] => ⟨slots 7 [(1, .string s), (6, .slice (some ⟨0, 0, none⟩) ps.length ps.length), (7, .slice none 0 0), (8, .int .i64 i)] f, heap 1 [(0, .cells ((ps.map Pr.i).map intV) 3)], 1, [], []⟩
  | a :: l => ⟨slots 7 [(1, .string s), (6, .slice (some ⟨0, 0, none⟩) ps.length ps.length), (7, .slice (some ⟨1, 0, none⟩) (l.length + 1) U), (8, .int .i64 i)] f, heap 2 [(0, .cells ((ps.map Pr.i).map intV) 3), (1, .cells ((a :: l).map str) 9)], 2, [], []⟩
def paP (ps : List Pr) (s0 : ByteArray) (r : Res) : Prop := ∃ H m wr,
   (∃ out rest b, cutsR ps (bs s0) = some (out, rest) ∧ r = .ret (.tuple #[.slice (some ⟨b, 0, none⟩) out.length U, .bool rest.isEmpty]) H m wr ∧ H.get b = some (.cells (out.map str) 9) ∧ b < JJ) ∨
   (cutsR ps (bs s0) = none ∧ r = .ret (.tuple #[.slice none 0 0, .bool false]) H m wr)
theorem parts_fn (t : Int) (ps : List Pr) (hps : 0 < ps.length) (hps2 : ps.length < 1000) (ht : formL t = ps.map Pr.i) (s0 : ByteArray) (hs0 : (bs s0).length ≤ 100000000) :
  ∃ r, FnS Try.prog 0 62 [.int .i64 t, .string s0] .e 0 r ∧ paP ps s0 r := by
 refine zBm mixed tbF2 [] Try.func62 (c := bodyOf Try.f62) (by kernel_rfl) ?_
 have hlen : (formL t).length = ps.length := by rw [ht]; simp
 refine zBs (paS ps) (fun x => ps.length - x.1) (fun x => x.1 ≤ ps.length ∧ (bs x.2.2).length ≤ 100000000 ∧ x.2.1.length = x.1 ∧ cutsR ps (bs s0) = (cutsR (ps.drop x.1) (bs x.2.2)).map fun y => (x.2.1 ++ y.1, y.2)) (0, [], s0) ⟨Nat.zero_le _, hs0, rfl, by simp⟩
  (rcq [0] ⟨⟨_, rfl, .string _⟩, ⟨_, rfl, by rw [← hlen]; exact .sl _ _ _ _ _ rfl⟩, ⟨_, rfl, zAc 8 rfl⟩, ⟨_, rfl, .int _ _⟩, trivial⟩ ⟨⟨by decide, _, rfl, by rw [← ht]; exact .same (zBw _)⟩, trivial⟩ .nil) ?_
 rintro ⟨i, acc, s⟩ f ⟨hi, hs, hacc, heq⟩
 have hi : i ≤ ps.length := hi
 have hs : (bs s).length ≤ 100000000 := hs
 have hacc : acc.length = i := hacc
 have heq : cutsR ps (bs s0) = (cutsR (ps.drop i) (bs s)).map fun y => (acc ++ y.1, y.2) := heq
 have hsB : s.data.size.ble 100000000 = true := by rw [zAd]; exact Nat.ble_eq_true_of_le hs
 have hz : s.data.size = (bs s).length := zAd s
 have side : ∀ (h1 : i < ps.length), ((ps.map Pr.i).map intV)[0 + ((i : Nat) : Int).toNat * 1]? = some (.int .i64 ps[i].i) := fun h1 => by
  rw [Int.toNat_natCast, Nat.zero_add, Nat.mul_one]
  simp [h1, intV]
 cases acc with
 | nil =>
  refine zAn tbF2 [0] 0 _ none mixed _ _ _ ?_
  refine ifK (fun h1 => ?_) (fun h1 => ?_)
  ·have h1 : i < ps.length := by have := of_decide_eq_true h1; omega
   have hst := zLq ps i h1 (bs s)
   have hsd := side h1
   refine ifK (fun _ => ?_) (fun h2 => absurd h2 (by simp [inI]; omega))
   cases hp : ps[i] with
   | nm =>
    rw [hp] at hst hsd
    refine Exists.intro (-1 : Int) (And.intro hsd ?_)
    refine And.intro hsB ?_
    refine ifK (fun h3 => ?_) (fun h3 => ?_)
    ·obtain ⟨k, hk⟩ := Option.isSome_iff_exists.1 h3
     have hcut : Pr.nm.cut (bs s) = some k := hk
     have hkn : frontN (bs s) = k := by simp [frontN, hk]
     have hkl := zFx hk
     have hx : ((frontN (bs s) : Nat) : Int) = (k : Nat) := by rw [hkn]
     refine ifK (fun h5 => absurd (of_decide_eq_true h5) (by rw [hkn, zAd]; omega)) (fun _ => ?_)
     refine And.intro (by rw [hx]; simp only [inLH, zAd, Bool.and_eq_true, decide_eq_true_eq] <;> omega) ?_
     refine And.intro (by rw [hx]; simp only [inLH, zAd, Bool.and_eq_true, decide_eq_true_eq] <;> omega) ?_
     refine ⟨(i + 1, [] ++ [(bs s).take (k)], subS s (((frontN (bs s) : Nat) : Int)).toNat ((s.data.size : Int)).toNat), ⟨h1, ?_, ?_, ?_⟩, ?_, ?_⟩
     ·show (bs (subS s _ _)).length ≤ _; rw [zAo s _ _ hx]; simp <;> omega
     ·simp only [List.length_append, hacc]; rfl
     ·show cutsR ps (bs s0) = (cutsR (ps.drop (i + 1)) (bs (subS s _ _))).map _; rw [zAo s _ _ hx, heq, hst, hcut]; simp only [Option.map_map]; exact congrArg (fun g => Option.map g _) (funext fun y => by simp)
     ·show ps.length - (i + 1) < ps.length - i; omega
     ·refine rcq [0, 2] ⟨⟨_, rfl, .string _⟩, ⟨_, rfl, .sl _ _ _ _ _ rfl⟩, ⟨_, rfl, ?_⟩, zAe rfl (by rw [wrapN (by omega) (by omega)]; omega), trivial⟩ ⟨bpo (zBw _), ⟨by decide, _, rfl, ?_⟩, trivial⟩ .nil
      ·exact .sl _ _ _ _ _ rfl
      ·refine zBb ?_ (zBy _)
       show [Value.string (subS s (Int.toNat 0) (((frontN (bs s) : Nat) : Int)).toNat)] = _
       rw [zCa s _ _ hx]; rfl
    ·have hcut : Pr.nm.cut (bs s) = none := by have : (front (bs s)).isSome = false := h3; simpa [Pr.cut] using this
     have hn : cutsR ps (bs s0) = none := by rw [heq, hst, hcut]; rfl
     refine And.intro rfl (zAi (rcq [] (d := 7) (d2 := 0) (lv := [(4, .slice none 0 0), (5, .bool false)]) (bs := []) (W := []) (m := 0) (df := []) ⟨⟨_, rfl, zAc 8 rfl⟩, ⟨_, rfl, zAc 8 rfl⟩, trivial⟩ trivial .nil) (fun f => ?_))
     exact ⟨_, _, _, .inr ⟨hn, rfl⟩⟩
   | rest =>
    rw [hp] at hst hsd
    refine Exists.intro (-2 : Int) (And.intro hsd ?_)
    refine And.intro (zBq (by omega)) ?_
    refine ifK (fun h3 => ?_) (fun h3 => ?_)
    ·have hcut : Pr.rest.cut (bs s) = some (bs s).length := by have h3 : texts (bs s) = true := h3; simp [Pr.cut, h3]
     have hx : (s.data.size : Int) = ((bs s).length : Nat) := by rw [zAd]
     refine ifK (fun h5 => absurd h5 (by simp)) (fun _ => ?_)
     refine And.intro (by rw [hx]; simp only [inLH, zAd, Bool.and_eq_true, decide_eq_true_eq] <;> omega) ?_
     refine And.intro (by rw [hx]; simp only [inLH, zAd, Bool.and_eq_true, decide_eq_true_eq] <;> omega) ?_
     refine ⟨(i + 1, [] ++ [(bs s).take ((bs s).length)], subS s ((s.data.size : Int)).toNat ((s.data.size : Int)).toNat), ⟨h1, ?_, ?_, ?_⟩, ?_, ?_⟩
     ·show (bs (subS s _ _)).length ≤ _; rw [zAo s _ _ hx]; simp <;> omega
     ·simp only [List.length_append, hacc]; rfl
     ·show cutsR ps (bs s0) = (cutsR (ps.drop (i + 1)) (bs (subS s _ _))).map _; rw [zAo s _ _ hx, heq, hst, hcut]; simp only [Option.map_map]; exact congrArg (fun g => Option.map g _) (funext fun y => by simp)
     ·show ps.length - (i + 1) < ps.length - i; omega
     ·refine rcq [0, 2] ⟨⟨_, rfl, .string _⟩, ⟨_, rfl, .sl _ _ _ _ _ rfl⟩, ⟨_, rfl, ?_⟩, zAe rfl (by rw [wrapN (by omega) (by omega)]; omega), trivial⟩ ⟨bpo (zBw _), ⟨by decide, _, rfl, ?_⟩, trivial⟩ .nil
      ·exact .sl _ _ _ _ _ rfl
      ·refine zBb ?_ (zBy _)
       show [Value.string (subS s (Int.toNat 0) ((s.data.size : Int)).toNat)] = _
       rw [zCa s _ _ hx]; rfl
    ·have hcut : Pr.rest.cut (bs s) = none := by have h3 : texts (bs s) = false := h3; simp [Pr.cut, h3]
     have hn : cutsR ps (bs s0) = none := by rw [heq, hst, hcut]; rfl
     refine And.intro rfl (zAi (rcq [] (d := 7) (d2 := 0) (lv := [(4, .slice none 0 0), (5, .bool false)]) (bs := []) (W := []) (m := 0) (df := []) ⟨⟨_, rfl, zAc 8 rfl⟩, ⟨_, rfl, zAc 8 rfl⟩, trivial⟩ trivial .nil) (fun f => ?_))
     exact ⟨_, _, _, .inr ⟨hn, rfl⟩⟩
   | all =>
    rw [hp] at hst hsd
    refine Exists.intro (-3 : Int) (And.intro hsd ?_)
    have hcut : Pr.all.cut (bs s) = some (bs s).length := rfl
    have hx : (s.data.size : Int) = ((bs s).length : Nat) := by rw [zAd]
    refine ifK (fun h5 => absurd h5 (by simp)) (fun _ => ?_)
    refine And.intro (by rw [hx]; simp only [inLH, zAd, Bool.and_eq_true, decide_eq_true_eq] <;> omega) ?_
    refine And.intro (by rw [hx]; simp only [inLH, zAd, Bool.and_eq_true, decide_eq_true_eq] <;> omega) ?_
    refine ⟨(i + 1, [] ++ [(bs s).take ((bs s).length)], subS s ((s.data.size : Int)).toNat ((s.data.size : Int)).toNat), ⟨h1, ?_, ?_, ?_⟩, ?_, ?_⟩
    ·show (bs (subS s _ _)).length ≤ _; rw [zAo s _ _ hx]; simp <;> omega
    ·simp only [List.length_append, hacc]; rfl
    ·show cutsR ps (bs s0) = (cutsR (ps.drop (i + 1)) (bs (subS s _ _))).map _; rw [zAo s _ _ hx, heq, hst, hcut]; simp only [Option.map_map]; exact congrArg (fun g => Option.map g _) (funext fun y => by simp)
    ·show ps.length - (i + 1) < ps.length - i; omega
    ·refine rcq [0, 2] ⟨⟨_, rfl, .string _⟩, ⟨_, rfl, .sl _ _ _ _ _ rfl⟩, ⟨_, rfl, ?_⟩, zAe rfl (by rw [wrapN (by omega) (by omega)]; omega), trivial⟩ ⟨bpo (zBw _), ⟨by decide, _, rfl, ?_⟩, trivial⟩ .nil
     ·exact .sl _ _ _ _ _ rfl
     ·refine zBb ?_ (zBy _)
      show [Value.string (subS s (Int.toNat 0) ((s.data.size : Int)).toNat)] = _
      rw [zCa s _ _ hx]; rfl
   | sz k =>
    rw [hp] at hst hsd
    refine Exists.intro (k : Int) (And.intro hsd ?_)
    refine ifK (fun h3 => ?_) (fun h3 => ?_)
    ·have h3 : ¬ k ≤ (bs s).length := by have := of_decide_eq_true h3; rw [zAd] at this; omega
     have hcut : (Pr.sz k).cut (bs s) = none := by simp [Pr.cut, h3]
     have hn : cutsR ps (bs s0) = none := by rw [heq, hst, hcut]; rfl
     refine And.intro rfl (zAi (rcq [] (d := 7) (d2 := 0) (lv := [(4, .slice none 0 0), (5, .bool false)]) (bs := []) (W := []) (m := 0) (df := []) ⟨⟨_, rfl, zAc 8 rfl⟩, ⟨_, rfl, zAc 8 rfl⟩, trivial⟩ trivial .nil) (fun f => ?_))
     exact ⟨_, _, _, .inr ⟨hn, rfl⟩⟩
    ·have h3 : k ≤ (bs s).length := by have := of_decide_eq_false h3; rw [zAd] at this; omega
     have hcut : (Pr.sz k).cut (bs s) = some k := by simp [Pr.cut, h3]
     have hx : (k : Int) = (k : Nat) := rfl
     refine And.intro (by rw [hx]; simp only [inLH, zAd, Bool.and_eq_true, decide_eq_true_eq] <;> omega) ?_
     refine And.intro (by rw [hx]; simp only [inLH, zAd, Bool.and_eq_true, decide_eq_true_eq] <;> omega) ?_
     refine ⟨(i + 1, [] ++ [(bs s).take (k)], subS s ((k : Int)).toNat ((s.data.size : Int)).toNat), ⟨h1, ?_, ?_, ?_⟩, ?_, ?_⟩
     ·show (bs (subS s _ _)).length ≤ _; rw [zAo s _ _ hx]; simp <;> omega
     ·simp only [List.length_append, hacc]; rfl
     ·show cutsR ps (bs s0) = (cutsR (ps.drop (i + 1)) (bs (subS s _ _))).map _; rw [zAo s _ _ hx, heq, hst, hcut]; simp only [Option.map_map]; exact congrArg (fun g => Option.map g _) (funext fun y => by simp)
     ·show ps.length - (i + 1) < ps.length - i; omega
     ·refine rcq [0, 2] ⟨⟨_, rfl, .string _⟩, ⟨_, rfl, .sl _ _ _ _ _ rfl⟩, ⟨_, rfl, ?_⟩, zAe rfl (by rw [wrapN (by omega) (by omega)]; omega), trivial⟩ ⟨bpo (zBw _), ⟨by decide, _, rfl, ?_⟩, trivial⟩ .nil
      ·exact .sl _ _ _ _ _ rfl
      ·refine zBb ?_ (zBy _)
       show [Value.string (subS s (Int.toNat 0) ((k : Int)).toNat)] = _
       rw [zCa s _ _ hx]; rfl
  ·have h1 : ¬ i < ps.length := by have := of_decide_eq_false h1; omega
   exact absurd hacc (by simp; omega)
 | cons a l =>
  refine zAn tbF2 [0, 1] 0 _ none mixed _ _ _ ?_
  refine ifK (fun h1 => ?_) (fun h1 => ?_)
  ·have h1 : i < ps.length := by have := of_decide_eq_true h1; omega
   have hst := zLq ps i h1 (bs s)
   have hsd := side h1
   refine ifK (fun _ => ?_) (fun h2 => absurd h2 (by simp [inI]; omega))
   cases hp : ps[i] with
   | nm =>
    rw [hp] at hst hsd
    refine Exists.intro (-1 : Int) (And.intro hsd ?_)
    refine And.intro hsB ?_
    refine ifK (fun h3 => ?_) (fun h3 => ?_)
    ·obtain ⟨k, hk⟩ := Option.isSome_iff_exists.1 h3
     have hcut : Pr.nm.cut (bs s) = some k := hk
     have hkn : frontN (bs s) = k := by simp [frontN, hk]
     have hkl := zFx hk
     have hx : ((frontN (bs s) : Nat) : Int) = (k : Nat) := by rw [hkn]
     refine ifK (fun h5 => absurd (of_decide_eq_true h5) (by rw [hkn, zAd]; omega)) (fun _ => ?_)
     refine And.intro (by rw [hx]; simp only [inLH, zAd, Bool.and_eq_true, decide_eq_true_eq] <;> omega) ?_
     refine And.intro (by have hT : (Try.prog.types[9]).size = 1 := (by kernel_rfl); have hB : (Try.prog.types[9]).bytes = 16 := (by kernel_rfl); have hl : l.length + 1 = i := hacc; simp [oneL, Value.oneCell', hT, hB]; omega) ?_
     refine And.intro (by rw [hx]; simp only [inLH, zAd, Bool.and_eq_true, decide_eq_true_eq] <;> omega) ?_
     refine ⟨(i + 1, (a :: l) ++ [(bs s).take (k)], subS s (((frontN (bs s) : Nat) : Int)).toNat ((s.data.size : Int)).toNat), ⟨h1, ?_, ?_, ?_⟩, ?_, ?_⟩
     ·show (bs (subS s _ _)).length ≤ _; rw [zAo s _ _ hx]; simp <;> omega
     ·simp only [List.length_append, hacc]; rfl
     ·show cutsR ps (bs s0) = (cutsR (ps.drop (i + 1)) (bs (subS s _ _))).map _; rw [zAo s _ _ hx, heq, hst, hcut]; simp only [Option.map_map]; exact congrArg (fun g => Option.map g _) (funext fun y => by simp)
     ·show ps.length - (i + 1) < ps.length - i; omega
     ·refine rcq [0, 3] ⟨⟨_, rfl, .string _⟩, ⟨_, rfl, .sl _ _ _ _ _ rfl⟩, ⟨_, rfl, ?_⟩, zAe rfl (by rw [wrapN (by omega) (by omega)]; omega), trivial⟩ ⟨bpo (zBw _), ⟨by decide, _, rfl, ?_⟩, trivial⟩ .nil
      ·have : (l ++ [(bs s).take (k)]).length = l.length + 1 := by simp
       show RV _ _ (.slice _ ((l ++ [_]).length + 1) U)
       rw [this]
       exact .sl _ _ _ _ _ rfl
      ·refine zBb ?_ (zBy _)
       show List.take ((l.length + 1) * 1) ((a :: l).map str) ++ [Value.string (subS s (Int.toNat 0) (((frontN (bs s) : Nat) : Int)).toNat)] = _
       rw [zCa s _ _ hx, List.take_of_length_le (by simp)]
       show _ = ((a :: l) ++ [_]).map str
       rw [List.map_append]; rfl
    ·have hcut : Pr.nm.cut (bs s) = none := by have : (front (bs s)).isSome = false := h3; simpa [Pr.cut] using this
     have hn : cutsR ps (bs s0) = none := by rw [heq, hst, hcut]; rfl
     refine And.intro rfl (zAi (rcq [] (d := 7) (d2 := 0) (lv := [(4, .slice none 0 0), (5, .bool false)]) (bs := []) (W := []) (m := 0) (df := []) ⟨⟨_, rfl, zAc 8 rfl⟩, ⟨_, rfl, zAc 8 rfl⟩, trivial⟩ trivial .nil) (fun f => ?_))
     exact ⟨_, _, _, .inr ⟨hn, rfl⟩⟩
   | rest =>
    rw [hp] at hst hsd
    refine Exists.intro (-2 : Int) (And.intro hsd ?_)
    refine And.intro (zBq (by omega)) ?_
    refine ifK (fun h3 => ?_) (fun h3 => ?_)
    ·have hcut : Pr.rest.cut (bs s) = some (bs s).length := by have h3 : texts (bs s) = true := h3; simp [Pr.cut, h3]
     have hx : (s.data.size : Int) = ((bs s).length : Nat) := by rw [zAd]
     refine ifK (fun h5 => absurd h5 (by simp)) (fun _ => ?_)
     refine And.intro (by rw [hx]; simp only [inLH, zAd, Bool.and_eq_true, decide_eq_true_eq] <;> omega) ?_
     refine And.intro (by have hT : (Try.prog.types[9]).size = 1 := (by kernel_rfl); have hB : (Try.prog.types[9]).bytes = 16 := (by kernel_rfl); have hl : l.length + 1 = i := hacc; simp [oneL, Value.oneCell', hT, hB]; omega) ?_
     refine And.intro (by rw [hx]; simp only [inLH, zAd, Bool.and_eq_true, decide_eq_true_eq] <;> omega) ?_
     refine ⟨(i + 1, (a :: l) ++ [(bs s).take ((bs s).length)], subS s ((s.data.size : Int)).toNat ((s.data.size : Int)).toNat), ⟨h1, ?_, ?_, ?_⟩, ?_, ?_⟩
     ·show (bs (subS s _ _)).length ≤ _; rw [zAo s _ _ hx]; simp <;> omega
     ·simp only [List.length_append, hacc]; rfl
     ·show cutsR ps (bs s0) = (cutsR (ps.drop (i + 1)) (bs (subS s _ _))).map _; rw [zAo s _ _ hx, heq, hst, hcut]; simp only [Option.map_map]; exact congrArg (fun g => Option.map g _) (funext fun y => by simp)
     ·show ps.length - (i + 1) < ps.length - i; omega
     ·refine rcq [0, 3] ⟨⟨_, rfl, .string _⟩, ⟨_, rfl, .sl _ _ _ _ _ rfl⟩, ⟨_, rfl, ?_⟩, zAe rfl (by rw [wrapN (by omega) (by omega)]; omega), trivial⟩ ⟨bpo (zBw _), ⟨by decide, _, rfl, ?_⟩, trivial⟩ .nil
      ·have : (l ++ [(bs s).take ((bs s).length)]).length = l.length + 1 := by simp
       show RV _ _ (.slice _ ((l ++ [_]).length + 1) U)
       rw [this]
       exact .sl _ _ _ _ _ rfl
      ·refine zBb ?_ (zBy _)
       show List.take ((l.length + 1) * 1) ((a :: l).map str) ++ [Value.string (subS s (Int.toNat 0) ((s.data.size : Int)).toNat)] = _
       rw [zCa s _ _ hx, List.take_of_length_le (by simp)]
       show _ = ((a :: l) ++ [_]).map str
       rw [List.map_append]; rfl
    ·have hcut : Pr.rest.cut (bs s) = none := by have h3 : texts (bs s) = false := h3; simp [Pr.cut, h3]
     have hn : cutsR ps (bs s0) = none := by rw [heq, hst, hcut]; rfl
     refine And.intro rfl (zAi (rcq [] (d := 7) (d2 := 0) (lv := [(4, .slice none 0 0), (5, .bool false)]) (bs := []) (W := []) (m := 0) (df := []) ⟨⟨_, rfl, zAc 8 rfl⟩, ⟨_, rfl, zAc 8 rfl⟩, trivial⟩ trivial .nil) (fun f => ?_))
     exact ⟨_, _, _, .inr ⟨hn, rfl⟩⟩
   | all =>
    rw [hp] at hst hsd
    refine Exists.intro (-3 : Int) (And.intro hsd ?_)
    have hcut : Pr.all.cut (bs s) = some (bs s).length := rfl
    have hx : (s.data.size : Int) = ((bs s).length : Nat) := by rw [zAd]
    refine ifK (fun h5 => absurd h5 (by simp)) (fun _ => ?_)
    refine And.intro (by rw [hx]; simp only [inLH, zAd, Bool.and_eq_true, decide_eq_true_eq] <;> omega) ?_
    refine And.intro (by have hT : (Try.prog.types[9]).size = 1 := (by kernel_rfl); have hB : (Try.prog.types[9]).bytes = 16 := (by kernel_rfl); have hl : l.length + 1 = i := hacc; simp [oneL, Value.oneCell', hT, hB]; omega) ?_
    refine And.intro (by rw [hx]; simp only [inLH, zAd, Bool.and_eq_true, decide_eq_true_eq] <;> omega) ?_
    refine ⟨(i + 1, (a :: l) ++ [(bs s).take ((bs s).length)], subS s ((s.data.size : Int)).toNat ((s.data.size : Int)).toNat), ⟨h1, ?_, ?_, ?_⟩, ?_, ?_⟩
    ·show (bs (subS s _ _)).length ≤ _; rw [zAo s _ _ hx]; simp <;> omega
    ·simp only [List.length_append, hacc]; rfl
    ·show cutsR ps (bs s0) = (cutsR (ps.drop (i + 1)) (bs (subS s _ _))).map _; rw [zAo s _ _ hx, heq, hst, hcut]; simp only [Option.map_map]; exact congrArg (fun g => Option.map g _) (funext fun y => by simp)
    ·show ps.length - (i + 1) < ps.length - i; omega
    ·refine rcq [0, 3] ⟨⟨_, rfl, .string _⟩, ⟨_, rfl, .sl _ _ _ _ _ rfl⟩, ⟨_, rfl, ?_⟩, zAe rfl (by rw [wrapN (by omega) (by omega)]; omega), trivial⟩ ⟨bpo (zBw _), ⟨by decide, _, rfl, ?_⟩, trivial⟩ .nil
     ·have : (l ++ [(bs s).take ((bs s).length)]).length = l.length + 1 := by simp
      show RV _ _ (.slice _ ((l ++ [_]).length + 1) U)
      rw [this]
      exact .sl _ _ _ _ _ rfl
     ·refine zBb ?_ (zBy _)
      show List.take ((l.length + 1) * 1) ((a :: l).map str) ++ [Value.string (subS s (Int.toNat 0) ((s.data.size : Int)).toNat)] = _
      rw [zCa s _ _ hx, List.take_of_length_le (by simp)]
      show _ = ((a :: l) ++ [_]).map str
      rw [List.map_append]; rfl
   | sz k =>
    rw [hp] at hst hsd
    refine Exists.intro (k : Int) (And.intro hsd ?_)
    refine ifK (fun h3 => ?_) (fun h3 => ?_)
    ·have h3 : ¬ k ≤ (bs s).length := by have := of_decide_eq_true h3; rw [zAd] at this; omega
     have hcut : (Pr.sz k).cut (bs s) = none := by simp [Pr.cut, h3]
     have hn : cutsR ps (bs s0) = none := by rw [heq, hst, hcut]; rfl
     refine And.intro rfl (zAi (rcq [] (d := 7) (d2 := 0) (lv := [(4, .slice none 0 0), (5, .bool false)]) (bs := []) (W := []) (m := 0) (df := []) ⟨⟨_, rfl, zAc 8 rfl⟩, ⟨_, rfl, zAc 8 rfl⟩, trivial⟩ trivial .nil) (fun f => ?_))
     exact ⟨_, _, _, .inr ⟨hn, rfl⟩⟩
    ·have h3 : k ≤ (bs s).length := by have := of_decide_eq_false h3; rw [zAd] at this; omega
     have hcut : (Pr.sz k).cut (bs s) = some k := by simp [Pr.cut, h3]
     have hx : (k : Int) = (k : Nat) := rfl
     refine And.intro (by rw [hx]; simp only [inLH, zAd, Bool.and_eq_true, decide_eq_true_eq] <;> omega) ?_
     refine And.intro (by have hT : (Try.prog.types[9]).size = 1 := (by kernel_rfl); have hB : (Try.prog.types[9]).bytes = 16 := (by kernel_rfl); have hl : l.length + 1 = i := hacc; simp [oneL, Value.oneCell', hT, hB]; omega) ?_
     refine And.intro (by rw [hx]; simp only [inLH, zAd, Bool.and_eq_true, decide_eq_true_eq] <;> omega) ?_
     refine ⟨(i + 1, (a :: l) ++ [(bs s).take (k)], subS s ((k : Int)).toNat ((s.data.size : Int)).toNat), ⟨h1, ?_, ?_, ?_⟩, ?_, ?_⟩
     ·show (bs (subS s _ _)).length ≤ _; rw [zAo s _ _ hx]; simp <;> omega
     ·simp only [List.length_append, hacc]; rfl
     ·show cutsR ps (bs s0) = (cutsR (ps.drop (i + 1)) (bs (subS s _ _))).map _; rw [zAo s _ _ hx, heq, hst, hcut]; simp only [Option.map_map]; exact congrArg (fun g => Option.map g _) (funext fun y => by simp)
     ·show ps.length - (i + 1) < ps.length - i; omega
     ·refine rcq [0, 3] ⟨⟨_, rfl, .string _⟩, ⟨_, rfl, .sl _ _ _ _ _ rfl⟩, ⟨_, rfl, ?_⟩, zAe rfl (by rw [wrapN (by omega) (by omega)]; omega), trivial⟩ ⟨bpo (zBw _), ⟨by decide, _, rfl, ?_⟩, trivial⟩ .nil
      ·have : (l ++ [(bs s).take (k)]).length = l.length + 1 := by simp
       show RV _ _ (.slice _ ((l ++ [_]).length + 1) U)
       rw [this]
       exact .sl _ _ _ _ _ rfl
      ·refine zBb ?_ (zBy _)
       show List.take ((l.length + 1) * 1) ((a :: l).map str) ++ [Value.string (subS s (Int.toNat 0) ((k : Int)).toNat)] = _
       rw [zCa s _ _ hx, List.take_of_length_le (by simp)]
       show _ = ((a :: l) ++ [_]).map str
       rw [List.map_append]; rfl
  ·have h1 : ¬ i < ps.length := by have := of_decide_eq_false h1; omega
   have hc : cutsR ps (bs s0) = some (a :: l, bs s) := by rw [heq, List.drop_eq_nil_of_le (by omega)]; simp [cutsR]
   have hem : (bs s).isEmpty = (s.data.toList == []) := by show _ = (bs s == []); cases bs s <;> rfl
   refine And.intro rfl (zAi (rcq [1] (d := 7) (d2 := 1) (lv := [(1, .string s), (7, .slice (some ⟨0, 0, none⟩) (l.length + 1) U)]) (bs := [(0, .cells ((a :: l).map str) 9)]) (W := []) (m := 1) (df := []) ⟨⟨_, rfl, .string _⟩, ⟨_, rfl, .sl _ _ _ _ _ rfl⟩, trivial⟩ ⟨bpo (zBy _), trivial⟩ .nil) (fun f => ?_))
   exact ⟨_, _, _, .inl ⟨a :: l, bs s, 0, hc, by rw [hem]; rfl, rfl, by decide⟩⟩
end Go.Proofs.Ytmpaeabkdhjamaa
namespace Go.Proofs.Ytmpaeabkdhjamaa
open Go Go.RowKit
def prT (t : Int) : List Pr := if t = 1 then [.sz 4] else if t = 28 then [.sz 16] else if t = 2 then [.nm] else if t = 5 then [.nm] else if t = 12 then [.nm] else if t = 15 then [.sz 2, .nm] else if t = 6 then [.nm, .nm, .sz 20] else if t = 16 then [.rest] else [.all]
theorem zNs (t : Int) : formL t = (prT t).map Pr.i ∧ 0 < (prT t).length ∧ (prT t).length < 1000 := by
 unfold formL prT
 split; · exact ⟨rfl, by decide, by decide⟩
 split; · exact ⟨rfl, by decide, by decide⟩
 split; · exact ⟨rfl, by decide, by decide⟩
 split; · exact ⟨rfl, by decide, by decide⟩
 split; · exact ⟨rfl, by decide, by decide⟩
 split; · exact ⟨rfl, by decide, by decide⟩
 split; · exact ⟨rfl, by decide, by decide⟩
 split; · exact ⟨rfl, by decide, by decide⟩
 exact ⟨rfl, by decide, by decide⟩
def rpO (t : Int) (l : Bs) : List Bs := match cutsR (prT t) l with | some x => x.1 | none => []
def rpR (t : Int) (l : Bs) : Bs := match cutsR (prT t) l with | some x => x.2 | none => []
def rpOut (t : Int) (s : ByteArray) (H : Tr AObj) (n : Nat) : Res := .ret (.tuple #[.slice (some ⟨n, 0, none⟩) (rpO t (bs s)).length U, .bool (rpR t (bs s)).isEmpty]) (H.set n (some (.cells ((rpO t (bs s)).map str) 9))) (n + 1) []
theorem zOq (t : Int) (s : ByteArray) (hs : (bs s).length ≤ 100000000) (H : Tr AObj) (n : Nat) :
  ((cutsR (prT t) (bs s)).isSome = true → CallOK Try.prog 0 62 [.int .i64 t, .string s] H n (rpOut t s H n)) ∧
  ((cutsR (prT t) (bs s)).isSome = false → CallOK Try.prog 0 62 [.int .i64 t, .string s] H n (.ret (.tuple #[.slice none 0 0, .bool false]) H n [])) := by
 obtain ⟨p1, p2, p3⟩ := zNs t
 obtain ⟨r, hF, hP⟩ := parts_fn t (prT t) p2 p3 p1 s hs
 unfold paP at hP
 obtain ⟨H', m, wr, ⟨out, rest, b, q1, rfl, q3, q4⟩ | ⟨q1, rfl⟩⟩ := hP
 ·refine ⟨fun _ => ?_, fun h => (by rw [q1] at h; cases h)⟩
  have e1 : rpO t (bs s) = out := by unfold rpO; rw [q1]
  have e2 : rpR t (bs s) = rest := by unfold rpR; rw [q1]
  unfold rpOut
  rw [e1, e2]
  exact zCw (fun n => .tuple #[.slice (some ⟨n, 0, none⟩) out.length U, .bool rest.isEmpty]) hF rfl q3 q4 (zBy _) (fun n => .tuple _ _ (.cons _ _ _ _ (.sl _ _ _ _ _ (zIg _ _)) (.cons _ _ _ _ (.bool _) .nil))) H n
 ·exact ⟨fun h => (by rw [q1] at h; cases h), fun _ => zBa hF rfl rfl H n⟩
def zOu : Ct Try.prog 0 where
 f := 62
 res l H n := match l with
  | [.int .i64 t, .string s] => bif s.data.size.ble 100000000 then (bif (cutsR (prT t) (bs s)).isSome then rpOut t s H n else .ret (.tuple #[.slice none 0 0, .bool false]) H n []) else .bad "long" []
  | _ => .bad "arguments" []
 ok l H n := by
  split
  ·rename_i t s
   cases hs : s.data.size.ble 100000000 with
   | false => trivial
   | true =>
    obtain ⟨c1, c2⟩ := zOq t s (by rw [← zAd]; exact Nat.le_of_ble_eq_true hs) H n
    cases h1 : (cutsR (prT t) (bs s)).isSome with
    | true => exact c1 h1
    | false => exact c2 h1
  ·trivial
 ck l H n K := match l with
  | [.int .i64 t, .string s] => s.data.size.ble 100000000 = true ∧ brK (cutsR (prT t) (bs s)).isSome (K (rpOut t s H n)) (K (.ret (.tuple #[.slice none 0 0, .bool false]) H n []))
  | _ => False
 imp l H n K h := by
  split at h
  ·rename_i t s
   obtain ⟨h0, h⟩ := h
   simp only [h0, cond_true]
   cases h1 : (cutsR (prT t) (bs s)).isSome with
   | true => rw [h1] at h; exact h
   | false => rw [h1] at h; exact h
  ·exact h.elim
def Pt.pr : Pt → Pr
 | .nm => .nm
 | .rest => .rest
 | .sz k => .sz k
theorem Pt.pr_cut (p : Pt) (l : Bs) : p.pr.cut l = p.cut l := by cases p <;> rfl
theorem zJv {t : Int} {ps : List Pt} (h : ptsT t = some ps) (l : Bs) : cutsR (prT t) l = (cuts ps l).map fun x => (x.1.map (·.1), x.2) := by
 have key : ∀ (ps : List Pt) (l : Bs), cutsR (ps.map Pt.pr) l = (cuts ps l).map fun x => (x.1.map (·.1), x.2) := by
  intro ps
  induction ps with
  | nil => intro l; rfl
  | cons p ps ih =>
   intro l
   simp only [List.map_cons, cutsR, cuts, Pt.pr_cut]
   cases p.cut l with
   | none => rfl
   | some n =>
    simp only []
    rw [ih, Option.map_map, Option.map_map]; rfl
 suffices hpr : prT t = ps.map Pt.pr by
  rw [hpr]; exact key ps l
 unfold ptsT at h
 unfold prT
 by_cases h1 : t = 1
 ·subst h1; cases h; rfl
 by_cases h2 : t = 28
 ·subst h2; cases h; rfl
 by_cases h3 : t = 2
 ·subst h3; cases h; rfl
 by_cases h4 : t = 5
 ·subst h4; cases h; rfl
 by_cases h5 : t = 12
 ·subst h5; cases h; rfl
 by_cases h6 : t = 15
 ·subst h6; cases h; rfl
 by_cases h7 : t = 6
 ·subst h7; cases h; rfl
 by_cases h8 : t = 16
 ·subst h8; cases h; rfl
 ·exfalso
  rw [show (t == 1) = false by simpa using h1, show (t == 28) = false by simpa using h2, show (t == 2) = false by simpa using h3, show (t == 5) = false by simpa using h4, show (t == 12) = false by simpa using h5, show (t == 15) = false by simpa using h6, show (t == 6) = false by simpa using h7, show (t == 16) = false by simpa using h8] at h
  cases h
theorem zNt {t : Int} (h : ptsT t = none) : prT t = [.all] := by
 unfold ptsT at h
 unfold prT
 by_cases h1 : t = 1
 ·subst h1; cases h
 by_cases h2 : t = 28
 ·subst h2; cases h
 by_cases h3 : t = 2
 ·subst h3; cases h
 by_cases h4 : t = 5
 ·subst h4; cases h
 by_cases h5 : t = 12
 ·subst h5; cases h
 by_cases h6 : t = 15
 ·subst h6; cases h
 by_cases h7 : t = 6
 ·subst h7; cases h
 by_cases h8 : t = 16
 ·subst h8; cases h
 ·rw [if_neg h1, if_neg h2, if_neg h3, if_neg h4, if_neg h5, if_neg h6, if_neg h7, if_neg h8]
theorem zTk (t : Int) (l : Bs) : ((cutsR (prT t) l).isSome && (rpR t l).isEmpty) = fitsD t l := by
 cases hp : ptsT t with
 | none =>
  unfold fitsD rpR
  rw [hp, zNt hp]
  simp [cutsR, Pr.cut]
 | some ps =>
  have e1 : outT t l = cuts ps l := by unfold outT; rw [hp]
  unfold fitsD rpR outR
  rw [hp, zJv hp, e1]
  cases hc : cuts ps l with
  | none => rfl
  | some x => rfl
noncomputable def tbF3 : Tb Try.prog 0 := tbOf mixed [zOu]
theorem rcheck_fn (t : Int) (s : ByteArray) (hs : (bs s).length ≤ 100000000) : ∃ r, FnS Try.prog 0 37 [.int .i64 t, .string s] .e 0 r ∧ ∃ H m wr, r = .ret (.int .i64 (checkD t (bs s))) H m wr := by
 have hsB : s.data.size.ble 100000000 = true := by rw [zAd]; exact Nat.ble_eq_true_of_le hs
 refine zBm mixed tbF3 [] Try.func37 (c := bodyOf Try.f37) (by kernel_rfl) ?_
 unfold checkD
 rw [← zTk]
 refine ifK (fun h1 => ?_) (fun h1 => ?_)
 ·rw [if_pos (.inl (of_decide_eq_true h1))]; exact ⟨_, _, _, rfl⟩
 have h1 := of_decide_eq_false h1
 refine ifK (fun h2 => ?_) (fun h2 => ?_)
 ·rw [if_pos (.inr (of_decide_eq_true h2))]; exact ⟨_, _, _, rfl⟩
 have h2 := of_decide_eq_false h2
 rw [if_neg (by omega)]
 refine ifK (fun h3 => ?_) (fun h3 => ?_)
 ·have h3 := of_decide_eq_true h3
  rw [zAd] at h3
  rw [if_pos (by omega)]; exact ⟨_, _, _, rfl⟩
 have h3 := of_decide_eq_false h3
 rw [zAd] at h3
 rw [if_neg (by omega)]
 refine And.intro hsB ?_
 refine ifK (fun h5 => ?_) (fun h5 => ?_)
 ·rw [h5]
  refine ifK (fun h6 => ?_) (fun h6 => ?_)
  ·rw [show (rpR t (bs s)).isEmpty = false by simpa using h6]; exact ⟨_, _, _, rfl⟩
  ·rw [show (rpR t (bs s)).isEmpty = true by simpa using h6]; exact ⟨_, _, _, rfl⟩
 ·rw [h5]; exact ⟨_, _, _, rfl⟩
def Ct.intStr8 (f : FuncId) (out : Int → ByteArray → Value) (hp : ∀ t s, plainV 8 (out t s) = true) (ok : ∀ t s, (bs s).length ≤ 100000000 → ∃ H m wr, FnS Try.prog 0 f [.int .i64 t, .string s] .e 0 (.ret (out t s) H m wr)) : Ct Try.prog 0 where
 f := f
 res l H n := match l with | [.int .i64 t, .string s] => bif s.data.size.ble 100000000 then .ret (out t s) H n [] else .bad "long" [] | _ => .bad "arguments" []
 ok l H n := by
  split
  ·rename_i t s
   cases hs : s.data.size.ble 100000000 with
   | false => trivial
   | true => obtain ⟨_, _, _, h⟩ := ok t s (by rw [← zAd]; exact Nat.le_of_ble_eq_true hs); exact zBa h rfl (hp t s) H n
  ·trivial
 ck l H n K := match l with | [.int .i64 t, .string s] => s.data.size.ble 100000000 = true ∧ K (.ret (out t s) H n []) | _ => False
 imp l H n K h := by
  split at h
  ·obtain ⟨h1, h2⟩ := h
   simp only [h1, cond_true]; exact h2
  ·exact h.elim
def zJu : Ct Try.prog 0 := Ct.intStr8 37 (fun t s => .int .i64 (checkD t (bs s))) (fun _ _ => rfl) (fun t s hs => by
 obtain ⟨r, h, H, m, wr, rfl⟩ := rcheck_fn t s hs
 exact ⟨H, m, wr, h⟩)
end Go.Proofs.Ytmpaeabkdhjamaa
namespace Go.Proofs.Ytmpaeabkdhjamaa
open Go Go.RowKit
theorem front_len {l : Bs} {k : Nat} (h : front l = some k) : k ≤ 255 := by
 have hle := zFx h
 unfold front at h
 split at h
 ·rename_i j hj
  split at h
  ·rename_i hl
   cases h
   have := zLw hl
   rw [List.length_take] at this; omega
  ·cases h
 ·cases h
def Pt.small : Pt → Bool
 | .nm => true
 | .rest => false
 | .sz k => k.ble 255
theorem fits_no {t : Int} {l : Bs} (h : (cutsR (prT t) l).isSome = false) : fitsD t l = false := by rw [← zTk, h]; rfl
theorem rpO_of {t : Int} {ps : List Pt} {l : Bs} {o : List (Bs × Bool)} {r : Bs} (hp : ptsT t = some ps) (h : outT t l = some (o, r)) : rpO t l = o.map (·.1) := by
 unfold rpO
 unfold outT at h
 rw [hp] at h
 have h : cuts ps l = some (o, r) := h
 rw [zJv hp, h]; rfl
theorem size8 {s : ByteArray} (h : (bs s).length ≤ 100000000) : s.data.size.ble 100000000 = true := by rw [zAd]; exact Nat.ble_eq_true_of_le h
end Go.Proofs.Ytmpaeabkdhjamaa
namespace Go.Proofs.Ytmpaeabkdhjamaa
open Go Go.RowKit
def zi (x : Int × Bs) : Value := intV x.1
def zs (x : Int × Bs) : Value := str x.2
theorem zAl (l : List (Int × Bs)) : plainL (l.map zi) = true := by simp [plainL, plainV, zi, intV]
theorem zAm (l : List (Int × Bs)) : plainL (l.map zs) = true := by simp [plainL, plainV, zs, str]
theorem prT_some {t : Int} {ps : List Pt} (h : ptsT t = some ps) : prT t = ps.map Pt.pr := by
 unfold ptsT at h
 unfold prT
 by_cases h1 : t = 1
 ·subst h1; cases h; rfl
 by_cases h2 : t = 28
 ·subst h2; cases h; rfl
 by_cases h3 : t = 2
 ·subst h3; cases h; rfl
 by_cases h4 : t = 5
 ·subst h4; cases h; rfl
 by_cases h5 : t = 12
 ·subst h5; cases h; rfl
 by_cases h6 : t = 15
 ·subst h6; cases h; rfl
 by_cases h7 : t = 6
 ·subst h7; cases h; rfl
 by_cases h8 : t = 16
 ·subst h8; cases h; rfl
 ·exfalso
  rw [show (t == 1) = false by simpa using h1, show (t == 28) = false by simpa using h2, show (t == 2) = false by simpa using h3, show (t == 5) = false by simpa using h4, show (t == 12) = false by simpa using h5, show (t == 15) = false by simpa using h6, show (t == 6) = false by simpa using h7, show (t == 16) = false by simpa using h8] at h
  cases h
theorem ptsT_case {t : Int} {ps : List Pt} (h : ptsT t = some ps) : (0 ≤ t ∧ t ≤ 65535) ∧ ((ps.all Pt.small = true ∧ ps.length ≤ 3) ∨ ps = [.rest]) := by
 unfold ptsT at h
 by_cases h1 : t = 1
 ·subst h1; cases h; exact ⟨by decide, .inl ⟨rfl, by decide⟩⟩
 by_cases h2 : t = 28
 ·subst h2; cases h; exact ⟨by decide, .inl ⟨rfl, by decide⟩⟩
 by_cases h3 : t = 2
 ·subst h3; cases h; exact ⟨by decide, .inl ⟨rfl, by decide⟩⟩
 by_cases h4 : t = 5
 ·subst h4; cases h; exact ⟨by decide, .inl ⟨rfl, by decide⟩⟩
 by_cases h5 : t = 12
 ·subst h5; cases h; exact ⟨by decide, .inl ⟨rfl, by decide⟩⟩
 by_cases h6 : t = 15
 ·subst h6; cases h; exact ⟨by decide, .inl ⟨rfl, by decide⟩⟩
 by_cases h7 : t = 6
 ·subst h7; cases h; exact ⟨by decide, .inl ⟨rfl, by decide⟩⟩
 by_cases h8 : t = 16
 ·subst h8; cases h; exact ⟨by decide, .inr rfl⟩
 ·exfalso
  rw [show (t == 1) = false by simpa using h1, show (t == 28) = false by simpa using h2, show (t == 2) = false by simpa using h3, show (t == 5) = false by simpa using h4, show (t == 12) = false by simpa using h5, show (t == 15) = false by simpa using h6, show (t == 6) = false by simpa using h7, show (t == 16) = false by simpa using h8] at h
  cases h
end Go.Proofs.Ytmpaeabkdhjamaa
namespace Go.Proofs.Ytmpaeabkdhjamaa
open Go Go.RowKit
end Go.Proofs.Ytmpaeabkdhjamaa
namespace Go.Proofs.Ytmpaeabkdhjamaa
open Go Go.RowKit
noncomputable def tbR1 : Tb Try.prog 0 := tbOf mixed []
def numB (n m : Int) : Bool := decide (0 ≤ n ∧ n ≤ m)
theorem number_fn (n m : Int) : ∃ r, FnS Try.prog 0 33 [.int .i64 n, .int .i64 m] .e 0 r ∧ ∃ H k wr, r = .ret (.bool (numB n m)) H k wr := by
 refine zBm mixed tbR1 [] Try.func33 (c := bodyOf Try.f33) (by kernel_rfl) ?_
 unfold numB
 refine ifK (fun h1 => ?_) (fun h1 => ?_)
 ·have h1 := of_decide_eq_true h1
  rw [show decide (0 ≤ n ∧ n ≤ m) = decide (n ≤ m) by rw [decide_eq_decide]; exact ⟨fun h => h.2, fun h => ⟨h1, h⟩⟩]
  exact ⟨_, _, _, rfl⟩
 ·have h1 := of_decide_eq_false h1
  rw [show decide (0 ≤ n ∧ n ≤ m) = false by rw [decide_eq_false_iff_not]; exact fun h => h1 h.1]
  exact ⟨_, _, _, rfl⟩
theorem short_fn (n : Int) : ∃ r, FnS Try.prog 0 36 [.int .i64 n] .e 0 r ∧ ∃ H k wr, r = .ret (.bool (numB n 65535)) H k wr := by
 refine zBm mixed tbR1 [] Try.func36 (c := bodyOf Try.f36) (by kernel_rfl) ?_
 unfold numB
 refine ifK (fun h1 => ?_) (fun h1 => ?_)
 ·have h1 := of_decide_eq_true h1
  rw [show decide (0 ≤ n ∧ n ≤ 65535) = decide (n ≤ 65535) by rw [decide_eq_decide]; exact ⟨fun h => h.2, fun h => ⟨h1, h⟩⟩]
  exact ⟨_, _, _, rfl⟩
 ·have h1 := of_decide_eq_false h1
  rw [show decide (0 ≤ n ∧ n ≤ 65535) = false by rw [decide_eq_false_iff_not]; exact fun h => h1 h.1]
  exact ⟨_, _, _, rfl⟩
def Ct.sh {X : Type} (f : FuncId) (mt : List Value → Option X) (args : X → List Value) (hm : ∀ l x, mt l = some x → l = args x) (pre : X → Bool) (out : X → Value) (ha : ∀ x, plainL (args x) = true) (hp : ∀ x, plainV 8 (out x) = true) (ok : ∀ x, pre x = true → ∃ H m wr, FnS Try.prog 0 f (args x) .e 0 (.ret (out x) H m wr)) : Ct Try.prog 0 where
 f := f
 res l H n := match mt l with | some x => bif pre x then .ret (out x) H n [] else .bad "not such" [] | none => .bad "arguments" []
 ok l H n := by
  cases h : mt l with
  | none => trivial
  | some x =>
   cases hx : pre x with
   | false => simp only [hx]; trivial
   | true =>
    simp only [hx, cond_true]
    rw [hm l x h]
    obtain ⟨_, _, _, hF⟩ := ok x hx
    exact zBa hF (ha x) (hp x) H n
 ck l H n K := match mt l with | some x => pre x = true ∧ K (.ret (out x) H n []) | none => False
 imp l H n K h := by
  cases hm : mt l with
  | none => rw [hm] at h; exact h.elim
  | some x =>
   rw [hm] at h
   obtain ⟨h1, h2⟩ := h
   simp only [h1, cond_true]; exact h2
def Ct.i2 (f : FuncId) (out : Int → Int → Value) (hp : ∀ x y, plainV 8 (out x y) = true) (ok : ∀ x y, ∃ H m wr, FnS Try.prog 0 f [.int .i64 x, .int .i64 y] .e 0 (.ret (out x y) H m wr)) : Ct Try.prog 0 where
 f := f
 res l H n := match l with | [.int .i64 x, .int .i64 y] => .ret (out x y) H n [] | _ => .bad "arguments" []
 ok l H n := by
  split
  ·rename_i x y
   obtain ⟨_, _, _, h⟩ := ok x y
   exact zBa h rfl (hp x y) H n
  ·trivial
 ck l H n K := match l with | [.int .i64 x, .int .i64 y] => K (.ret (out x y) H n []) | _ => False
 imp l H n K h := by
  split at h
  ·exact h
  ·exact h.elim
def Ct.i1 (f : FuncId) (out : Int → Value) (hp : ∀ x, plainV 8 (out x) = true) (ok : ∀ x, ∃ H m wr, FnS Try.prog 0 f [.int .i64 x] .e 0 (.ret (out x) H m wr)) : Ct Try.prog 0 where
 f := f
 res l H n := match l with | [.int .i64 x] => .ret (out x) H n [] | _ => .bad "arguments" []
 ok l H n := by
  split
  ·rename_i x
   obtain ⟨_, _, _, h⟩ := ok x
   exact zBa h rfl (hp x) H n
  ·trivial
 ck l H n K := match l with | [.int .i64 x] => K (.ret (out x) H n []) | _ => False
 imp l H n K h := by
  split at h
  ·exact h
  ·exact h.elim
def zOt : Ct Try.prog 0 := Ct.i2 33 (fun x y => .bool (numB x y)) (fun _ _ => rfl) (fun x y => by obtain ⟨r, h, H, m, wr, rfl⟩ := number_fn x y; exact ⟨H, m, wr, h⟩)
def ct_rshort : Ct Try.prog 0 := Ct.i1 36 (fun x => .bool (numB x 65535)) (fun _ => rfl) (fun x => by obtain ⟨r, h, H, m, wr, rfl⟩ := short_fn x; exact ⟨H, m, wr, h⟩)
structure RcX where
 n : ByteArray
 t : Int
 c : Int
 ttl : Int
 d : ByteArray
def RcX.v (x : RcX) : Value := .agg #[.string x.n, .int .i64 x.t, .int .i64 x.c, .int .i64 x.ttl, .string x.d]
def RcX.ok (x : RcX) : Bool := x.n.data.size.ble 100000000 && x.d.data.size.ble 100000000
noncomputable def tbR2 : Tb Try.prog 0 := tbOf mixed [zOt, ct_rshort, zIx, zGz, zHs, zJu, zTb, zVb]
end Go.Proofs.Ytmpaeabkdhjamaa
namespace Go.Proofs.Ytmpaeabkdhjamaa
open Go Go.RowKit
def mtR : List Value → Option RcX
 | [.agg ⟨[.string n, .int .i64 t, .int .i64 c, .int .i64 ttl, .string d]⟩] => some ⟨n, t, c, ttl, d⟩
 | _ => none
theorem mtR_ok (l : List Value) (x : RcX) (h : mtR l = some x) : l = [x.v] := by
 unfold mtR at h; split at h <;> cases h; rfl
theorem RcX.ok1 {x : RcX} (h : x.ok = true) : (bs x.n).length ≤ 100000000 ∧ (bs x.d).length ≤ 100000000 := by
 unfold RcX.ok at h
 simp only [Bool.and_eq_true] at h
 rw [← zAd, ← zAd]
 exact ⟨Nat.le_of_ble_eq_true h.1, Nat.le_of_ble_eq_true h.2⟩
theorem size8' {s : ByteArray} (h : (bs s).length ≤ 100000000) : s.data.size.ble 100000000 = true := by rw [zAd]; exact Nat.ble_eq_true_of_le h
def recC (x : RcX) : Int := if (labels (bs x.n)).2 ≠ 0 then (labels (bs x.n)).2 else if numB x.t 65535 && numB x.c 65535 && numB x.ttl 2147483647 then checkD x.t (bs x.d) else 5
theorem zVu (x : RcX) (hx : x.ok = true) : ∃ r, FnS Try.prog 0 11 [x.v] .e 0 r ∧ ∃ H k wr, r = .ret (.int .i64 (recC x)) H k wr := by
 obtain ⟨hn, hd⟩ := RcX.ok1 hx
 refine zBm mixed tbR2 [] Try.func11 (c := bodyOf Try.f11) (by kernel_rfl) ?_
 unfold recC
 refine And.intro (zBq (by omega)) ?_
 refine ifK (fun h1 => ?_) (fun h1 => ?_)
 ·rw [if_pos (by simpa using h1)]; exact ⟨_, _, _, rfl⟩
 rw [if_neg (by simpa using h1)]
 refine ifK (fun h2 => ?_) (fun h2 => ?_)
 ·rw [show numB x.t 65535 = false by simpa using h2]; exact ⟨_, _, _, rfl⟩
 rw [show numB x.t 65535 = true by simpa using h2]
 refine ifK (fun h3 => ?_) (fun h3 => ?_)
 ·rw [show numB x.c 65535 = false by simpa using h3]; exact ⟨_, _, _, rfl⟩
 rw [show numB x.c 65535 = true by simpa using h3]
 refine ifK (fun h4 => ?_) (fun h4 => ?_)
 ·rw [show numB x.ttl 2147483647 = false by simpa using h4]; exact ⟨_, _, _, rfl⟩
 rw [show numB x.ttl 2147483647 = true by simpa using h4]
 refine And.intro (zBq (by omega)) ?_
 exact ⟨_, _, _, rfl⟩
theorem zRz (x : RcX) (hx : x.ok = true) : ∃ r, FnS Try.prog 0 12 [x.v] .e 0 r ∧ ∃ H k wr, r = .ret (.int .i64 (recC x)) H k wr := by
 obtain ⟨hn, hd⟩ := RcX.ok1 hx
 refine zBm mixed tbR2 [] Try.func12 (c := bodyOf Try.f12) (by kernel_rfl) ?_
 unfold recC
 refine And.intro (zBq (by omega)) ?_
 refine ifK (fun h1 => ?_) (fun h1 => ?_)
 ·rw [if_pos (by simpa using h1)]; exact ⟨_, _, _, rfl⟩
 rw [if_neg (by simpa using h1)]
 refine ifK (fun h2 => ?_) (fun h2 => ?_)
 ·rw [show numB x.t 65535 = false by simpa using h2]; exact ⟨_, _, _, rfl⟩
 rw [show numB x.t 65535 = true by simpa using h2]
 refine ifK (fun h3 => ?_) (fun h3 => ?_)
 ·rw [show numB x.c 65535 = false by simpa using h3]; exact ⟨_, _, _, rfl⟩
 rw [show numB x.c 65535 = true by simpa using h3]
 refine ifK (fun h4 => ?_) (fun h4 => ?_)
 ·have h4 := of_decide_eq_true h4
  rw [show numB x.ttl 2147483647 = false by unfold numB; rw [decide_eq_false_iff_not]; omega]; exact ⟨_, _, _, rfl⟩
 have h4 := of_decide_eq_false h4
 refine ifK (fun h5 => ?_) (fun h5 => ?_)
 ·have h5 := of_decide_eq_true h5
  rw [show numB x.ttl 2147483647 = false by unfold numB; rw [decide_eq_false_iff_not]; omega]; exact ⟨_, _, _, rfl⟩
 have h5 := of_decide_eq_false h5
 rw [show numB x.ttl 2147483647 = true by unfold numB; rw [decide_eq_true_iff]; omega]
 refine And.intro (size8' hd) ?_
 exact ⟨_, _, _, rfl⟩
def RcX.low (x : RcX) : RcX := ⟨⟨(lower (bs x.n)).toArray⟩, x.t, x.c, 0, ⟨(lowerD x.t (bs x.d)).toArray⟩⟩
def zRf : Ct Try.prog 0 := Ct.sh 11 mtR (fun x => [x.v]) mtR_ok RcX.ok (fun x => .int .i64 (recC x)) (fun _ => rfl) (fun _ => rfl) (fun x hx => by obtain ⟨r, h, H, m, wr, rfl⟩ := zVu x hx; exact ⟨H, m, wr, h⟩)
def zOw : Ct Try.prog 0 := Ct.sh 12 mtR (fun x => [x.v]) mtR_ok RcX.ok (fun x => .int .i64 (recC x)) (fun _ => rfl) (fun _ => rfl) (fun x hx => by obtain ⟨r, h, H, m, wr, rfl⟩ := zRz x hx; exact ⟨H, m, wr, h⟩)
end Go.Proofs.Ytmpaeabkdhjamaa
namespace Go.Proofs.Ytmpaeabkdhjamaa
open Go Go.RowKit
theorem zFn {x : RcX} (h : recC x = 0) : (labels (bs x.n)).2 = 0 ∧ numB x.t 65535 = true ∧ numB x.c 65535 = true ∧ numB x.ttl 2147483647 = true ∧ checkD x.t (bs x.d) = 0 := by
 unfold recC at h
 split at h
 ·rename_i h1; exact absurd h h1
 ·rename_i h1
  split at h
  ·rename_i h2
   simp only [Bool.and_eq_true] at h2
   exact ⟨by simpa using h1, h2.1.1, h2.1.2, h2.2, h⟩
  ·cases h
def RcX.g (x : RcX) : List Value := [.string x.n, .int .i64 x.t, .int .i64 x.c, .int .i64 x.ttl, .string x.d]
def layR : Lay RcX where
 g := RcX.g
 k := 5
 t := 23
 len _ := rfl
 pos := by decide
 plain _ := rfl
 inj x y h := by
  obtain ⟨n, t, c, l, d⟩ := x
  obtain ⟨n', t', c', l', d'⟩ := y
  simp only [RcX.g, List.cons.injEq, Value.string.injEq, Value.int.injEq, true_and, and_true] at h
  obtain ⟨rfl, rfl, rfl, rfl, rfl⟩ := h; rfl
def bigR (n : Int) (x : RcX) : Bool := decide ((x.n.data.size : Int) > n) || decide ((x.d.data.size : Int) > n)
noncomputable def tbR4 : Tb Try.prog 0 := tbOf mixed []
end Go.Proofs.Ytmpaeabkdhjamaa
namespace Go.Proofs.Ytmpaeabkdhjamaa
open Go Go.RowKit
def bigS (a b : List Value) (l : List RcX) (c : Nat) (n : Int) (i : Nat) (f : Nat → Option Value) : Fs := ⟨slots 6 [(0, .slice (some ⟨0, a.length, none⟩) l.length c), (1, .int .i64 n), (5, .int .i64 i)] f, heap 1 [(0, .win (a ++ l.flatMap layR.g ++ b) layR.k)], 1, [], []⟩
theorem zUw (a b : List Value) (l : List RcX) (c : Nat) (n : Int) (ha : plainL a = true) (hb : plainL b = true) (hl : l.length ≤ 9223372036854775807) : ∃ r, FnS Try.prog 0 10 [.slice (some ⟨0, a.length, none⟩) l.length c, .int .i64 n] (heap 1 [(0, .win (a ++ l.flatMap layR.g ++ b) layR.k)]) 1 r ∧ ∃ H m wr, r = .ret (.bool (l.any (bigR n))) H m wr ∧ ∀ k ∈ wr, 1 ≤ k := by
 have hplain : plainL (a ++ l.flatMap layR.g ++ b) = true := by rw [zCm, zCm, ha, hb, zAa layR.g layR.plain]; rfl
 have hsz : (Try.prog.types[23]).size = 5 := by kernel_rfl
 refine zBm mixed tbR4 [0] Try.func10 (c := bodyOf Try.f10) (by kernel_rfl) ?_
 refine zBs (bigS a b l c n) (fun i => l.length - i) (fun i => i ≤ l.length ∧ l.any (bigR n) = (l.drop i).any (bigR n)) 0 ⟨Nat.zero_le _, rfl⟩ (rcq [] ⟨⟨_, rfl, .sl _ _ _ _ _ rfl⟩, ⟨_, rfl, .int _ _⟩, ⟨_, rfl, .int _ _⟩, trivial⟩ ⟨⟨by decide, _, rfl, .sameW hplain⟩, trivial⟩ .nil) ?_
 rintro i f ⟨hi, heq⟩
 refine zAn tbR4 [0] 1 _ none mixed _ _ _ ?_
 refine ifK (fun h1 => ?_) (fun h1 => ?_)
 ·have h1 : i < l.length := by have := of_decide_eq_true h1; omega
  have hst : (l.drop i).any (bigR n) = (bigR n l[i] || (l.drop (i + 1)).any (bigR n)) := by rw [List.drop_eq_getElem_cons h1]; rfl
  rw [hst] at heq
  have c0 := RdL.cell layR a b l i 0 h1 (by decide)
  have c4 := RdL.cell layR a b l i 4 h1 (by decide)
  refine ifK (fun _ => ?_) (fun h2 => absurd h2 (by simp [inI]; omega))
  refine Exists.intro l[i].n (And.intro (by rw [hsz, Int.toNat_natCast]; exact c0) ?_)
  refine ifK (fun h2 => ?_) (fun h2 => ?_)
  ·have e : l.any (bigR n) = true := by rw [heq]; unfold bigR; rw [h2]; rfl
   refine And.intro rfl (zAi (rcq [] (d := 6) (d2 := 0) (lv := [(4, .bool true)]) (bs := []) (W := []) (m := 1) (df := []) ⟨⟨_, rfl, zAc 8 rfl⟩, trivial⟩ trivial .nil) (fun f => ?_))
   rw [e]; exact ⟨_, _, _, rfl, zDm rfl⟩
  ·refine ifK (fun _ => ?_) (fun h3 => absurd h3 (by simp [inI]; omega))
   refine Exists.intro l[i].d (And.intro (by rw [hsz, Int.toNat_natCast]; exact c4) ?_)
   refine ifK (fun h3 => ?_) (fun h3 => ?_)
   ·have e : l.any (bigR n) = true := by rw [heq]; unfold bigR; rw [h3]; simp
    refine And.intro rfl (zAi (rcq [] (d := 6) (d2 := 0) (lv := [(4, .bool true)]) (bs := []) (W := []) (m := 1) (df := []) ⟨⟨_, rfl, zAc 8 rfl⟩, trivial⟩ trivial .nil) (fun f => ?_))
    rw [e]; exact ⟨_, _, _, rfl, zDm rfl⟩
   ·refine ⟨i + 1, ⟨h1, ?_⟩, by omega, rcq [] ⟨⟨_, rfl, .sl _ _ _ _ _ rfl⟩, ⟨_, rfl, .int _ _⟩, zAe rfl (by rw [wrapN (by omega) (by omega)]; omega), trivial⟩ ⟨⟨by decide, _, rfl, .sameW hplain⟩, trivial⟩ .nil⟩
    rw [heq]; unfold bigR; rw [h2, h3]; rfl
 ·have h1 : ¬ i < l.length := by have := of_decide_eq_false h1; omega
  have e : l.any (bigR n) = false := by rw [heq, List.drop_eq_nil_of_le (by omega)]; rfl
  refine And.intro rfl (zAi (rcq [] (d := 6) (d2 := 0) (lv := []) (bs := []) (W := []) (m := 1) (df := []) trivial trivial .nil) (fun f => ?_))
  rw [e]; exact ⟨_, _, _, rfl, zDm rfl⟩
noncomputable def zUz : Ct Try.prog 0 := CtR.rd1 layR 10 Int (fun n => [.int .i64 n]) (fun l n => .bool (l.any (bigR n))) (fun l _ => l.length ≤ 9223372036854775807) (fun _ => rfl) (fun _ _ => rfl) (fun y z h => by simpa using h) (by kernel_rfl)
 (fun c a b l n ha hb hl => by obtain ⟨r, hF, H, m, wr, rfl, hw⟩ := zUw a b l c n ha hb hl; exact ⟨H, m, wr, hF, hw⟩)
end Go.Proofs.Ytmpaeabkdhjamaa
namespace Go.Proofs.Ytmpaeabkdhjamaa
open Go Go.RowKit
theorem zUv : zNw (evT Try.prog 0 ([] : List (Ct Try.prog 0)) 1000000 (.call 15 []) fs0) = true := by kernel_rfl
theorem zQz (w : World) : Calls Try.prog 15 #[] w fun e w' => e = .returned (.bool true) ∧ Below w.heap.size w w' := evT_true mixed [] 1000000 _ zUv w
theorem zRu {x : RcX} {n : Int} (hn : n ≤ 100000000) (h : bigR n x = false) : x.ok = true := by
 unfold bigR at h
 simp only [Bool.or_eq_false_iff, decide_eq_false_iff_not] at h
 unfold RcX.ok
 rw [Nat.ble_eq_true_of_le (by omega), Nat.ble_eq_true_of_le (by omega)]; rfl
end Go.Proofs.Ytmpaeabkdhjamaa
namespace Go.Proofs.Ytmpaeabkdhjamaa
open Go Go.RowKit
structure A7 where
 x : RcX
 ask : Bool
 raw : Bool
 at' : Int
def A7.g (x : A7) : List Value := [.string x.x.n, .int .i64 x.x.t, .int .i64 x.x.c, .int .i64 x.x.ttl, .string x.x.d, .bool x.ask, .bool x.raw, .int .i64 x.at']
def layA7 : Lay A7 where
 g := A7.g
 k := 8
 t := 41
 len _ := rfl
 pos := by decide
 plain _ := rfl
 inj x y h := by
  obtain ⟨⟨n, t, c, u, d⟩, k, r, a⟩ := x
  obtain ⟨⟨n', t', c', u', d'⟩, k', r', a'⟩ := y
  simp only [A7.g, List.cons.injEq, Value.string.injEq, Value.int.injEq, Value.bool.injEq, true_and, and_true] at h
  obtain ⟨rfl, rfl, rfl, rfl, rfl, rfl, rfl, rfl⟩ := h; rfl
theorem RdL.sub {α : Type} (L : Lay α) (pre post : List Value) (l : List α) (i o k : Nat) (h : i < l.length) (hk : o + k ≤ L.k) : pre.length + i * L.k + o + k ≤ (pre ++ l.flatMap L.g ++ post).length ∧ ((pre ++ l.flatMap L.g ++ post).drop (pre.length + i * L.k + o)).take k = ((L.g l[i]).drop o).take k := by
 obtain ⟨h1, h2⟩ := RdL.get L pre post l i h
 refine ⟨by omega, ?_⟩
 rw [← h2, List.drop_take, List.take_take, List.drop_drop, Nat.min_eq_left (by omega)]
def bigA7 (x : A7) : Bool := bigR 3000 x.x
def longA7 (l : List A7) : Bool := (l.take 41).any bigA7 || decide (l.length > 40)
noncomputable def tbLv1 : Tb Try.prog 0 := tbOf mixed [zUz]
def lvS (a b : List Value) (l : List A7) (c : Nat) (i : Nat) (f : Nat → Option Value) : Fs := ⟨slots 6 [(0, .slice (some ⟨0, a.length, none⟩) l.length c), (3, .int .i64 (i : Int))] f, heap 1 [(0, .win (a ++ l.flatMap layA7.g ++ b) layA7.k)], 1, [], []⟩
theorem long7_fn (a b : List Value) (l : List A7) (c : Nat) (ha : plainL a = true) (hb : plainL b = true) : ∃ r, FnS Try.prog 0 18 [.slice (some ⟨0, a.length, none⟩) l.length c] (heap 1 [(0, .win (a ++ l.flatMap layA7.g ++ b) layA7.k)]) 1 r ∧ ∃ H m wr, r = .ret (.bool (longA7 l)) H m wr ∧ ∀ k ∈ wr, 1 ≤ k := by
 have hplain : plainL (a ++ l.flatMap layA7.g ++ b) = true := by rw [zCm, zCm, ha, hb, zAa layA7.g layA7.plain]; rfl
 have hsz : (Try.prog.types[41]).size = 8 := by kernel_rfl
 refine zBm mixed tbLv1 [0] Try.func18 (c := bodyOf Try.f18) (by kernel_rfl) ?_
 refine zBs (lvS a b l c) (fun i => l.length - i) (fun i => i ≤ l.length ∧ i ≤ 41 ∧ (l.take 41).any bigA7 = ((l.take 41).drop i).any bigA7) 0 ⟨Nat.zero_le _, Nat.zero_le _, rfl⟩ (rcq [] ⟨⟨_, rfl, .sl _ _ _ _ _ rfl⟩, ⟨_, rfl, .int _ _⟩, trivial⟩ ⟨bpo (hplain), trivial⟩ .nil) ?_
 rintro i f ⟨hi, hi2, heq⟩
 have hi : i ≤ l.length := hi
 refine zAn tbLv1 [0] 1 _ none mixed _ _ _ ?_
 have fin : (l.take 41).length ≤ i → longA7 l = decide (l.length > 40) := fun h => by
  unfold longA7
  rw [heq, List.drop_eq_nil_of_le h]; rfl
 refine ifK (fun h1 => ?_) (fun h1 => ?_)
 ·have h1 : i < l.length := by have := of_decide_eq_true h1; omega
  refine ifK (fun h2 => ?_) (fun h2 => ?_)
  ·have h2 : i < 41 := by have := of_decide_eq_true h2; omega
   have hm : i < (l.take 41).length := by rw [List.length_take]; omega
   have hst : ((l.take 41).drop i).any bigA7 = (bigA7 l[i] || ((l.take 41).drop (i + 1)).any bigA7) := by rw [List.drop_eq_getElem_cons hm, List.getElem_take]; rfl
   rw [hst] at heq
   obtain ⟨q1, q2⟩ := RdL.sub layA7 a b l i 0 5 h1 (by decide)
   obtain ⟨X, hX⟩ : ∃ X, l[i] = X := ⟨_, rfl⟩
   rw [hX] at q2 heq
   obtain ⟨⟨n, t, k, u, d⟩, q, r, at0⟩ := X
   refine ifK (fun _ => ?_) (fun h3 => absurd h3 (by simp [inI]; omega))
   refine Exists.intro n (Exists.intro t (Exists.intro k (Exists.intro u (Exists.intro d (And.intro ⟨by rw [hsz, Int.toNat_natCast]; exact q1, by rw [hsz, Int.toNat_natCast]; exact q2⟩ ?_)))))
   refine Exists.intro (⟨1, 1, [], [⟨n, t, k, u, d⟩], []⟩, 3000) (And.intro ⟨rfl, ⟨zSg (by show Tr.get _ 1 = some (AObj.cells (RcX.g ⟨n, t, k, u, d⟩ ++ []) 23); rfl), rfl, rfl⟩, by simp⟩ ?_)
   refine ifK (fun h3 => ?_) (fun h3 => ?_)
   ·have h3 : (bigR 3000 ⟨n, t, k, u, d⟩ || false) = true := h3
    rw [Bool.or_false] at h3
    have e : longA7 l = true := by unfold longA7; rw [heq]; unfold bigA7; rw [h3]; rfl
    refine And.intro rfl (zAi (rcq [] (d := 6) (d2 := 0) (lv := [(2, .bool true)]) (bs := []) (W := []) (m := 1) (df := []) ⟨⟨_, rfl, zAc 8 rfl⟩, trivial⟩ trivial .nil) (fun f => ?_))
    rw [e]; exact ⟨_, _, _, rfl, zDm rfl⟩
   ·have h3 : (bigR 3000 ⟨n, t, k, u, d⟩ || false) = false := h3
    rw [Bool.or_false] at h3
    refine ⟨i + 1, ⟨h1, h2, ?_⟩, by show l.length - (i + 1) < l.length - i; omega, rcq [] ⟨⟨_, rfl, .sl _ _ _ _ _ rfl⟩, zAe rfl (by rw [wrapN (by omega) (by omega)]; omega), trivial⟩ ⟨bpo (hplain), trivial⟩ .nil⟩
    rw [heq]; unfold bigA7; rw [h3]; rfl
  ·have h2 : i = 41 := by have := of_decide_eq_false h2; omega
   have e := fin (by rw [List.length_take]; omega)
   refine And.intro rfl (zAi (rcq [] (d := 6) (d2 := 1) (lv := [(0, .slice (some ⟨0, a.length, none⟩) l.length c)]) (bs := [(0, .win (a ++ l.flatMap layA7.g ++ b) layA7.k)]) (W := []) (m := 1) (df := []) ⟨⟨_, rfl, .sl _ _ _ _ _ rfl⟩, trivial⟩ ⟨bpo (hplain), trivial⟩ .nil) (fun f => ?_))
   rw [e]; exact ⟨_, _, _, congrArg (fun b => Res.ret (.bool b) _ _ _) (by apply decide_eq_decide.2; omega), zDm rfl⟩
 ·have h1 : ¬ i < l.length := fun e => absurd (show ((i : Nat) : Int) < (l.length : Int) by omega) (of_decide_eq_false h1)
  have e := fin (by rw [List.length_take]; omega)
  refine And.intro rfl (zAi (rcq [] (d := 6) (d2 := 1) (lv := [(0, .slice (some ⟨0, a.length, none⟩) l.length c)]) (bs := [(0, .win (a ++ l.flatMap layA7.g ++ b) layA7.k)]) (W := []) (m := 1) (df := []) ⟨⟨_, rfl, .sl _ _ _ _ _ rfl⟩, trivial⟩ ⟨bpo (hplain), trivial⟩ .nil) (fun f => ?_))
  rw [e]; exact ⟨_, _, _, congrArg (fun b => Res.ret (.bool b) _ _ _) (by apply decide_eq_decide.2; omega), zDm rfl⟩
noncomputable def ct_long7 : Ct Try.prog 0 := CtR.rd1 layA7 18 Unit (fun _ => []) (fun l _ => .bool (longA7 l)) (fun l _ => True) (fun _ => rfl) (fun _ _ => rfl) (fun y z h => rfl) (by kernel_rfl)
 (fun c a b l n ha hb hl => by obtain ⟨r, hF, H, m, wr, rfl, hw⟩ := long7_fn a b l c ha hb; exact ⟨H, m, wr, hF, hw⟩)
theorem longA7_no {l : List A7} (h : longA7 l = false) : l.length ≤ 40 ∧ ∀ x ∈ l, x.x.ok = true ∧ (bs x.x.n).length ≤ 3000 ∧ (bs x.x.d).length ≤ 3000 := by
 unfold longA7 at h
 rw [Bool.or_eq_false_iff] at h
 have h2 : l.length ≤ 40 := by have := of_decide_eq_false h.2; omega
 refine ⟨h2, fun x hx => ?_⟩
 rw [List.take_of_length_le (by omega)] at h
 have h3 : bigR 3000 x.x = false := by simpa [bigA7] using List.any_eq_false.1 h.1 x hx
 refine ⟨zRu (by decide) h3, ?_⟩
 unfold bigR at h3
 simp only [Bool.or_eq_false_iff, decide_eq_false_iff_not] at h3
 rw [← zAd, ← zAd]; omega
end Go.Proofs.Ytmpaeabkdhjamaa
namespace Go.Proofs.Ytmpaeabkdhjamaa
open Go Go.RowKit
def mkS (l : Bl) : ByteArray := ⟨l.toArray⟩
def encT (T : List (Bl × Nat)) : List MapEntry := T.map fun p => { key := .string (mkS p.1), val := .int .i64 (p.2 : Int), born := 0 }
end Go.Proofs.Ytmpaeabkdhjamaa
namespace Go.Proofs.Ytmpaeabkdhjamaa
open Go Go.RowKit
theorem zTp (em : Bool) (s : ByteArray) : keyOk Try.prog 9 em (.string s) = true := by cases em <;> kernel_rfl
theorem zOz (a b : ByteArray) (v : Value) (k : Nat) : eqK Try.prog 9 (.string a) { key := .string b, val := v, born := k } = some (a.data == b.data) := by kernel_rfl
theorem zNo {a b : Bl} (h : mkS a = mkS b) : a = b := by
 have := congrArg (fun x : ByteArray => x.data.toList) h
 simpa [mkS] using this
theorem zPp (a b : Bl) : ((mkS a).data == (mkS b).data) = decide (a = b) := by
 by_cases h : a = b
 ·subst h; simp
 ·rw [decide_eq_false h]
  cases he : (mkS a).data == (mkS b).data
  ·rfl
  ·have h2 : (mkS a).data = (mkS b).data := eq_of_beq he
   exact absurd (zNo (congrArg ByteArray.mk h2)) h
def lookT : List (Bl × Nat) → Bl → Option Nat
 | [], _ => none
 | (t, k) :: T, s => if s = t then some k else lookT T s
theorem zEi {s : Bl} : ∀ {T : List (Bl × Nat)}, lookT T s = none ↔ s ∉ T.map (·.1)
 | [] => by simp [lookT]
 | (t, k) :: T => by
  unfold lookT
  by_cases h : s = t
  ·subst h; simp
  ·rw [if_neg h, zEi (T := T)]; simp [h]
theorem zEl (T : List (Bl × Nat)) : zAk (encT T) = true := by
 unfold zAk encT
 rw [List.all_map]
 exact List.all_eq_true.2 fun _ _ => rfl
theorem zKb {s : Bl} : ∀ {T : List (Bl × Nat)} (i : Nat), lookT T s = none → zEb Try.prog 9 (.string (mkS s)) (encT T) i = some none
 | [], _, _ => rfl
 | (t, k) :: T, i, h => by
  unfold lookT at h
  split at h
  ·cases h
  ·rename_i hne
   show zEb _ _ _ (_ :: encT T) i = _
   unfold zEb
   rw [zOz, zPp, decide_eq_false hne]
   exact zKb (i + 1) h
theorem zPf {s : Bl} {v : Nat} : ∀ {T : List (Bl × Nat)} (i : Nat), (T.map (·.1)).Nodup → lookT T s = some v → ∃ j, zEb Try.prog 9 (.string (mkS s)) (encT T) i = some (some (j, .int .i64 (v : Int)))
 | (t, k) :: T, i, hn, h => by
  rw [List.map_cons, List.nodup_cons] at hn
  unfold lookT at h
  show ∃ j, zEb _ _ _ (_ :: encT T) i = _
  unfold zEb
  rw [zOz, zPp]
  split at h
  ·rename_i he
   subst he
   cases h
   refine ⟨i, ?_⟩
   have hall : ∀ x ∈ encT T, eqK Try.prog 9 (.string (mkS s)) x = some false := fun x hx => by
    obtain ⟨p, hp, rfl⟩ := List.mem_map.1 hx
    have hne : s ≠ p.1 := fun e => hn.1 (by show s ∈ _; rw [e]; exact List.mem_map_of_mem hp)
    rw [zOz, zPp, decide_eq_false hne]
   have key : ∀ (p : MapEntry → Bool), (∀ x ∈ encT T, p x = true) → (encT T).all p = true := fun p hp => List.all_eq_true.2 hp
   simp only [decide_true]
   rw [key]
   ·rfl
   ·intro x hx
    rw [hall x hx]
  ·rename_i hne
   rw [decide_eq_false hne]
   exact zPf (i + 1) hn.2 h
section
variable {ev : Operand → Value} {G : Gh} {n : Nat} {o : Oper}
theorem zOm {t : TypeId} {x y : Operand} {r ck v : Nat} {T : List (Bl × Nat)} {s : Bl} (ho : o.op = .lookup t x y true) (hx : ev x = .map (some r)) (hy : ev y = .string (mkS s)) (hu : Try.prog.underlying t = some (.map 9 3)) (hG : G r = some (.map (encT T) ck)) (hn : (T.map (·.1)).Nodup) (h : lookT T s = some v) :
  aop Try.prog o ev G n = .val (.tuple #[.int .i64 (v : Int), .bool true]) [] 0 := by
 obtain ⟨j, hj⟩ := zPf 0 hn h
 unfold aop aop0 aStr
 simp only [ho, ORes.or]
 unfold zGh
 simp only [hu, hx, hy, hG, Try.underlying9, zEl, zTp, Bool.and_self, cond_true, hj]
theorem zOl {t : TypeId} {x y : Operand} {r ck : Nat} {T : List (Bl × Nat)} {s : Bl} (ho : o.op = .lookup t x y true) (hx : ev x = .map (some r)) (hy : ev y = .string (mkS s)) (hu : Try.prog.underlying t = some (.map 9 3)) (hG : G r = some (.map (encT T) ck)) (h : lookT T s = none) :
  aop Try.prog o ev G n = .val (.tuple #[.int .i64 0, .bool false]) [] 0 := by
 have hz : ((Try.prog.info? 3).bind (·.zero)) = some (.int .i64 0) := by kernel_rfl
 obtain ⟨i, h1, h2⟩ := Option.bind_eq_some_iff.1 hz
 unfold aop aop0 aStr
 simp only [ho, ORes.or]
 unfold zGh
 simp only [hu, hx, hy, hG, Try.underlying9, zEl, zTp, Bool.and_self, cond_true, zKb 0 h, h1, h2]
 rfl
theorem zSx {t : TypeId} {x y z : Operand} {r ck k : Nat} {T : List (Bl × Nat)} {s : Bl} (ho : o.op = .mapUpdate t x y z) (hx : ev x = .map (some r)) (hy : ev y = .string (mkS s)) (hz : ev z = .int .i64 (k : Int)) (hu : Try.prog.underlying t = some (.map 9 3)) (hG : G r = some (.map (encT T) ck)) (h : lookT T s = none) :
  aop Try.prog o ev G n = .val undef [(r, some (.map (encT (T ++ [(s, k)])) (ck + 1)))] 0 := by
 unfold aop aop0 aStr
 simp only [ho, ORes.or]
 unfold zGi
 simp only [hu, hx, hy, hz, hG, Try.underlying9, zEl, zTp, Bool.and_self, cond_true, zKb 0 h]
 unfold encT
 rw [List.map_append]; rfl
end
def packN (T : List (Bl × Nat)) (a : Nat) : Nat → Bl → Nat → Bl × List (Bl × Nat)
 | 0, _, _ => ([], [])
 | f + 1, t, o =>
  let c := (t.getD 0 0).toNat
  if c = 0 then ([0], []) else
  match lookT T t with
  | some k => ([UInt8.ofNat (192 + k / 256), UInt8.ofNat (k % 256)], [])
  | none =>
   let r := packN T a f (t.drop (c + 1)) (o + c + 1)
   (t.take (c + 1) ++ r.1, if a + o < 16384 then (t, a + o) :: r.2 else r.2)
end Go.Proofs.Ytmpaeabkdhjamaa
namespace Go.Proofs.Ytmpaeabkdhjamaa
open Go Go.RowKit
noncomputable def inl_put : Ct Try.prog 0 := Ct.inl (tbOf mixed []) mixed [] 84 Try.f84 Try.func84 (bodyOf Try.f84) (by kernel_rfl)
noncomputable def tbPk3 : Tb Try.prog 0 := tbOf mixed [inl_put]
def hi8 (v : Nat) : UInt8 := UInt8.ofNat (v / 256)
def lo8 (v : Nat) : UInt8 := UInt8.ofNat (v % 256)
theorem fdivP (v : Nat) (k : Nat) : Int.fdiv (v : Int) (2 ^ k) = ((v / 2 ^ k : Nat) : Int) := by
 have : ((2 : Int) ^ k) = ((2 ^ k : Nat) : Int) := by norm_cast
 rw [this, Int.ofNat_fdiv]
theorem wrap8 {n : Nat} : IntKind.u8.wrap (n : Int) = ((UInt8.ofNat n).toNat : Int) := by
 have h : IntKind.u8.wrap (n : Int) = (n : Int) % 256 := rfl
 rw [h]; simp
theorem put16_fn (v : Nat) (h : v < 65536) : ∃ r, FnS Try.prog 0 67 [.int .i64 (v : Int)] .e 0 r ∧ ∃ H m wr, r = .ret (.tuple #[.slice (some ⟨4, 0, none⟩) 2 U, .int .i64 0]) H m wr ∧ H.get 4 = some (.cells ([hi8 v, lo8 v].map byV) 5) := by
 have a1 : shrI .i64 (v : Int) (IntKind.i64.wrap (8 * 2)) = 0 := by
  show Int.fdiv (v : Int) (2 ^ 16) = 0
  rw [fdivP]; omega
 have a2 : IntKind.u8.wrap (shrI .i64 (v : Int) (IntKind.i64.wrap (8 * IntKind.i64.wrap (IntKind.i64.wrap (2 - 1) - 0)))) = ((hi8 v).toNat : Int) := by
  show IntKind.u8.wrap (Int.fdiv (v : Int) (2 ^ 8)) = _
  rw [fdivP]; exact wrap8
 have a3 : IntKind.u8.wrap (shrI .i64 (v : Int) (IntKind.i64.wrap (8 * IntKind.i64.wrap (IntKind.i64.wrap (2 - 1) - IntKind.i64.wrap (0 + 1))))) = ((lo8 v).toNat : Int) := by
  show IntKind.u8.wrap (Int.fdiv (v : Int) (2 ^ 0)) = _
  rw [fdivP]
  have : IntKind.u8.wrap ((v / 2 ^ 0 : Nat) : Int) = ((v / 2 ^ 0 : Nat) : Int) % 256 := rfl
  rw [this]; unfold lo8; simp
 refine zBm mixed tbPk3 [] Try.func67 (c := bodyOf Try.f67) (by kernel_rfl) ?_
 refine ifK (fun g => by have g : (shrI .i64 (v : Int) (IntKind.i64.wrap (8 * 2)) != 0) = true := g; rw [a1] at g; cases g) (fun _ => ?_)
 refine And.intro (by kernel_rfl) ?_
 refine ⟨_, _, _, rfl, ?_⟩
 show some (AObj.cells [.int .u8 _, .int .u8 _] _) = _
 rw [a2, a3]; rfl
noncomputable def zTc : Ct Try.prog 0 :=
 CtR.ct { f := 67, X := Nat, pre := fun v a _ _ => a = [.int .i64 (v : Int)] ∧ v < 65536,
          out := fun v H n => .ret (.tuple #[.slice (some ⟨n, 0, none⟩) 2 U, .int .i64 0]) (layN H n [([hi8 v, lo8 v].map byV, 5)]) (n + 1) [],
          ok := fun v a H n ⟨h1, h2⟩ => by
           subst h1
           obtain ⟨r, hF, H', m, wr, rfl, hg⟩ := put16_fn v h2
           refine zGj (fun n => .tuple #[.slice (some ⟨n, 0, none⟩) 2 U, .int .i64 0]) [] [4] [([hi8 v, lo8 v].map byV, 5)] hF (fun k _ => Nat.zero_le k) (fun i j o hij hi => by simp at hi) (ArgOK.of (.cons _ _ _ _ (.int _ _) .nil)) (fun k o hk => by cases hk) (by decide) (fun x hx => by simp at hx; subst hx; exact ⟨Nat.zero_le _, by decide⟩) rfl (fun i b xs e hb hc => ?_)
            (fun n => .tuple _ _ (.cons _ _ _ _ (.sl _ _ _ _ _ (zDt 0 (by decide) (Nat.zero_le _) rfl)) (.cons _ _ _ _ (.int _ _) .nil)))
           match i, hb, hc with
           | 0, hb, hc => cases hb; cases hc; exact ⟨hg, zAb _⟩
           | i + 1, hb, hc => simp at hb,
          uniq := fun x y a H n ⟨h1, _⟩ ⟨k1, _⟩ => by
           rw [h1] at k1
           simp only [List.cons.injEq, Value.int.injEq, true_and, and_true] at k1
           have : x = y := by omega
           rw [this] }
end Go.Proofs.Ytmpaeabkdhjamaa
namespace Go.Proofs.Ytmpaeabkdhjamaa
open Go Go.RowKit
inductive Nm : Bs → Prop
 | root : Nm [0]
 | lab (c : UInt8) (x r : Bs) (h1 : 0 < c.toNat) (h2 : c.toNat ≤ 63) (hx : x.length = c.toNat) (hr : Nm r) : Nm (c :: (x ++ r))
theorem Nm.pos {l : Bs} (h : Nm l) : 0 < l.length := by cases h <;> simp
theorem zMd : ∀ (f : Nat) (l : Bs), l.length < f → (none ∉ nameSeq f l ↔ Nm l)
 | f + 1, l, hf => by
  rw [nameSeq]
  by_cases h0 : l = [0]
  ·rw [if_pos h0, h0]; exact ⟨fun _ => .root, fun _ => by simp⟩
  rw [if_neg h0]
  by_cases h1 : l.length = 0 ∨ bt l 0 = 0 ∨ 63 < bt l 0 ∨ l.length ≤ bt l 0
  ·rw [if_pos h1]
   refine ⟨fun h => absurd (by simp) h, fun h => ?_⟩
   exfalso
   cases h with
   | root => exact h0 rfl
   | lab c x r g1 g2 g3 g4 =>
    have hb : bt (c :: (x ++ r)) 0 = c.toNat := rfl
    rw [hb] at h1
    simp only [List.length_cons, List.length_append] at h1
    omega
  ·rw [if_neg h1]
   cases l with
   | nil => exact absurd (.inl rfl) h1
   | cons c tl =>
    have hb : bt (c :: tl) 0 = c.toNat := rfl
    rw [hb] at h1 ⊢
    have e1 : (c :: tl).drop (1 + c.toNat) = tl.drop c.toNat := by rw [Nat.add_comm]; rfl
    rw [e1]
    simp only [List.length_cons] at h1 hf
    have ih := zMd f (tl.drop c.toNat) (by rw [List.length_drop]; omega)
    have e2 : (none ∉ some ((c :: tl).tail.take c.toNat) :: nameSeq f (tl.drop c.toNat)) ↔ none ∉ nameSeq f (tl.drop c.toNat) := by simp
    rw [e2, ih]
    constructor
    ·intro h
     have := Nm.lab c (tl.take c.toNat) (tl.drop c.toNat) (by omega) (by omega) (by rw [List.length_take]; omega) h
     rwa [List.take_append_drop] at this
    ·intro h
     generalize hq : c :: tl = q at h
     cases h with
     | root => exact absurd hq h0
     | lab c' x r g1 g2 g3 g4 =>
      simp only [List.cons.injEq] at hq
      obtain ⟨rfl, rfl⟩ := hq
      rw [← g3, List.drop_left]; exact g4
theorem zAv (l : Bs) : (labels l).2 = 0 ↔ Nm l ∧ l.length ≤ 255 := by
 have h := zMd (l.length + 1) l (by omega)
 unfold labels
 by_cases h1 : none ∈ nameSeq (l.length + 1) l
 ·rw [if_pos h1]
  exact ⟨fun e => (by cases e), fun e => absurd h1 (h.2 e.1)⟩
 ·rw [if_neg h1]
  by_cases h2 : 255 < l.length
  ·rw [if_pos h2]; exact ⟨fun e => (by cases e), fun e => by omega⟩
  ·rw [if_neg h2]; exact ⟨fun _ => ⟨h.1 h1, by omega⟩, fun _ => rfl⟩
theorem lo_small {c : UInt8} (h : c.toNat ≤ 64) : lo c = c := by unfold lo; rw [if_neg (by omega)]
theorem zPn (a b : Bs) : lower (a ++ b) = lower a ++ lower b := by simp [lower]
theorem Nm.lower {l : Bs} (h : Nm l) : Nm (lower l) := by
 induction h with
 | root => exact .root
 | lab c x r h1 h2 hx hr ih =>
  have e : Go.Proofs.Ytmpaeabkdhjamaa.lower (c :: (x ++ r)) = c :: (Go.Proofs.Ytmpaeabkdhjamaa.lower x ++ Go.Proofs.Ytmpaeabkdhjamaa.lower r) := by
   rw [← zPn]
   show lo c :: _ = _
   rw [lo_small (by omega)]; rfl
  rw [e]
  exact .lab c _ _ h1 h2 (by rw [zKf, hx]) ih
theorem zVg {l : Bs} {k : Nat} (h : front l = some k) : Nm (l.take k) ∧ (l.take k).length = k ∧ k ≤ 255 ∧ (labels (l.take k)).2 = 0 := by
 have h1 := zFx h
 have h2 := front_len h
 unfold front at h
 split at h
 ·rename_i j hj
  split at h
  ·rename_i hl
   cases h
   exact ⟨((zAv _).1 hl).1, by rw [List.length_take]; omega, h2, hl⟩
  ·cases h
 ·cases h
end Go.Proofs.Ytmpaeabkdhjamaa
namespace Go.Proofs.Ytmpaeabkdhjamaa
open Go Go.RowKit
theorem zAh {σ : Nat → Nat → Prop} (T : List (Bl × Nat)) : RM σ (encT T) (encT T) := by
 induction T with
 | nil => exact .nil
 | cons p T ih => exact .cons _ _ _ _ (.string _) (.int _ _) ih
def pkS (a : Nat) (en : Int) (T : List (Bl × Nat)) (ck : Nat) (x : Bl × List (Bl × Nat) × Bl) (f : Nat → Option Value) : Fs := match x with
 | ([], F, t) => ⟨slots 7 [(0, .pointer (some ⟨0, 0, none⟩)), (1, .int .i64 (a : Int)), (9, .slice none 0 0), (10, .map (some 2)), (11, .string (mkS t))] f, heap 3 [(0, .cells [.map (some 1), .int .i64 en] 73), (1, .map (encT T) ck), (2, .map (encT F) F.length)], 3, [], []⟩
 | (u :: us, F, t) => ⟨slots 7 [(0, .pointer (some ⟨0, 0, none⟩)), (1, .int .i64 (a : Int)), (9, .slice (some ⟨3, 0, none⟩) (us.length + 1) U), (10, .map (some 2)), (11, .string (mkS t))] f, heap 3 [(0, .cells [.map (some 1), .int .i64 en] 73), (1, .map (encT T) ck), (2, .map (encT F) F.length), (3, .cells ((u :: us).map byV) 5)], 4, [], []⟩
def pkE (a : Nat) (en : Int) (T : List (Bl × Nat)) (ck : Nat) (u : UInt8) (us : Bl) (F : List (Bl × Nat)) (f : Nat → Option Value) : Fs := ⟨slots 7 [(0, .pointer (some ⟨0, 0, none⟩)), (1, .int .i64 (a : Int)), (9, .slice (some ⟨3, 0, none⟩) (us.length + 1) U), (10, .map (some 2))] f, heap 3 [(0, .cells [.map (some 1), .int .i64 en] 73), (1, .map (encT T) ck), (2, .map (encT F) F.length), (3, .cells ((u :: us).map byV) 5)], 4, [], []⟩
noncomputable def tbPk4 : Tb Try.prog 0 := tbOf mixed [zIx, zTc]
theorem zAs (l : Bl) : (mkS l).data.size = l.length := by simp [mkS]
theorem zJn (l : Bl) (i : Nat) : atS (mkS l) (i : Int) = l.getD i 0 := by simp [atS, mkS]
def goodT (T : List (Bl × Nat)) : Prop := (T.map (·.1)).Nodup ∧ ∀ p ∈ T, p.2 < 16384
theorem zEh {s : Bl} {k : Nat} : ∀ {T : List (Bl × Nat)}, lookT T s = some k → (s, k) ∈ T
 | (t, j) :: T, h => by
  unfold lookT at h
  split at h
  ·rename_i e; subst e; cases h; exact List.mem_cons_self ..
  ·exact List.mem_cons_of_mem _ (zEh h)
theorem or_low {k : Nat} (h : k < 16384) : bitsI .or .i64 49152 (k : Int) = ((49152 + k : Nat) : Int) := by
 have e : bitsI .or .i64 49152 (k : Int) = IntKind.i64.wrap (BitVec.ofInt 64 49152 ||| BitVec.ofInt 64 (k : Int)).toNat := rfl
 have e1 : (BitVec.ofInt 64 (k : Int)).toNat = k := by rw [BitVec.toNat_ofInt]; omega
 have e2 : (BitVec.ofInt 64 49152).toNat = 2 ^ 14 * 3 := by decide
 rw [e, BitVec.toNat_or, e1, e2, ← Nat.two_pow_add_eq_or_of_lt (i := 14) h 3]
 exact zAq (by omega) (by omega)
theorem zLu (k : Nat) : hi8 (49152 + k) = UInt8.ofNat (192 + k / 256) := by unfold hi8; congr 1; omega
theorem zLy (k : Nat) : lo8 (49152 + k) = UInt8.ofNat (k % 256) := by unfold lo8; congr 1; omega
theorem name_loop (a : Nat) (en : Int) (T : List (Bl × Nat)) (ck : Nat) (B : Bl) (ha : a ≤ 65535) (hT : goodT T) (hB : Nm B) (hlB : B.length ≤ 255) {s0 : Fs} {K : Ex → Fs → Prop}
  (h0 : ∃ f, RcM Try.prog 0 2 (3 + (Try.f43.ntmps - 3)) none s0 (pkS a en T ck ([], [], B) f))
  (hex : ∀ u us F f, (u :: us, F) = packN T a B.length B 0 → (u :: us).length ≤ 257 → K (.exit 1) (pkE a en T ck u us F f)) :
  LW Try.prog 0 2 (3 + (Try.f43.ntmps - 3)) none (loopAt Try.f43 0) s0 K := by
 have h1s : (Try.prog.types[5]).size = 1 := by kernel_rfl
 have hby : (Try.prog.types[5]).bytes = 1 := by kernel_rfl
 obtain ⟨R, hR⟩ : ∃ R, packN T a B.length B 0 = R := ⟨_, rfl⟩
 rw [hR] at hex
 refine zBs (pkS a en T ck) (fun x => x.2.2.length) (fun x => Nm x.2.2 ∧ x.1.length + x.2.2.length ≤ 255 ∧ (∀ p ∈ x.2.1, x.2.2.length < p.1.length) ∧ ∃ f, x.2.2.length ≤ f ∧ (x.1 ++ (packN T a f x.2.2 x.1.length).1, x.2.1 ++ (packN T a f x.2.2 x.1.length).2) = R) ([], [], B) ⟨hB, by show 0 + B.length ≤ 255; omega, (fun p hp => by cases hp), B.length, Nat.le_refl _, hR⟩ h0 ?_
 rintro ⟨out, F, t⟩ f ⟨hnm, hlen, hF, fu, hfu, hpk⟩
 have hnm : Nm t := hnm
 have hlen : out.length + t.length ≤ 255 := hlen
 have hF : ∀ p ∈ F, t.length < p.1.length := hF
 have hfu : t.length ≤ fu := hfu
 have hpk : (out ++ (packN T a fu t out.length).1, F ++ (packN T a fu t out.length).2) = R := hpk
 have hpos := hnm.pos
 obtain ⟨fu, rfl⟩ : ∃ g, fu = g + 1 := ⟨fu - 1, by omega⟩
 obtain ⟨c, hc⟩ : ∃ c, (t.getD 0 0).toNat = c := ⟨_, rfl⟩
 have hcl : c ≤ 63 := by rw [← hc]; cases hnm <;> simp <;> omega
 have hct : c ≠ 0 → c + 1 < t.length ∧ Nm (t.drop (c + 1)) := fun h => by
  cases hnm with
  | root => exact absurd (show c = 0 by rw [← hc]; rfl) h
  | lab c' x r h1 h2 hx hr =>
   have hc : c'.toNat = c := hc
   have e : (c' :: (x ++ r)).drop (c + 1) = r := by rw [List.drop_succ_cons, ← hc, ← hx, List.drop_left]
   refine ⟨?_, by rw [e]; exact hr⟩
   have := hr.pos
   simp; omega
 have hFn : lookT F t = none := zEi.2 fun h => by
  obtain ⟨p, hp, he⟩ := List.mem_map.1 h
  have := hF p hp
  rw [he] at this; omega
 unfold packN at hpk
 simp only [hc] at hpk
 have es : inI 0 (mkS t).data.size = true := by rw [zAs]; simp [inI]; omega
 have ec : ((atS (mkS t) 0).toNat : Int) = (c : Int) := by rw [show (0 : Int) = ((0 : Nat) : Int) from rfl, zJn, hc]
 have ew : IntKind.i64.wrap (1 + IntKind.i64.wrap ((atS (mkS t) 0).toNat : Int)) = ((c + 1 : Nat) : Int) := by
  rw [ec, zAq (x := (c : Int)) (by omega) (by omega), zAq (by omega) (by omega)]; omega
 have hsl : c ≠ 0 → inLH 0 (IntKind.i64.wrap (1 + IntKind.i64.wrap ((atS (mkS t) 0).toNat : Int))) (mkS t).data.size = true := fun h => by
  have := (hct h).1
  rw [ew, zAs]; simp [inLH]; omega
 have hsl2 : c ≠ 0 → inLH (IntKind.i64.wrap (1 + IntKind.i64.wrap ((atS (mkS t) 0).toNat : Int))) ((mkS t).data.size : Int) (mkS t).data.size = true := fun h => by
  have := (hct h).1
  rw [ew, zAs]; simp [inLH]; omega
 have edrop : subS (mkS t) (IntKind.i64.wrap (1 + IntKind.i64.wrap ((atS (mkS t) 0).toNat : Int))).toNat (((mkS t).data.size : Int)).toNat = mkS (t.drop (c + 1)) := by
  rw [ew, Int.toNat_natCast, Int.toNat_natCast, zAs]
  simp [subS, mkS]
 have esub : ∀ lo : Nat, lo = 0 → (subS (mkS t) lo (IntKind.i64.wrap (1 + IntKind.i64.wrap ((atS (mkS t) 0).toNat : Int))).toNat).data.toList = t.take (c + 1) := fun lo h => by
  subst h
  rw [ew, Int.toNat_natCast]; simp [subS, mkS]
 have hel : c ≠ 0 → (t.take (c + 1)).length = c + 1 := fun h => by have := (hct h).1; rw [List.length_take]; omega
 cases out with
 | nil =>
  refine zAn tbPk4 [1, 3, 900005, 900006] 2 _ none mixed _ _ _ ?_
  refine And.intro es ?_
  refine ifK (fun h1 => ?_) (fun h1 => ?_)
  ·have h1 : c = 0 := by have h1 : (((atS (mkS t) 0).toNat : Int) == 0) = true := h1; rw [ec] at h1; have : (c : Int) = 0 := by simpa using h1
                         omega
   rw [if_pos h1] at hpk
   refine Exists.intro [Value.int .u8 0] (And.intro rfl ?_)
   refine And.intro (by kernel_rfl) ?_
   refine And.intro rfl (zAi (rcq [2, 4] (d := 7) (d2 := 3) (lv := [(0, .pointer (some ⟨0, 0, none⟩)), (1, .int .i64 (a : Int)), (9, .slice (some ⟨3, 0, none⟩) (0 + 1) U), (10, .map (some 2))]) (bs := [(0, .cells [.map (some 1), .int .i64 en] 73), (1, .map (encT T) ck), (2, .map (encT F) F.length), (3, .cells (([0] : Bl).map byV) 5)]) (W := []) (m := 4) (df := []) ⟨⟨_, rfl, .ptr _ _ _ rfl⟩, ⟨_, rfl, .int _ _⟩, ⟨_, rfl, .sl _ _ _ _ _ rfl⟩, ⟨_, rfl, .map _ _ rfl⟩, trivial⟩ ⟨⟨by decide, _, rfl, RO.cells [_, _] [] _ _ (.cons _ _ _ _ (.map _ _ rfl) (.cons _ _ _ _ (.int _ _) .nil))⟩, ⟨by decide, _, rfl, RO.map _ _ _ (zAh _)⟩, ⟨by decide, _, rfl, RO.map _ _ _ (zAh _)⟩, bpo rfl, trivial⟩ .nil) (fun f => ?_))
   exact hex 0 [] F f (by rw [← hpk]; simp) (by decide)
  have h1 : c ≠ 0 := fun e => by have h1 : (((atS (mkS t) 0).toNat : Int) == 0) = false := h1; rw [ec, e] at h1; cases h1
  rw [if_neg h1] at hpk
  cases hlk : lookT T t with
  | some k =>
   rw [hlk] at hpk
   refine Exists.intro (Value.tuple #[.int .i64 (k : Int), .bool true]) (Exists.intro ([] : List (Nat × Option AObj)) (Exists.intro (0 : Nat) (And.intro ?_ ?_)))
   ·exact zOm rfl rfl rfl (by kernel_rfl) rfl hT.1 hlk
   have hk : k < 16384 := hT.2 _ (zEh hlk)
   have e1 : bitsI .or .i64 49152 (k : Int) = ((49152 + k : Nat) : Int) := or_low hk
   refine Exists.intro (49152 + k) (And.intro ⟨by show [Value.int .i64 (bitsI .or .i64 49152 (k : Int))] = _; rw [e1], by omega⟩ ?_)
   refine Exists.intro ([hi8 (49152 + k), lo8 (49152 + k)].map byV) (And.intro (by rw [h1s]; rfl) ?_)
   refine And.intro (by kernel_rfl) ?_
   refine And.intro rfl (zAi (rcq [2, 4] (d := 7) (d2 := 3) (lv := [(0, .pointer (some ⟨0, 0, none⟩)), (1, .int .i64 (a : Int)), (9, .slice (some ⟨3, 0, none⟩) (1 + 1) U), (10, .map (some 2))]) (bs := [(0, .cells [.map (some 1), .int .i64 en] 73), (1, .map (encT T) ck), (2, .map (encT F) F.length), (3, .cells ([hi8 (49152 + k), lo8 (49152 + k)].map byV) 5)]) (W := []) (m := 4) (df := []) ⟨⟨_, rfl, .ptr _ _ _ rfl⟩, ⟨_, rfl, .int _ _⟩, ⟨_, rfl, .sl _ _ _ _ _ rfl⟩, ⟨_, rfl, .map _ _ rfl⟩, trivial⟩ ⟨⟨by decide, _, rfl, RO.cells [_, _] [] _ _ (.cons _ _ _ _ (.map _ _ rfl) (.cons _ _ _ _ (.int _ _) .nil))⟩, ⟨by decide, _, rfl, RO.map _ _ _ (zAh _)⟩, ⟨by decide, _, rfl, RO.map _ _ _ (zAh _)⟩, bpo rfl, trivial⟩ .nil) (fun f => ?_))
   exact hex _ [_] F f (by rw [← hpk, zLu, zLy]; simp) (by simp)
  | none =>
   rw [hlk] at hpk
   refine Exists.intro (Value.tuple #[.int .i64 0, .bool false]) (Exists.intro ([] : List (Nat × Option AObj)) (Exists.intro (0 : Nat) (And.intro ?_ ?_)))
   ·exact zOl rfl rfl rfl (by kernel_rfl) rfl hlk
   have e2 : IntKind.i64.wrap ((a : Int) + ((0 : Nat) : Int)) = (a : Int) := zAq (by omega) (by omega)
   refine ifK (fun g => ?_) (fun g => ?_)
   ·have g : a < 16384 := by have g : decide (IntKind.i64.wrap ((a : Int) + ((0 : Nat) : Int)) < 16384) = true := g; rw [e2] at g; have := of_decide_eq_true g; omega
    refine Exists.intro undef (Exists.intro [((2 : Nat), some (AObj.map (encT (F ++ [(t, a)])) (F.length + 1)))] (Exists.intro (0 : Nat) (And.intro ?_ ?_)))
    ·exact zSx rfl rfl rfl (by show Value.int _ _ = _; rw [e2]) (by kernel_rfl) rfl hFn
    refine And.intro es ?_
    refine And.intro (hsl h1) ?_
    refine ifK (fun g => absurd (Nat.eq_of_beq_eq_true g) (by rw [esub (Int.toNat 0) rfl, hel h1]; omega)) (fun _ => ?_)
    refine And.intro (by rw [esub (Int.toNat 0) rfl, hel h1, hby, decide_eq_true (by omega), decide_eq_true (by omega)]; rfl) ?_
    refine And.intro es ?_
    refine And.intro (hsl2 h1) ?_
    obtain ⟨u, us, hu⟩ : ∃ u us, t.take (c + 1) = u :: us := by
     have := hel h1
     cases hq : t.take (c + 1) with
     | nil => rw [hq] at this; cases this
     | cons u us => exact ⟨u, us, rfl⟩
    have hul : (u :: us).length = 0 + c + 1 := by rw [← hu, hel h1]; omega
    have hc1 := hct h1
    refine ⟨(u :: us, F ++ [(t, a)], t.drop (c + 1)), ⟨hc1.2, ?_, ?_, fu, ?_, ?_⟩, ?_, ?_⟩
    ·show (u :: us).length + (t.drop (c + 1)).length ≤ 255
     have hlen : 0 + t.length ≤ 255 := hlen
     rw [hul, List.length_drop]; omega
    ·exact fun p hp => by
      rcases List.mem_append.1 hp with h | h
      ·have : t.length < p.1.length := hF p h
       show (t.drop (c + 1)).length < _; rw [List.length_drop]; omega
      ·rw [List.mem_singleton.1 h]; show (t.drop (c + 1)).length < t.length; rw [List.length_drop]; omega
    ·show (t.drop (c + 1)).length ≤ fu
     rw [List.length_drop]; omega
    ·show ((u :: us) ++ (packN T a fu (t.drop (c + 1)) (u :: us).length).1, F ++ [(t, a)] ++ (packN T a fu (t.drop (c + 1)) (u :: us).length).2) = R
     have hpk : ([] ++ (t.take (c + 1) ++ (packN T a fu (t.drop (c + 1)) (0 + c + 1)).1), F ++ (if a + 0 < 16384 then (t, a + 0) :: (packN T a fu (t.drop (c + 1)) (0 + c + 1)).2 else (packN T a fu (t.drop (c + 1)) (0 + c + 1)).2)) = R := hpk
     rw [← hpk, hul, if_pos (by omega)]; simp [← hu, List.append_assoc]
    ·show (t.drop (c + 1)).length < t.length
     rw [List.length_drop]; omega
    exact rcq [2, 3] ⟨⟨_, rfl, .ptr _ _ _ rfl⟩, ⟨_, rfl, .int _ _⟩, ⟨_, rfl, by rw [esub (Int.toNat 0) rfl, hu]; exact .sl _ _ _ _ _ rfl⟩, ⟨_, rfl, .map _ _ rfl⟩, ⟨_, rfl, by rw [edrop]; exact .string _⟩, trivial⟩ ⟨⟨by decide, _, rfl, RO.cells [_, _] [] _ _ (.cons _ _ _ _ (.map _ _ rfl) (.cons _ _ _ _ (.int _ _) .nil))⟩, ⟨by decide, _, rfl, RO.map _ _ _ (zAh _)⟩, ⟨by decide, _, rfl, by rw [List.length_append]; exact RO.map _ _ _ (zAh _)⟩, ⟨by decide, _, rfl, by rw [esub (Int.toNat 0) rfl, hu]; exact .same (zAb (u :: us))⟩, trivial⟩ .nil
   ·have g : ¬ a < 16384 := fun hlt => by have g : decide (IntKind.i64.wrap ((a : Int) + ((0 : Nat) : Int)) < 16384) = false := g; rw [e2] at g; exact absurd (show (a : Int) < 16384 by omega) (of_decide_eq_false g)
    refine And.intro es ?_
    refine And.intro (hsl h1) ?_
    refine ifK (fun g => absurd (Nat.eq_of_beq_eq_true g) (by rw [esub (Int.toNat 0) rfl, hel h1]; omega)) (fun _ => ?_)
    refine And.intro (by rw [esub (Int.toNat 0) rfl, hel h1, hby, decide_eq_true (by omega), decide_eq_true (by omega)]; rfl) ?_
    refine And.intro es ?_
    refine And.intro (hsl2 h1) ?_
    obtain ⟨u, us, hu⟩ : ∃ u us, t.take (c + 1) = u :: us := by
     have := hel h1
     cases hq : t.take (c + 1) with
     | nil => rw [hq] at this; cases this
     | cons u us => exact ⟨u, us, rfl⟩
    have hul : (u :: us).length = 0 + c + 1 := by rw [← hu, hel h1]; omega
    have hc1 := hct h1
    refine ⟨(u :: us, F, t.drop (c + 1)), ⟨hc1.2, ?_, ?_, fu, ?_, ?_⟩, ?_, ?_⟩
    ·show (u :: us).length + (t.drop (c + 1)).length ≤ 255
     have hlen : 0 + t.length ≤ 255 := hlen
     rw [hul, List.length_drop]; omega
    ·exact fun p hp => by
      have : t.length < p.1.length := hF p hp
      show (t.drop (c + 1)).length < _; rw [List.length_drop]; omega
    ·show (t.drop (c + 1)).length ≤ fu
     rw [List.length_drop]; omega
    ·show ((u :: us) ++ (packN T a fu (t.drop (c + 1)) (u :: us).length).1, F ++ (packN T a fu (t.drop (c + 1)) (u :: us).length).2) = R
     have hpk : ([] ++ (t.take (c + 1) ++ (packN T a fu (t.drop (c + 1)) (0 + c + 1)).1), F ++ (if a + 0 < 16384 then (t, a + 0) :: (packN T a fu (t.drop (c + 1)) (0 + c + 1)).2 else (packN T a fu (t.drop (c + 1)) (0 + c + 1)).2)) = R := hpk
     rw [← hpk, hul, if_neg (by omega)]; simp [← hu, List.append_assoc]
    ·show (t.drop (c + 1)).length < t.length
     rw [List.length_drop]; omega
    exact rcq [2, 3] ⟨⟨_, rfl, .ptr _ _ _ rfl⟩, ⟨_, rfl, .int _ _⟩, ⟨_, rfl, by rw [esub (Int.toNat 0) rfl, hu]; exact .sl _ _ _ _ _ rfl⟩, ⟨_, rfl, .map _ _ rfl⟩, ⟨_, rfl, by rw [edrop]; exact .string _⟩, trivial⟩ ⟨⟨by decide, _, rfl, RO.cells [_, _] [] _ _ (.cons _ _ _ _ (.map _ _ rfl) (.cons _ _ _ _ (.int _ _) .nil))⟩, ⟨by decide, _, rfl, RO.map _ _ _ (zAh _)⟩, ⟨by decide, _, rfl, RO.map _ _ _ (zAh _)⟩, ⟨by decide, _, rfl, by rw [esub (Int.toNat 0) rfl, hu]; exact .same (zAb (u :: us))⟩, trivial⟩ .nil
 | cons u us =>
  have hlen : us.length + 1 + t.length ≤ 255 := hlen
  have hpk : ((u :: us) ++ (if c = 0 then (([0] : Bl), ([] : List (Bl × Nat))) else match lookT T t with
   | some k => ([UInt8.ofNat (192 + k / 256), UInt8.ofNat (k % 256)], [])
   | none => (t.take (c + 1) ++ (packN T a fu (t.drop (c + 1)) (us.length + 1 + c + 1)).1, if a + (us.length + 1) < 16384 then (t, a + (us.length + 1)) :: (packN T a fu (t.drop (c + 1)) (us.length + 1 + c + 1)).2 else (packN T a fu (t.drop (c + 1)) (us.length + 1 + c + 1)).2)).1, F ++ (if c = 0 then (([0] : Bl), ([] : List (Bl × Nat))) else match lookT T t with
   | some k => ([UInt8.ofNat (192 + k / 256), UInt8.ofNat (k % 256)], [])
   | none => (t.take (c + 1) ++ (packN T a fu (t.drop (c + 1)) (us.length + 1 + c + 1)).1, if a + (us.length + 1) < 16384 then (t, a + (us.length + 1)) :: (packN T a fu (t.drop (c + 1)) (us.length + 1 + c + 1)).2 else (packN T a fu (t.drop (c + 1)) (us.length + 1 + c + 1)).2)).2) = R := hpk
  refine zAn tbPk4 [1, 3, 900005, 900006] 2 _ none mixed _ _ _ ?_
  refine And.intro es ?_
  refine ifK (fun h1 => ?_) (fun h1 => ?_)
  ·have h1 : c = 0 := by have h1 : (((atS (mkS t) 0).toNat : Int) == 0) = true := h1; rw [ec] at h1; have : (c : Int) = 0 := by simpa using h1
                         omega
   rw [if_pos h1] at hpk
   refine And.intro (by rw [hby, h1s]; simp only [Bool.and_eq_true, decide_eq_true_eq]; exact ⟨⟨⟨⟨⟨⟨rfl, rfl⟩, Nat.ble_eq_true_of_le (by simp)⟩, rfl⟩, (by omega)⟩, (by omega)⟩, Nat.ble_eq_true_of_le (by simp)⟩) ?_
   refine And.intro rfl (zAi (rcq [2, 5] (d := 7) (d2 := 3) (lv := [(0, .pointer (some ⟨0, 0, none⟩)), (1, .int .i64 (a : Int)), (9, .slice (some ⟨3, 0, none⟩) ((us ++ ([0] : Bl)).length + 1) U), (10, .map (some 2))]) (bs := [(0, .cells [.map (some 1), .int .i64 en] 73), (1, .map (encT T) ck), (2, .map (encT F) F.length), (3, .cells ((u :: (us ++ ([0] : Bl))).map byV) 5)]) (W := []) (m := 4) (df := []) ⟨⟨_, rfl, .ptr _ _ _ rfl⟩, ⟨_, rfl, .int _ _⟩, ⟨_, rfl, by rw [show (us ++ ([0] : Bl)).length + 1 = us.length + 1 + 1 by simp <;> omega]; exact .sl _ _ _ _ _ rfl⟩, ⟨_, rfl, .map _ _ rfl⟩, trivial⟩ ⟨⟨by decide, _, rfl, RO.cells [_, _] [] _ _ (.cons _ _ _ _ (.map _ _ rfl) (.cons _ _ _ _ (.int _ _) .nil))⟩, ⟨by decide, _, rfl, RO.map _ _ _ (zAh _)⟩, ⟨by decide, _, rfl, RO.map _ _ _ (zAh _)⟩, ⟨by decide, _, rfl, zBb (by rw [h1s, Nat.mul_one, List.take_of_length_le (by simp)]; simp <;> rfl) (zAb _)⟩, trivial⟩ .nil) (fun f => ?_))
   exact hex u (us ++ ([0] : Bl)) F f (by rw [← hpk]; simp) (by simp; omega)
  have h1 : c ≠ 0 := fun e => by have h1 : (((atS (mkS t) 0).toNat : Int) == 0) = false := h1; rw [ec, e] at h1; cases h1
  rw [if_neg h1] at hpk
  cases hlk : lookT T t with
  | some k =>
   rw [hlk] at hpk
   refine Exists.intro (Value.tuple #[.int .i64 (k : Int), .bool true]) (Exists.intro ([] : List (Nat × Option AObj)) (Exists.intro (0 : Nat) (And.intro ?_ ?_)))
   ·exact zOm rfl rfl rfl (by kernel_rfl) rfl hT.1 hlk
   have hk : k < 16384 := hT.2 _ (zEh hlk)
   have e1 : bitsI .or .i64 49152 (k : Int) = ((49152 + k : Nat) : Int) := or_low hk
   refine Exists.intro (49152 + k) (And.intro ⟨by show [Value.int .i64 (bitsI .or .i64 49152 (k : Int))] = _; rw [e1], by omega⟩ ?_)
   refine And.intro (by rw [hby, h1s]; simp only [Bool.and_eq_true, decide_eq_true_eq]; exact ⟨⟨⟨⟨⟨⟨rfl, rfl⟩, Nat.ble_eq_true_of_le (by simp)⟩, rfl⟩, (by omega)⟩, (by omega)⟩, Nat.ble_eq_true_of_le (by simp)⟩) ?_
   refine And.intro rfl (zAi (rcq [2, 5] (d := 7) (d2 := 3) (lv := [(0, .pointer (some ⟨0, 0, none⟩)), (1, .int .i64 (a : Int)), (9, .slice (some ⟨3, 0, none⟩) ((us ++ [hi8 (49152 + k), lo8 (49152 + k)]).length + 1) U), (10, .map (some 2))]) (bs := [(0, .cells [.map (some 1), .int .i64 en] 73), (1, .map (encT T) ck), (2, .map (encT F) F.length), (3, .cells ((u :: (us ++ [hi8 (49152 + k), lo8 (49152 + k)])).map byV) 5)]) (W := []) (m := 4) (df := []) ⟨⟨_, rfl, .ptr _ _ _ rfl⟩, ⟨_, rfl, .int _ _⟩, ⟨_, rfl, by rw [show (us ++ [hi8 (49152 + k), lo8 (49152 + k)]).length + 1 = us.length + 1 + 2 by simp <;> omega]; exact .sl _ _ _ _ _ rfl⟩, ⟨_, rfl, .map _ _ rfl⟩, trivial⟩ ⟨⟨by decide, _, rfl, RO.cells [_, _] [] _ _ (.cons _ _ _ _ (.map _ _ rfl) (.cons _ _ _ _ (.int _ _) .nil))⟩, ⟨by decide, _, rfl, RO.map _ _ _ (zAh _)⟩, ⟨by decide, _, rfl, RO.map _ _ _ (zAh _)⟩, ⟨by decide, _, rfl, zBb (by rw [h1s, Nat.mul_one, List.take_of_length_le (by simp)]; simp <;> rfl) (zAb _)⟩, trivial⟩ .nil) (fun f => ?_))
   exact hex u (us ++ [hi8 (49152 + k), lo8 (49152 + k)]) F f (by rw [← hpk, zLu, zLy]; simp) (by simp; omega)
  | none =>
   rw [hlk] at hpk
   refine Exists.intro (Value.tuple #[.int .i64 0, .bool false]) (Exists.intro ([] : List (Nat × Option AObj)) (Exists.intro (0 : Nat) (And.intro ?_ ?_)))
   ·exact zOl rfl rfl rfl (by kernel_rfl) rfl hlk
   have e2 : IntKind.i64.wrap ((a : Int) + ((us.length + 1 : Nat) : Int)) = ((a + (us.length + 1) : Nat) : Int) := by rw [zAq (by omega) (by omega)]; omega
   have hst : oneL ((t.take (c + 1)).map byV) = true := by unfold oneL; exact List.all_eq_true.2 (fun v hv => by obtain ⟨b, _, rfl⟩ := List.mem_map.1 hv; rfl)
   refine ifK (fun g => ?_) (fun g => ?_)
   ·have g : a + (us.length + 1) < 16384 := by have g : decide (IntKind.i64.wrap ((a : Int) + ((us.length + 1 : Nat) : Int)) < 16384) = true := g; rw [e2] at g; have := of_decide_eq_true g; omega
    refine Exists.intro undef (Exists.intro [((2 : Nat), some (AObj.map (encT (F ++ [(t, a + (us.length + 1))])) (F.length + 1)))] (Exists.intro (0 : Nat) (And.intro ?_ ?_)))
    ·exact zSx rfl rfl rfl (by show Value.int _ _ = _; rw [e2]) (by kernel_rfl) rfl hFn
    refine And.intro es ?_
    refine And.intro (hsl h1) ?_
    refine ifK (fun g => absurd (Nat.eq_of_beq_eq_true g) (by rw [esub (Int.toNat 0) rfl, hel h1]; omega)) (fun _ => ?_)
    refine And.intro (by rw [hby, h1s, esub (Int.toNat 0) rfl]; simp only [Bool.and_eq_true, decide_eq_true_eq]; exact ⟨⟨⟨⟨⟨⟨rfl, rfl⟩, Nat.ble_eq_true_of_le (by simp)⟩, hst⟩, (by omega)⟩, (by omega)⟩, Nat.ble_eq_true_of_le (by have := (hct h1).1; simp; omega)⟩) ?_
    refine And.intro es ?_
    refine And.intro (hsl2 h1) ?_
    have hc1 := hct h1
    have hull : (us ++ t.take (c + 1)).length + 1 = us.length + 1 + c + 1 := by rw [List.length_append, hel h1]; omega
    refine ⟨(u :: (us ++ t.take (c + 1)), F ++ [(t, a + (us.length + 1))], t.drop (c + 1)), ⟨hc1.2, ?_, ?_, fu, ?_, ?_⟩, ?_, ?_⟩
    ·show (us ++ t.take (c + 1)).length + 1 + (t.drop (c + 1)).length ≤ 255
     rw [hull, List.length_drop]; omega
    ·exact fun p hp => by
      rcases List.mem_append.1 hp with h | h
      ·have : t.length < p.1.length := hF p h
       show (t.drop (c + 1)).length < _; rw [List.length_drop]; omega
      ·rw [List.mem_singleton.1 h]; show (t.drop (c + 1)).length < t.length; rw [List.length_drop]; omega
    ·show (t.drop (c + 1)).length ≤ fu
     rw [List.length_drop]; omega
    ·show ((u :: (us ++ t.take (c + 1))) ++ (packN T a fu (t.drop (c + 1)) ((us ++ t.take (c + 1)).length + 1)).1, F ++ [(t, a + (us.length + 1))] ++ (packN T a fu (t.drop (c + 1)) ((us ++ t.take (c + 1)).length + 1)).2) = R
     rw [← hpk, hull]; simp only [if_pos g]; simp [List.append_assoc]
    ·show (t.drop (c + 1)).length < t.length
     rw [List.length_drop]; omega
    exact rcq [2, 4] ⟨⟨_, rfl, .ptr _ _ _ rfl⟩, ⟨_, rfl, .int _ _⟩, ⟨_, rfl, by rw [esub (Int.toNat 0) rfl, show (us ++ t.take (c + 1)).length + 1 = us.length + 1 + (t.take (c + 1)).length by rw [List.length_append]; omega]; exact .sl _ _ _ _ _ rfl⟩, ⟨_, rfl, .map _ _ rfl⟩, ⟨_, rfl, by rw [edrop]; exact .string _⟩, trivial⟩ ⟨⟨by decide, _, rfl, RO.cells [_, _] [] _ _ (.cons _ _ _ _ (.map _ _ rfl) (.cons _ _ _ _ (.int _ _) .nil))⟩, ⟨by decide, _, rfl, RO.map _ _ _ (zAh _)⟩, ⟨by decide, _, rfl, by rw [List.length_append]; exact RO.map _ _ _ (zAh _)⟩, ⟨by decide, _, rfl, zBb (by rw [esub (Int.toNat 0) rfl, h1s, Nat.mul_one, List.take_of_length_le (by simp)]; simp <;> rfl) (zAb _)⟩, trivial⟩ .nil
   ·have g : ¬ a + (us.length + 1) < 16384 := fun hlt => by have g : decide (IntKind.i64.wrap ((a : Int) + ((us.length + 1 : Nat) : Int)) < 16384) = false := g; rw [e2] at g; exact absurd (show ((a + (us.length + 1) : Nat) : Int) < 16384 by omega) (of_decide_eq_false g)
    refine And.intro es ?_
    refine And.intro (hsl h1) ?_
    refine ifK (fun g => absurd (Nat.eq_of_beq_eq_true g) (by rw [esub (Int.toNat 0) rfl, hel h1]; omega)) (fun _ => ?_)
    refine And.intro (by rw [hby, h1s, esub (Int.toNat 0) rfl]; simp only [Bool.and_eq_true, decide_eq_true_eq]; exact ⟨⟨⟨⟨⟨⟨rfl, rfl⟩, Nat.ble_eq_true_of_le (by simp)⟩, hst⟩, (by omega)⟩, (by omega)⟩, Nat.ble_eq_true_of_le (by have := (hct h1).1; simp; omega)⟩) ?_
    refine And.intro es ?_
    refine And.intro (hsl2 h1) ?_
    have hc1 := hct h1
    have hull : (us ++ t.take (c + 1)).length + 1 = us.length + 1 + c + 1 := by rw [List.length_append, hel h1]; omega
    refine ⟨(u :: (us ++ t.take (c + 1)), F, t.drop (c + 1)), ⟨hc1.2, ?_, ?_, fu, ?_, ?_⟩, ?_, ?_⟩
    ·show (us ++ t.take (c + 1)).length + 1 + (t.drop (c + 1)).length ≤ 255
     rw [hull, List.length_drop]; omega
    ·exact fun p hp => by
      have : t.length < p.1.length := hF p hp
      show (t.drop (c + 1)).length < _; rw [List.length_drop]; omega
    ·show (t.drop (c + 1)).length ≤ fu
     rw [List.length_drop]; omega
    ·show ((u :: (us ++ t.take (c + 1))) ++ (packN T a fu (t.drop (c + 1)) ((us ++ t.take (c + 1)).length + 1)).1, F ++ (packN T a fu (t.drop (c + 1)) ((us ++ t.take (c + 1)).length + 1)).2) = R
     rw [← hpk, hull]; simp only [if_neg g]; simp [List.append_assoc]
    ·show (t.drop (c + 1)).length < t.length
     rw [List.length_drop]; omega
    exact rcq [2, 4] ⟨⟨_, rfl, .ptr _ _ _ rfl⟩, ⟨_, rfl, .int _ _⟩, ⟨_, rfl, by rw [esub (Int.toNat 0) rfl, show (us ++ t.take (c + 1)).length + 1 = us.length + 1 + (t.take (c + 1)).length by rw [List.length_append]; omega]; exact .sl _ _ _ _ _ rfl⟩, ⟨_, rfl, .map _ _ rfl⟩, ⟨_, rfl, by rw [edrop]; exact .string _⟩, trivial⟩ ⟨⟨by decide, _, rfl, RO.cells [_, _] [] _ _ (.cons _ _ _ _ (.map _ _ rfl) (.cons _ _ _ _ (.int _ _) .nil))⟩, ⟨by decide, _, rfl, RO.map _ _ _ (zAh _)⟩, ⟨by decide, _, rfl, RO.map _ _ _ (zAh _)⟩, ⟨by decide, _, rfl, zBb (by rw [esub (Int.toNat 0) rfl, h1s, Nat.mul_one, List.take_of_length_le (by simp)]; simp <;> rfl) (zAb _)⟩, trivial⟩ .nil
end Go.Proofs.Ytmpaeabkdhjamaa
namespace Go.Proofs.Ytmpaeabkdhjamaa
open Go Go.RowKit
theorem zNl {F : Fence} {n : Nat} {P : Program} {c : Code} {Q Q' : Exit → Act → World → Prop} {a : Act} {w : World} (h : zDo F n P c Q a w) (hq : ∀ e a' w', Q e a' w' → Q' e a' w') : zDo F n P c Q' a w := fun b k cs h1 h2 h3 => by
 obtain ⟨e, a', w', q1, q2⟩ := h b k cs h1 h2 h3
 exact ⟨e, a', w', hq _ _ _ q1, q2⟩
theorem zPo {P : Program} {g0 k0 nt : Nat} {rd : Option Nat} {c : Code} {s s' : Fs} {x : Ex} (h : LoopOK P g0 nt rd c s x s') (hJ : s'.n ≤ JJ) (hW : ∀ k ∈ s'.wr, k < JJ) (hk : k0 ≤ s.n) : LSem P g0 k0 nt rd c s x s' := by
 obtain ⟨⟨hg, hwr⟩, hw⟩ := h
 refine ⟨Nat.le_trans hk hg.le, fun i hi _ => hwr i hi, fun E a w hf => ?_⟩
 have hfree : Free E s.n s'.n := fun k h1 h2 hd => by rcases hf.top k hd with h3 | h3 <;> omega
 refine zNl (hw E w E a w ⟨hf.tr, hf.hr, hf.lw, (Stp.refl E w).sub (fun _ h => by cases h), hf.df, hf.gl, hf.rd⟩ hfree) ?_
 rintro e a' w' ⟨E', hx, ht, hf', he⟩
 have hle := hg.le
 refine ⟨E', ⟨hf'.tr, hf'.hr, hf'.lw, hf'.df, hf'.gl, hf'.rd, fun k hd => ?_⟩, he, ⟨fun i hi => ?_, fun i _ hd => hx.ρ i hd, fun i _ hd => hx.tot i hd, fun i _ hd => hx.sz i hd, fun i _ hd => hx.sh i hd, fun i _ hd => hx.ro i hd, fun hn i hi hiJ hd => ?_, hf'.stp.os, hf'.stp.tape, hf'.stp.output, hf'.stp.size, fun b hb hx' => ?_, fun i hi hiJ hd => ?_⟩⟩
 ·rcases (ht k).1 hd with h1 | h1
  ·rcases hf.top k h1 with h2 | h2
   ·exact .inl (by omega)
   ·exact .inr h2
  ·exact .inl h1.2
 ·rw [ht i]; exact ⟨fun h => h.resolve_right (by omega), .inl⟩
 ·by_cases h1 : E.dom i
  ·exact fun x => hn i hi hiJ h1 ((hx.ro i h1).1 x)
  ·exact (hf'.stp.fresh i h1 hd).1
 ·exact hf'.stp.block b hb (fun id hid hd hr => hx' id ⟨hd, hW id hid, fun _ => ⟨hid, hr⟩⟩)
 ·by_cases h1 : E.dom i
  ·exact .inr ⟨i, ⟨h1, hiJ, fun h => by omega⟩, (hx.ρ i h1).symm⟩
  ·exact (hf'.stp.fresh i h1 hd).2.imp (fun h => h) (fun ⟨o, ho, hd', hr, e⟩ => ⟨o, ⟨hd', hW o ho, fun _ => ⟨ho, hr⟩⟩, e.symm⟩)
theorem zMb {P : Program} {g0 k0 nt : Nat} {rd : Option Nat} {c : Code} {s s' : Fs} {x : Ex} {K : Ex → Fs → Prop} (h : mloop P g0 nt c s = some (.code x s')) (hJ : s'.n ≤ JJ) (hW : ∀ k ∈ s'.wr, k < JJ) (hk : K x s') : LW P g0 k0 nt rd c s K :=
 fun _ h2 => ⟨x, s', zPo (zTv h) hJ hW h2, hk⟩
section
variable {P : Program} {g0 nt : Nat}
theorem zVo {c : Code} {s : Fs} {L : MLoop} {K : MKeys} {b m since ck : Nat} (h1 : mparse c = some L) (h2 : mkeys L = some K) (h3 : aev s.T K.it0 = .pointer (some ⟨b, 0, none⟩)) (h4 : s.H.get b = some (.mit m since)) (h5 : s.H.get m = some (.map [] ck)) (h6 : (since.beq ck && !(m.beq b)) = true)
  (h7 : (mend P g0 nt L K (s.H.set b none).get s.n b s.T).isSome = true) : mloop P g0 nt c s = some (.code (.exit L.x) { s with T := (mend P g0 nt L K (s.H.set b none).get s.n b s.T).get h7, H := s.H.set b none, wr := b :: s.wr }) := by
 obtain ⟨T, hm⟩ := Option.isSome_iff_exists.1 h7
 have eT : (mend P g0 nt L K (s.H.set b none).get s.n b s.T).get h7 = T := by simp [hm]
 rw [eT]
 unfold mloop
 simp only [h1, h2, h3, h4, h5, h6, cond_true, hm]
theorem zVp {c : Code} {s : Fs} {L : MLoop} {K : MKeys} {b m since ck B ckB : Nat} {e : MapEntry} {es esB : List MapEntry} {kt et : TypeId} (h1 : mparse c = some L) (h2 : mkeys L = some K) (h3 : aev s.T K.it0 = .pointer (some ⟨b, 0, none⟩)) (h4 : s.H.get b = some (.mit m since)) (h5 : s.H.get m = some (.map (e :: es) ck)) (h6 : (since.beq ck && !(m.beq b)) = true)
  (h7 : (mslots P g0 nt L K (s.H.set b none).get s.n b s.T e).isSome = true) (h8 : aev ((mslots P g0 nt L K (s.H.set b none).get s.n b s.T e).get h7) K.um = .map (some B)) (h9 : (s.H.set b none).get B = some (.map esB ckB)) (h10 : P.underlying K.ut = some (.map kt et)) (h11 : B.beq m = false) (h12 : (P.underlying kt).isSome = true)
  (h13 : zAk (e :: es) = true) (h14 : zAk esB = true) (h15 : ((e :: es).all fun e => e.born.beq 0) = true) (h16 : ((e :: es).all fun e => keyOk P kt false e.key) = true) (h17 : ((e :: es).all fun e => zDh P kt e.key esB) = true) (h18 : zDu P kt (e :: es) = true)
  (h19 : ((e :: es).all fun x => mround P g0 nt L K ((s.H.set b none).set B none).get s.n b B (anonAll ((mslots P g0 nt L K (s.H.set b none).get s.n b s.T e).get h7) (mdsts L) s.T) s.T x) = true)
  (h20 : ((e :: es).all fun x => mround P g0 nt L K ((s.H.set b none).set B none).get s.n b B (anonAll ((mslots P g0 nt L K (s.H.set b none).get s.n b s.T e).get h7) (mdsts L) s.T) (anonAll ((mslots P g0 nt L K (s.H.set b none).get s.n b s.T e).get h7) (mdsts L) s.T) x) = true)
  (h21 : (mend P g0 nt L K ((s.H.set b none).set B none).get s.n b (anonAll ((mslots P g0 nt L K (s.H.set b none).get s.n b s.T e).get h7) (mdsts L) s.T)).isSome = true) :
  mloop P g0 nt c s = some (.code (.exit L.x) { s with T := (mend P g0 nt L K ((s.H.set b none).set B none).get s.n b (anonAll ((mslots P g0 nt L K (s.H.set b none).get s.n b s.T e).get h7) (mdsts L) s.T)).get h21, H := (s.H.set b none).set B (some (.map (esB ++ (e :: es)) (ckB + (e :: es).length))), wr := B :: b :: s.wr }) := by
 obtain ⟨Te, hTe⟩ : ∃ Te, mslots P g0 nt L K (s.H.set b none).get s.n b s.T e = some Te := Option.isSome_iff_exists.1 h7
 have eT : (mslots P g0 nt L K (s.H.set b none).get s.n b s.T e).get h7 = Te := by simp [hTe]
 simp only [eT] at h8 h19 h20 h21 ⊢
 obtain ⟨T, hm⟩ := Option.isSome_iff_exists.1 h21
 have eM : (mend P g0 nt L K ((s.H.set b none).set B none).get s.n b (anonAll Te (mdsts L) s.T)).get h21 = T := by simp [hm]
 rw [eM]
 unfold mloop
 simp only [h1, h2, h3, h4, h5, h6, cond_true, hTe, h8, h9, h10, h11, h12, h13, h14, h15, h16, h17, h18, Bool.not_false, Bool.and_self, h19, h20, hm]
end
noncomputable def pkL : MLoop := (mparse (loopAt Try.f43 1)).get (by kernel_rfl)
noncomputable def pkK : MKeys := (mkeys pkL).get (by kernel_rfl)
theorem not_elem {l : List Nat} {k : Nat} (h : l.elem k = false) : k ∉ l := fun hm => by rw [List.elem_eq_true_of_mem hm] at h; cases h
theorem all_lt {l : List Nat} (h : (l.all fun k => Nat.blt k JJ) = true) : ∀ k ∈ l, k < JJ := fun k hk => Nat.le_of_ble_eq_true (List.all_eq_true.1 h k hk)
theorem zGl (T : List (Bl × Nat)) (a : Nat) : ∀ (f : Nat) (t : Bl) (o : Nat), (∀ q ∈ (packN T a f t o).2, lookT T q.1 = none ∧ q.1.length ≤ t.length ∧ q.2 < 16384) ∧ ((packN T a f t o).2.map (·.1)).Nodup
 | 0, _, _ => ⟨(fun q hq => by cases hq), List.nodup_nil⟩
 | f + 1, t, o => by
  unfold packN
  by_cases hc : (t.getD 0 0).toNat = 0
  ·simp only [if_pos hc]; exact ⟨(fun q hq => by cases hq), List.nodup_nil⟩
  simp only [if_neg hc]
  cases hl : lookT T t with
  | some k => exact ⟨(fun q hq => by cases hq), List.nodup_nil⟩
  | none =>
   simp only []
   obtain ⟨h1, h2⟩ := zGl T a f (t.drop ((t.getD 0 0).toNat + 1)) (o + (t.getD 0 0).toNat + 1)
   have hpos : 0 < t.length := by
    cases t with
    | nil => exact absurd rfl hc
    | cons x t => simp
   have hlt : ∀ q ∈ (packN T a f (t.drop ((t.getD 0 0).toNat + 1)) (o + (t.getD 0 0).toNat + 1)).2, q.1.length < t.length := fun q hq => by
    have := (h1 q hq).2.1
    rw [List.length_drop] at this; omega
   split
   ·rename_i hlt2
    refine ⟨fun q hq => ?_, ?_⟩
    ·rcases List.mem_cons.1 hq with rfl | hq
     ·exact ⟨hl, Nat.le_refl _, hlt2⟩
     ·exact ⟨(h1 q hq).1, Nat.le_of_lt (hlt q hq), (h1 q hq).2.2⟩
    ·rw [List.map_cons, List.nodup_cons]
     refine ⟨fun hm => ?_, h2⟩
     obtain ⟨q, hq, he⟩ := List.mem_map.1 hm
     have he : q.1 = t := he
     have := hlt q hq
     rw [he] at this; omega
   ·exact ⟨fun q hq => ⟨(h1 q hq).1, Nat.le_of_lt (hlt q hq), (h1 q hq).2.2⟩, h2⟩
theorem zSy {T : List (Bl × Nat)} {s : Bl} (h : lookT T s = none) : zDh Try.prog 9 (.string (mkS s)) (encT T) = true := by
 unfold zDh
 refine List.all_eq_true.2 fun x hx => ?_
 obtain ⟨q, hq, rfl⟩ := List.mem_map.1 hx
 have hne : s ≠ q.1 := fun e => zEi.1 h (by rw [e]; exact List.mem_map_of_mem hq)
 rw [zOz, zPp, decide_eq_false hne]
theorem zJl : ∀ {F : List (Bl × Nat)}, (F.map (·.1)).Nodup → zDu Try.prog 9 (encT F) = true
 | [], _ => rfl
 | p :: F, h => by
  rw [List.map_cons, List.nodup_cons] at h
  show (zDh Try.prog 9 (.string (mkS p.1)) (encT F) && ((encT F).all fun x => match eqK Try.prog 9 x.key { key := .string (mkS p.1), val := .int .i64 (p.2 : Int), born := 0 } with | some false => true | _ => false) && zDu Try.prog 9 (encT F)) = true
  rw [zSy (zEi.2 h.1), zJl h.2, Bool.true_and, Bool.and_true]
  refine List.all_eq_true.2 fun x hx => ?_
  obtain ⟨q, hq, rfl⟩ := List.mem_map.1 hx
  have hne : q.1 ≠ p.1 := fun e => h.1 (by rw [← e]; exact List.mem_map_of_mem hq)
  show (match eqK Try.prog 9 (.string (mkS q.1)) { key := .string (mkS p.1), val := .int .i64 (p.2 : Int), born := 0 } with | some false => true | _ => false) = true
  rw [zOz, zPp, decide_eq_false hne]
theorem born_of (F : List (Bl × Nat)) : ((encT F).all fun e => e.born.beq 0) = true := by
 refine List.all_eq_true.2 fun x hx => ?_
 obtain ⟨q, _, rfl⟩ := List.mem_map.1 hx; rfl
theorem keys_of (F : List (Bl × Nat)) : ((encT F).all fun e => keyOk Try.prog 9 false e.key) = true := by
 refine List.all_eq_true.2 fun x hx => ?_
 obtain ⟨q, _, rfl⟩ := List.mem_map.1 hx; exact zTp _ _
theorem zRg (T F : List (Bl × Nat)) : encT T ++ encT F = encT (T ++ F) := by unfold encT; rw [List.map_append]
theorem zRh (F : List (Bl × Nat)) : (encT F).length = F.length := by unfold encT; rw [List.length_map]
theorem name_fn (a : Nat) (en : Nat) (T : List (Bl × Nat)) (ck : Nat) (B : Bl) (ha : a ≤ 65535) (hen : en ≤ a) (hT : goodT T) (hB : Nm B) (hlB : B.length ≤ 255) :
  ∃ r, FnS Try.prog 0 43 [.pointer (some ⟨0, 0, none⟩), .int .i64 (a : Int), .string (mkS B)] (heap 2 [(0, .cells [.map (some 1), .int .i64 (en : Int)] 73), (1, .map (encT T) ck)]) 2 r ∧
   ∃ H m wr b, r = .ret (.tuple #[.slice (some ⟨b, 0, none⟩) (packN T a B.length B 0).1.length U, .int .i64 0]) H m wr ∧ (2 ≤ b ∧ b < JJ ∧ 0 ∈ wr ∧ (1 ∈ wr ∨ 1 ∉ wr ∧ (packN T a B.length B 0).2 = [])) ∧ H.get b = some (.cells ((packN T a B.length B 0).1.map byV) 5) ∧
    H.get 0 = some (.cells [.map (some 1), .int .i64 ((a + (packN T a B.length B 0).1.length : Nat) : Int)] 73) ∧ H.get 1 = some (.map (encT (T ++ (packN T a B.length B 0).2)) (ck + (packN T a B.length B 0).2.length)) := by
 have hsh : shortB (mkS B) = true := by unfold shortB; rw [zAs]; exact Nat.ble_eq_true_of_le (by omega)
 have hlab : (labels (bs (mkS B))).2 = 0 := by rw [show bs (mkS B) = B from by simp [bs, mkS]]; exact (zAv B).2 ⟨hB, hlB⟩
 refine zBm mixed tbPk4 [1, 3, 900005, 900006] Try.func43 (c := bodyOf Try.f43) (by kernel_rfl) ?_
 refine And.intro hsh ?_
 refine ifK (fun g => by have g : ((labels (bs (mkS B))).2 != 0) = true := g; rw [hlab] at g; cases g) (fun _ => ?_)
 refine ifK (fun g => absurd (of_decide_eq_true g) (by omega)) (fun _ => ?_)
 refine ifK (fun g => absurd (of_decide_eq_true g) (by omega)) (fun _ => ?_)
 refine name_loop a (en : Int) T ck B ha hT hB hlB (rcq [2] ⟨⟨_, rfl, .ptr _ _ _ rfl⟩, ⟨_, rfl, .int _ _⟩, ⟨_, rfl, zAc 8 rfl⟩, ⟨_, rfl, .map _ _ rfl⟩, ⟨_, rfl, .string _⟩, trivial⟩ ⟨⟨by decide, _, rfl, RO.cells [_, _] [] _ _ (.cons _ _ _ _ (.map _ _ rfl) (.cons _ _ _ _ (.int _ _) .nil))⟩, ⟨by decide, _, rfl, RO.map _ _ _ (zAh _)⟩, ⟨by decide, _, rfl, RO.map _ _ _ .nil⟩, trivial⟩ .nil) ?_
 intro u us F f hR hl
 rw [← hR]
 have hul : us.length + 1 ≤ 257 := hl
 have e2 : IntKind.i64.wrap ((a : Int) + ((us.length + 1 : Nat) : Int)) = ((a + (us.length + 1) : Nat) : Int) := by rw [zAq (by omega) (by omega)]; omega
 cases F with
 | nil =>
  refine zMb (zVo (L := pkL) (K := pkK) (b := 4) (m := 2) (since := 0) (ck := 0) (by kernel_rfl) (by kernel_rfl) (by kernel_rfl) (by kernel_rfl) (by kernel_rfl) (by kernel_rfl) (by kernel_rfl)) ?_ ?_ ?_
  ·exact Nat.le_of_ble_eq_true (by kernel_rfl)
  ·exact all_lt (by kernel_rfl)
  refine ⟨_, _, _, 3, rfl, ⟨by decide, by decide, List.mem_of_elem_eq_true (by kernel_rfl), .inr ⟨not_elem (by kernel_rfl), rfl⟩⟩, rfl, ?_, ?_⟩
  ·show some (AObj.cells [.map (some 1), .int .i64 (IntKind.i64.wrap ((a : Int) + ((us.length + 1 : Nat) : Int)))] _) = _
   rw [e2]; rfl
  ·rw [List.append_nil]; rfl
 | cons p F =>
  obtain ⟨hf1, hnd⟩ := zGl T a B.length B 0
  rw [← hR] at hf1 hnd
  have hbe : (Nat.beq (F.length + 1) (F.length + 1) && !(Nat.beq 2 4)) = true := by rw [show Nat.beq (F.length + 1) (F.length + 1) = true by simp]; rfl
  refine zMb (zVp (L := pkL) (K := pkK) (b := 4) (m := 2) (since := F.length + 1) (ck := F.length + 1) (B := 1) (ckB := ck) (e := { key := .string (mkS p.1), val := .int .i64 (p.2 : Int), born := 0 }) (es := encT F) (esB := encT T) (kt := 9) (et := 3) (by kernel_rfl) (by kernel_rfl) (by kernel_rfl) (by kernel_rfl) (by kernel_rfl) hbe (by kernel_rfl) (by kernel_rfl) (by kernel_rfl) (by kernel_rfl) (by kernel_rfl) (by kernel_rfl) ?_ ?_ ?_ ?_ ?_ ?_ ?_ ?_ (by kernel_rfl)) ?_ ?_ ?_
  ·exact zEl (p :: F)
  ·exact zEl T
  ·exact born_of (p :: F)
  ·exact keys_of (p :: F)
  ·refine List.all_eq_true.2 fun x hx => ?_
   have hx : x ∈ encT (p :: F) := hx
   obtain ⟨q, hq, rfl⟩ := List.mem_map.1 hx
   exact zSy (hf1 q hq).1
  ·exact zJl (F := p :: F) hnd
  ·refine List.all_eq_true.2 fun x hx => ?_
   have hx : x ∈ encT (p :: F) := hx
   obtain ⟨q, _, rfl⟩ := List.mem_map.1 hx
   exact Eq.trans (b := ((decide ((mkS q.1).data.toList = (mkS q.1).data.toList) && (decide (IntKind.i64 = IntKind.i64) && decide ((q.2 : Int) = (q.2 : Int)))) && true)) (by kernel_rfl) (by simp)
  ·refine List.all_eq_true.2 fun x hx => ?_
   have hx : x ∈ encT (p :: F) := hx
   obtain ⟨q, _, rfl⟩ := List.mem_map.1 hx
   exact Eq.trans (b := ((decide ((mkS q.1).data.toList = (mkS q.1).data.toList) && (decide (IntKind.i64 = IntKind.i64) && decide ((q.2 : Int) = (q.2 : Int)))) && true)) (by kernel_rfl) (by simp)
  ·exact Nat.le_of_ble_eq_true (by kernel_rfl)
  ·exact all_lt (by kernel_rfl)
  refine ⟨_, _, _, 3, rfl, ⟨by decide, by decide, List.mem_of_elem_eq_true (by kernel_rfl), .inl (List.mem_of_elem_eq_true (by kernel_rfl))⟩, rfl, ?_, ?_⟩
  ·show some (AObj.cells [.map (some 1), .int .i64 (IntKind.i64.wrap ((a : Int) + ((us.length + 1 : Nat) : Int)))] _) = _
   rw [e2]; rfl
  ·show some (AObj.map (encT T ++ encT (p :: F)) (ck + (encT (p :: F)).length)) = _
   rw [zRg, zRh]
end Go.Proofs.Ytmpaeabkdhjamaa
namespace Go.Proofs.Ytmpaeabkdhjamaa
open Go Go.RowKit
def pnE (en : Nat) (a : Int) (s : ByteArray) : Int := if (labels (bs s)).2 ≠ 0 then (labels (bs s)).2 else if a < 0 ∨ a > 65535 then 2 else if a < en then 9 else 0
theorem nameE_fn (a : Int) (en : Nat) (T : List (Bl × Nat)) (ck : Nat) (s : ByteArray) (hs : shortB s = true) (he : pnE en a s ≠ 0) :
  ∃ r, FnS Try.prog 0 43 [.pointer (some ⟨0, 0, none⟩), .int .i64 a, .string s] (heap 2 [(0, .cells [.map (some 1), .int .i64 (en : Int)] 73), (1, .map (encT T) ck)]) 2 r ∧
   ∃ H m wr, r = .ret (.tuple #[.slice none 0 0, .int .i64 (pnE en a s)]) H m wr ∧ ∀ k ∈ wr, 2 ≤ k := by
 refine zBm mixed tbPk4 [1, 3, 900005, 900006] Try.func43 (c := bodyOf Try.f43) (by kernel_rfl) ?_
 unfold pnE at he ⊢
 refine And.intro hs ?_
 refine ifK (fun g => ?_) (fun g => ?_)
 ·have g : (labels (bs s)).2 ≠ 0 := by have g : ((labels (bs s)).2 != 0) = true := g; simpa using g
  rw [if_pos g]; exact ⟨_, _, _, rfl, zDm rfl⟩
 have g : (labels (bs s)).2 = 0 := by have g : ((labels (bs s)).2 != 0) = false := g; simpa using g
 rw [if_neg (by simpa using g)] at he ⊢
 refine ifK (fun h1 => ?_) (fun h1 => ?_)
 ·have h1 := of_decide_eq_true h1
  rw [if_pos (.inl h1)]; exact ⟨_, _, _, rfl, zDm rfl⟩
 have h1 := of_decide_eq_false h1
 refine ifK (fun h2 => ?_) (fun h2 => ?_)
 ·have h2 := of_decide_eq_true h2
  rw [if_pos (.inr h2)]; exact ⟨_, _, _, rfl, zDm rfl⟩
 have h2 := of_decide_eq_false h2
 rw [if_neg (by omega)] at he ⊢
 refine ifK (fun h3 => ?_) (fun h3 => ?_)
 ·have h3 := of_decide_eq_true h3
  rw [if_pos h3]; exact ⟨_, _, _, rfl, zDm rfl⟩
 have h3 := of_decide_eq_false h3
 rw [if_neg h3] at he
 exact absurd rfl he
theorem zNd : ∀ {T U : List (Bl × Nat)}, encT T = encT U → T = U
 | [], [], _ => rfl
 | [], _ :: _, h => by cases h
 | _ :: _, [], h => by cases h
 | (a, i) :: T, (b, j) :: U, h => by
  have h : ({ key := Value.string (mkS a), val := .int .i64 (i : Int), born := 0 } : MapEntry) :: encT T = { key := .string (mkS b), val := .int .i64 (j : Int), born := 0 } :: encT U := h
  simp only [List.cons.injEq, MapEntry.mk.injEq, Value.string.injEq, Value.int.injEq, true_and, and_true] at h
  obtain ⟨⟨h1, h2⟩, h3⟩ := h
  rw [zNo h1, zNd h3, show i = j by omega]
structure PkX where
 pb : Nat
 mb : Nat
 en : Nat
 T : List (Bl × Nat)
 ck : Nat
 a : Int
 s : ByteArray
 er : Bool
 o : Bl
 F : List (Bl × Nat)
theorem zJf {en : Nat} {a : Int} {s : ByteArray} (he : pnE en a s = 0) : ∃ k : Nat, a = (k : Int) ∧ k ≤ 65535 ∧ en ≤ k ∧ Nm (bs s) ∧ (bs s).length ≤ 255 ∧ mkS (bs s) = s := by
 unfold pnE at he
 have hl : (labels (bs s)).2 = 0 := by
  by_cases h : (labels (bs s)).2 = 0
  ·exact h
  ·rw [if_pos h] at he; exact absurd he h
 rw [if_neg (by simpa using hl)] at he
 have ha : ¬ (a < 0 ∨ a > 65535) := fun h => by rw [if_pos h] at he; cases he
 rw [if_neg ha] at he
 have hen : ¬ a < en := fun h => by rw [if_pos h] at he; cases he
 obtain ⟨hB, hlB⟩ := (zAv (bs s)).1 hl
 exact ⟨a.toNat, by omega, by omega, by omega, hB, hlB, by simp [mkS, bs]⟩
def pnR (en : Nat) (T : List (Bl × Nat)) (a : Int) (s : ByteArray) (er : Bool) (o : Bl) (F : List (Bl × Nat)) : Prop := er = decide (pnE en a s ≠ 0) ∧ (er = false → packN T a.toNat (bs s).length (bs s) 0 = (o, F))
theorem pnR.ne {en : Nat} {T : List (Bl × Nat)} {a : Int} {s : ByteArray} {o : Bl} {F : List (Bl × Nat)} (h : pnR en T a s true o F) : pnE en a s ≠ 0 := of_decide_eq_true h.1.symm
theorem pnR.eq {en : Nat} {T : List (Bl × Nat)} {a : Int} {s : ByteArray} {o : Bl} {F : List (Bl × Nat)} (h : pnR en T a s false o F) : pnE en a s = 0 := Decidable.not_not.1 (of_decide_eq_false h.1.symm)
theorem pnR.uniq {en : Nat} {T : List (Bl × Nat)} {a : Int} {s : ByteArray} {er er' : Bool} {o o' : Bl} {F F' : List (Bl × Nat)} (h : pnR en T a s er o F) (k : pnR en T a s er' o' F') : er = er' ∧ (er = false → o = o' ∧ F = F') := by
 obtain ⟨h1, h2⟩ := h
 obtain ⟨k1, k2⟩ := k
 have e : er = er' := h1.trans k1.symm
 subst e
 refine ⟨rfl, fun e => ?_⟩
 have := (h2 e).symm.trans (k2 e)
 simp only [Prod.mk.injEq] at this; exact this
theorem zRd {f : FuncId} {args args0 : List Value} {H H0 H' : Tr AObj} {n m pb mb b e0 ck k : Nat} {wr : List Nat} {T : List (Bl × Nat)} {r : Bl × List (Bl × Nat)} (hF : FnS Try.prog 0 f args0 H0 2 (.ret (.tuple #[.slice (some ⟨b, 0, none⟩) r.1.length U, .int .i64 0]) H' m wr))
  (hA : [pb, mb].Nodup) (hcb : CallB Try.prog [pb, mb] H H0) (harg : RL (caR [pb, mb]) args args0) (h2 : H.get pb = some (.cells [.map (some mb), .int .i64 (e0 : Int)] 73)) (h3 : H.get mb = some (.map (encT T) ck)) (hb2 : 2 ≤ b) (hbJ : b < JJ) (w0 : 0 ∈ wr) (w1 : 1 ∈ wr ∨ 1 ∉ wr ∧ r.2 = [])
  (g1 : H'.get b = some (.cells (r.1.map byV) 5)) (g2 : H'.get 0 = some (.cells [.map (some 1), .int .i64 ((k + r.1.length : Nat) : Int)] 73)) (g3 : H'.get 1 = some (.map (encT (T ++ r.2)) (ck + r.2.length))) (hw0 : ∀ j, j < 2 → ∀ o, H0.get j = some o → ¬ o.isWin) :
  CallOK Try.prog 0 f args H n (.ret (.tuple #[.slice (some ⟨n, 0, none⟩) r.1.length U, .int .i64 0]) (((H.set pb (some (.cells [.map (some mb), .int .i64 ((k + r.1.length : Nat) : Int)] 73))).set mb (some (.map (encT (T ++ r.2)) (ck + r.2.length)))).set n (some (.cells (r.1.map byV) 5))) (n + 1) [pb, mb]) := by
 have hne : pb ≠ mb := fun e => by subst e; simp at hA
 refine zCp (A := [pb, mb]) (B := [b]) rfl hF (zCx hA) (ArgOK.of harg) hcb (by simp) (fun x hx => by simp at hx; subst hx; exact ⟨hb2, hbJ⟩) (fun x hx => by simp at hx; subst hx; show H'.get x ≠ none; rw [g1]; simp)
  (.ret _ _ _ _ _ _ _ _ (.tuple _ _ (.cons _ _ _ _ (.sl _ _ _ _ _ (zFr (A := [pb, mb]) hb2)) (.cons _ _ _ _ (.int _ _) .nil)))) rfl ?_ ?_ ?_
 ·refine ⟨Nat.le_succ _, fun j hj hm => ?_, fun h0 => ?_⟩
  ·simp only [List.mem_cons, List.not_mem_nil, or_false, not_or] at hm
   rw [Tr.get_set_ne _ _ (by omega), Tr.get_set_ne _ _ hm.2, Tr.get_set_ne _ _ hm.1]
  ·have l1 := h0.lt (k := pb) (by rw [h2]; simp)
   have l2 := h0.lt (k := mb) (by rw [h3]; simp)
   intro j hj
   rw [Tr.get_set_ne _ _ (by omega), Tr.get_set_ne _ _ (by omega), Tr.get_set_ne _ _ (by omega)]
   exact h0 j (by omega)
 ·intro j hj hl
  have hl : j < 2 := hl
  refine ⟨hw0 j hl, fun i hi => ?_⟩
  match j, hi with
  | 0, hi => cases hi; exact ⟨⟨_, h2, fun h => h⟩, by show pb ∈ [pb, mb]; simp⟩
  | 1, hi => cases hi; exact ⟨⟨_, h3, fun h => h⟩, by show mb ∈ [pb, mb]; simp⟩
  | j + 2, _ => omega
 ·intro j o h
  have h : (((H.set pb (some (.cells [.map (some mb), .int .i64 ((k + r.1.length : Nat) : Int)] 73))).set mb (some (.map (encT (T ++ r.2)) (ck + r.2.length)))).set n (some (.cells (r.1.map byV) 5))).get j = some o := h
  by_cases hjn : j = n
  ·subst hjn
   rw [Tr.get_set_self] at h
   cases h
   exact .inr ⟨b, _, zFr (A := [pb, mb]) hb2, g1, .same (zAb _), fun h => by have h : b < 2 := h; omega⟩
  rw [Tr.get_set_ne _ _ hjn] at h
  by_cases hjm : j = mb
  ·subst hjm
   rw [Tr.get_set_self] at h
   cases h
   rcases w1 with w1 | ⟨w1, hr⟩
   ·exact .inr ⟨1, _, rfl, g3, RO.map _ _ _ (zAh _), fun _ => w1⟩
   ·refine .inl ⟨by rw [hr, List.append_nil]; exact h3, fun i hi hm => ?_⟩
    match i, hi with
    | 0, hi => cases hi; exact hne rfl
    | 1, _ => exact w1 hm
    | i + 2, hi => simp at hi
  rw [Tr.get_set_ne _ _ hjm] at h
  by_cases hjp : j = pb
  ·subst hjp
   rw [Tr.get_set_self] at h
   cases h
   exact .inr ⟨0, _, rfl, g2, RO.cells [_, _] [] _ _ (.cons _ _ _ _ (.map _ _ rfl) (.cons _ _ _ _ (.int _ _) .nil)), fun _ => w0⟩
  rw [Tr.get_set_ne _ _ hjp] at h
  refine .inl ⟨h, fun i hi hm => ?_⟩
  match i, hi with
  | 0, hi => cases hi; exact hjp rfl
  | 1, hi => cases hi; exact hjm rfl
  | i + 2, hi => simp at hi
def PkX.res (x : PkX) (H : Tr AObj) (n : Nat) : Res := match x.er with
 | true => .ret (.tuple #[.slice none 0 0, .int .i64 (pnE x.en x.a x.s)]) H n []
 | false => .ret (.tuple #[.slice (some ⟨n, 0, none⟩) x.o.length U, .int .i64 0]) (((H.set x.pb (some (.cells [.map (some x.mb), .int .i64 ((x.a.toNat + x.o.length : Nat) : Int)] 73))).set x.mb (some (.map (encT (x.T ++ x.F)) (x.ck + x.F.length)))).set n (some (.cells (x.o.map byV) 5))) (n + 1) [x.pb, x.mb]
noncomputable def zMz : Ct Try.prog 0 :=
 CtR.ct { f := 43, X := PkX,
          pre := fun x as0 H _ => as0 = [.pointer (some ⟨x.pb, 0, none⟩), .int .i64 x.a, .string x.s] ∧ H.get x.pb = some (.cells [.map (some x.mb), .int .i64 (x.en : Int)] 73) ∧ H.get x.mb = some (.map (encT x.T) x.ck) ∧ goodT x.T ∧ shortB x.s = true ∧ pnR x.en x.T x.a x.s x.er x.o x.F,
          out := PkX.res,
          tr := fun x H n K => match x.er with
           | true => K (.ret (.tuple #[.slice none 0 0, .int .i64 (pnE x.en x.a x.s)]) H n [])
           | false => frcN x.pb fun pb => frcN x.mb fun mb => K (.ret (.tuple #[.slice (some ⟨n, 0, none⟩) x.o.length U, .int .i64 0]) (((H.set pb (some (.cells [.map (some mb), .int .i64 ((x.a.toNat + x.o.length : Nat) : Int)] 73))).set mb (some (.map (encT (x.T ++ x.F)) (x.ck + x.F.length)))).set n (some (.cells (x.o.map byV) 5))) (n + 1) [pb, mb]),
          trOk := fun x H n K h => by
           obtain ⟨pb, mb, en, T, ck, a, s, er, o, F⟩ := x
           cases er with
           | true => exact h
           | false =>
            have h : (frcN pb fun pb => frcN mb fun mb => _) := h
            rw [zCe, zCe] at h
            exact h,
          ok := fun x as0 H n ⟨h1, h2, h3, h4, h5, h6⟩ => by
           subst h1
           obtain ⟨pb, mb, en, T, ck, a, s, er, o, F⟩ := x
           have h2 : H.get pb = some (.cells [.map (some mb), .int .i64 (en : Int)] 73) := h2
           have h3 : H.get mb = some (.map (encT T) ck) := h3
           have h6 : pnR en T a s er o F := h6
           have hne : pb ≠ mb := fun e => by subst e; rw [h2] at h3; cases h3
           have hA : [pb, mb].Nodup := by simp [hne]
           have hro1 : ∀ σ : Nat → Nat → Prop, σ mb 1 → RO Try.prog σ (.cells [.map (some mb), .int .i64 (en : Int)] 73) (.cells [.map (some 1), .int .i64 (en : Int)] 73) := fun σ hσ => RO.cells [_, _] [] _ _ (.cons _ _ _ _ (.map _ _ hσ) (.cons _ _ _ _ (.int _ _) .nil))
           have hcb : CallB Try.prog [pb, mb] H (heap 2 [(0, .cells [.map (some 1), .int .i64 (en : Int)] 73), (1, .map (encT T) ck)]) := zCh ⟨⟨pb, _, rfl, h2, hro1 _ rfl⟩, ⟨mb, _, rfl, h3, RO.map _ _ _ (zAh _)⟩, trivial⟩
           have harg : RL (caR [pb, mb]) [.pointer (some ⟨pb, 0, none⟩), .int .i64 a, .string s] [.pointer (some ⟨0, 0, none⟩), .int .i64 a, .string s] := .cons _ _ _ _ (.ptr _ _ _ rfl) (.cons _ _ _ _ (.int _ _) (.cons _ _ _ _ (.string _) .nil))
           cases er with
           | true =>
            obtain ⟨r, hF, H', m, wr, rfl, hw⟩ := nameE_fn a en T ck s h5 h6.ne
            show CallOK Try.prog 0 _ _ H n (.ret _ H n [])
            exact zCc [pb, mb] hF hw (zCx hA) harg hcb rfl
           | false =>
            obtain ⟨k, rfl, hk, hen, hB, hlB, es⟩ := zJf h6.eq
            obtain ⟨r, hF, H', m, wr, b, rfl, ⟨hb2, hbJ, w0, w1⟩, g1, g2, g3⟩ := name_fn k en T ck (bs s) hk hen h4 hB hlB
            rw [es] at hF
            have ek := h6.2 rfl
            rw [Int.toNat_natCast] at ek
            rw [ek] at hF w1 g1 g2 g3
            exact zRd (r := (o, F)) hF hA hcb harg h2 h3 hb2 hbJ w0 w1 g1 g2 g3 (fun j hj o ho => by
             match j, hj, ho with
             | 0, _, ho => have ho : some (AObj.cells _ _) = some o := ho; cases ho; exact fun h => h
             | 1, _, ho => have ho : some (AObj.map _ _) = some o := ho; cases ho; exact fun h => h),
          uniq := fun x y as0 H n ⟨h1, h2, h3, _, _, h6⟩ ⟨k1, k2, k3, _, _, k6⟩ => by
           obtain ⟨pb, mb, en, T, ck, a, s, er, o, F⟩ := x
           obtain ⟨pb', mb', en', T', ck', a', s', er', o', F'⟩ := y
           rw [h1] at k1
           simp only [List.cons.injEq, Value.pointer.injEq, Option.some.injEq, Addr.mk.injEq, and_true, Value.int.injEq, true_and, Value.string.injEq] at k1
           obtain ⟨rfl, rfl, rfl⟩ := k1
           have h2 : H.get pb = some (.cells [.map (some mb), .int .i64 (en : Int)] 73) := h2
           have k2 : H.get pb = some (.cells [.map (some mb'), .int .i64 (en' : Int)] 73) := k2
           rw [h2] at k2
           simp only [Option.some.injEq, AObj.cells.injEq, List.cons.injEq, Value.map.injEq, Value.int.injEq, true_and, and_true] at k2
           obtain ⟨rfl, e⟩ := k2
           have e : en = en' := by omega
           subst e
           have h3 : H.get mb = some (.map (encT T) ck) := h3
           have k3 : H.get mb = some (.map (encT T') ck') := k3
           rw [h3] at k3
           simp only [Option.some.injEq, AObj.map.injEq] at k3
           obtain ⟨e1, rfl⟩ := k3
           have := zNd e1
           subst this
           obtain ⟨rfl, e⟩ := pnR.uniq h6 k6
           cases er with
           | true => rfl
           | false => obtain ⟨rfl, rfl⟩ := e rfl; rfl }
end Go.Proofs.Ytmpaeabkdhjamaa
namespace Go.Proofs.Ytmpaeabkdhjamaa
open Go Go.RowKit
def layT : Lay (Bl × Nat) where
 g p := [.string (mkS p.1), .int .i64 (p.2 : Int)]
 k := 2
 t := 107
 len _ := rfl
 pos := by decide
 plain _ := rfl
 inj x y h := by
  obtain ⟨a, i⟩ := x
  obtain ⟨b, j⟩ := y
  simp only [List.cons.injEq, Value.string.injEq, Value.int.injEq, true_and, and_true] at h
  rw [zNo h.1, show i = j by omega]
noncomputable def tbPk7 : Tb Try.prog 0 := tbOf mixed []
def plO (T : List (Bl × Nat)) (s : Bl) : Int := match lookT T s with | some k => (k : Int) | none => -1
def plS (T : List (Bl × Nat)) (c : Nat) (en : Int) (s : Bl) (i : Nat) (f : Nat → Option Value) : Fs := ⟨slots 6 [(0, .pointer (some ⟨0, 0, none⟩)), (1, .string (mkS s)), (5, .int .i64 (i : Int))] f, heap 2 [(0, .cells [.slice (some ⟨1, 0, none⟩) T.length c, .int .i64 en] 38), (1, .cells (T.flatMap layT.g) 107)], 2, [], []⟩
theorem place_fn (T : List (Bl × Nat)) (c : Nat) (en : Int) (s : Bl) (hl : T.length ≤ 9223372036854775807) :
  ∃ r, FnS Try.prog 0 69 [.pointer (some ⟨0, 0, none⟩), .string (mkS s)] (heap 2 [(0, .cells [.slice (some ⟨1, 0, none⟩) T.length c, .int .i64 en] 38), (1, .cells (T.flatMap layT.g) 107)]) 2 r ∧ ∃ H m wr, r = .ret (.int .i64 (plO T s)) H m wr ∧ ∀ k ∈ wr, 2 ≤ k := by
 have hsz : (Try.prog.types[107]).size = 2 := by kernel_rfl
 have pl : plainL (T.flatMap layT.g) = true := zAa layT.g layT.plain _
 have hbox : ∀ σ : Nat → Nat → Prop, σ 1 1 → RO Try.prog σ (.cells [.slice (some ⟨1, 0, none⟩) T.length c, .int .i64 en] 38) (.cells [.slice (some ⟨1, 0, none⟩) T.length c, .int .i64 en] 38) := fun σ h => RO.cells [_, _] [] _ _ (.cons _ _ _ _ (.sl _ _ _ _ _ h) (.cons _ _ _ _ (.int _ _) .nil))
 refine zBm mixed tbPk7 [1] Try.func69 (c := bodyOf Try.f69) (by kernel_rfl) ?_
 refine zBs (plS T c en s) (fun i => T.length - i) (fun i => i ≤ T.length ∧ lookT T s = lookT (T.drop i) s) 0 ⟨Nat.zero_le _, rfl⟩
  (rcq [] ⟨⟨_, rfl, .ptr _ _ _ rfl⟩, ⟨_, rfl, .string _⟩, ⟨_, rfl, .int _ _⟩, trivial⟩ ⟨⟨by decide, _, rfl, hbox _ rfl⟩, bpo (pl), trivial⟩ .nil) ?_
 rintro i f ⟨hi, heq⟩
 have hi : i ≤ T.length := hi
 refine zAn tbPk7 [1] 2 _ none mixed _ _ _ ?_
 refine ifK (fun h1 => ?_) (fun h1 => ?_)
 ·have h1 : i < T.length := by have h1 : ((i : Nat) : Int) < (T.length : Int) := of_decide_eq_true h1; omega
  obtain ⟨x, hx⟩ : ∃ x, T[i] = x := ⟨_, rfl⟩
  have hd : T.drop i = x :: T.drop (i + 1) := by rw [List.drop_eq_getElem_cons h1, hx]
  rw [hd] at heq
  have c0 := RdL.cell layT [] [] T i 0 h1 (by decide)
  have c1 := RdL.cell layT [] [] T i 1 h1 (by decide)
  rw [hx, List.append_nil, List.nil_append] at c0 c1
  refine ifK (fun _ => ?_) (fun h2 => absurd h2 (by simp [inI]; omega))
  refine Exists.intro (mkS x.1) (And.intro (by rw [hsz, Int.toNat_natCast]; exact c0) ?_)
  refine ifK (fun g => ?_) (fun g => ?_)
  ·have g : s = x.1 := by
    have g : ((mkS x.1).data.toList == (mkS s).data.toList) = true := g
    have g := eq_of_beq g
    simpa [mkS] using g.symm
   refine ifK (fun _ => ?_) (fun h2 => absurd h2 (by simp [inI]; omega))
   refine Exists.intro (x.2 : Int) (And.intro (by rw [hsz, Int.toNat_natCast]; exact c1) ?_)
   have e : plO T s = x.2 := by unfold plO; rw [heq]; unfold lookT; rw [if_pos g]
   rw [e]
   refine And.intro rfl (zAi (rcq [] (d := 6) (d2 := 0) (lv := [(4, .int .i64 (x.2 : Int))]) (bs := []) (W := []) (m := 2) (df := []) ⟨⟨_, rfl, .int _ _⟩, trivial⟩ trivial .nil) (fun f => ?_))
   exact ⟨_, _, _, rfl, zDm rfl⟩
  ·have g : s ≠ x.1 := fun e => by
    have g : ((mkS x.1).data.toList == (mkS s).data.toList) = false := g
    rw [e] at g; simp at g
   refine ⟨i + 1, ⟨h1, ?_⟩, by show T.length - (i + 1) < T.length - i; omega, rcq [] ⟨⟨_, rfl, .ptr _ _ _ rfl⟩, ⟨_, rfl, .string _⟩, zAe rfl (by rw [wrapN (by omega) (by omega)]; omega), trivial⟩ ⟨⟨by decide, _, rfl, hbox _ rfl⟩, bpo (pl), trivial⟩ .nil⟩
   rw [heq]; exact if_neg g
 ·have h1 : ¬ i < T.length := fun e => absurd (show ((i : Nat) : Int) < (T.length : Int) by omega) (of_decide_eq_false h1)
  have e : plO T s = -1 := by unfold plO; rw [heq, List.drop_eq_nil_of_le (by omega)]; rfl
  rw [e]
  refine And.intro rfl (zAi (rcq [] (d := 6) (d2 := 0) (lv := []) (bs := []) (W := []) (m := 2) (df := []) trivial trivial .nil) (fun f => ?_))
  exact ⟨_, _, _, rfl, zDm rfl⟩
end Go.Proofs.Ytmpaeabkdhjamaa
namespace Go.Proofs.Ytmpaeabkdhjamaa
open Go Go.RowKit
theorem place0_fn (en : Int) (s : Bl) :
  ∃ r, FnS Try.prog 0 69 [.pointer (some ⟨0, 0, none⟩), .string (mkS s)] (heap 1 [(0, .cells [.slice none 0 0, .int .i64 en] 38)]) 1 r ∧ ∃ H m wr, r = .ret (.int .i64 (-1)) H m wr ∧ ∀ k ∈ wr, 1 ≤ k := by
 refine zBm mixed tbPk7 [] Try.func69 (c := bodyOf Try.f69) (by kernel_rfl) ?_
 refine LW.round ?_
 refine zAn tbPk7 [] 1 _ none mixed _ _ _ ?_
 exact ⟨_, _, _, rfl, zDm rfl⟩
structure PlX where
 pb : Nat
 v : Option (Nat × Nat)
 T : List (Bl × Nat)
 en : Int
 s : Bl
def plV (v : Option (Nat × Nat)) (T : List (Bl × Nat)) : Value := match v with
 | none => .slice none 0 0
 | some (b, c) => .slice (some ⟨b, 0, none⟩) T.length c
def plAt (v : Option (Nat × Nat)) (T : List (Bl × Nat)) (H : Tr AObj) : Prop := match v with
 | none => T = []
 | some (b, _) => H.get b = some (.cells (T.flatMap layT.g) 107)
noncomputable def ct_place : Ct Try.prog 0 :=
 CtR.ct { f := 69, X := PlX,
          pre := fun x as0 H _ => as0 = [.pointer (some ⟨x.pb, 0, none⟩), .string (mkS x.s)] ∧ H.get x.pb = some (.cells [plV x.v x.T, .int .i64 x.en] 38) ∧ plAt x.v x.T H ∧ x.T.length ≤ 9223372036854775807,
          out := fun x H n => .ret (.int .i64 (plO x.T x.s)) H n [],
          ok := fun x as0 H n ⟨h1, h2, h3, h4⟩ => by
           subst h1
           obtain ⟨pb, v, T, en, s⟩ := x
           show CallOK Try.prog 0 _ _ H n (.ret (.int .i64 (plO T s)) H n [])
           cases v with
           | none =>
            have h3 : T = [] := h3
            subst h3
            have h2 : H.get pb = some (.cells [.slice none 0 0, .int .i64 en] 38) := h2
            obtain ⟨r, hF, H', m, wr, rfl, hw⟩ := place0_fn en s
            exact zCc [pb] hF hw zNc (.cons _ _ _ _ (.ptr _ _ _ rfl) (.cons _ _ _ _ (.string _) .nil)) (zCh ⟨⟨pb, _, rfl, h2, .same rfl⟩, trivial⟩) rfl
           | some p =>
            obtain ⟨b, c⟩ := p
            have h2 : H.get pb = some (.cells [.slice (some ⟨b, 0, none⟩) T.length c, .int .i64 en] 38) := h2
            have h3 : H.get b = some (.cells (T.flatMap layT.g) 107) := h3
            have hne : pb ≠ b := fun e => by
             subst e; rw [h2] at h3
             have : (38 : Nat) = 107 := by
              simp only [Option.some.injEq, AObj.cells.injEq] at h3; exact h3.2
             exact absurd this (by decide)
            obtain ⟨r, hF, H', m, wr, rfl, hw⟩ := place_fn T c en s h4
            exact zCc [pb, b] hF hw (zCx (by simp [hne])) (.cons _ _ _ _ (.ptr _ _ _ rfl) (.cons _ _ _ _ (.string _) .nil)) (zCh ⟨⟨pb, _, rfl, h2, RO.cells [_, _] [] _ _ (.cons _ _ _ _ (.sl _ _ _ _ _ rfl) (.cons _ _ _ _ (.int _ _) .nil))⟩, ⟨b, _, rfl, h3, .same (zAa layT.g layT.plain _)⟩, trivial⟩) rfl,
          uniq := fun x y as0 H n ⟨h1, h2, h3, _⟩ ⟨k1, k2, k3, _⟩ => by
           obtain ⟨pb, v, T, en, s⟩ := x
           obtain ⟨pb', v', T', en', s'⟩ := y
           rw [h1] at k1
           simp only [List.cons.injEq, Value.pointer.injEq, Option.some.injEq, Addr.mk.injEq, and_true, Value.string.injEq] at k1
           obtain ⟨rfl, e⟩ := k1
           have e := zNo e
           subst e
           have h2 : H.get pb = some (.cells [plV v T, .int .i64 en] 38) := h2
           have k2 : H.get pb = some (.cells [plV v' T', .int .i64 en'] 38) := k2
           rw [h2] at k2
           simp only [Option.some.injEq, AObj.cells.injEq, List.cons.injEq, and_true] at k2
           have hv := k2.1
           have : T = T' := by
            cases v with
            | none => cases v' with
             | none => have h3 : T = [] := h3; have k3 : T' = [] := k3; rw [h3, k3]
             | some p => cases hv
            | some p => cases v' with
             | none => cases hv
             | some q =>
              obtain ⟨b, c⟩ := p
              obtain ⟨b', c'⟩ := q
              simp only [plV, Value.slice.injEq, Option.some.injEq, Addr.mk.injEq, and_true] at hv
              obtain ⟨rfl, _, _⟩ := hv
              have h3 : H.get b = some (.cells (T.flatMap layT.g) 107) := h3
              have k3 : H.get b = some (.cells (T'.flatMap layT.g) 107) := k3
              rw [h3] at k3
              simp only [Option.some.injEq, AObj.cells.injEq, and_true] at k3
              exact layT.flat_inj _ _ k3
           rw [this] }
end Go.Proofs.Ytmpaeabkdhjamaa
namespace Go.Proofs.Ytmpaeabkdhjamaa
open Go Go.RowKit
noncomputable def tbPk9 : Tb Try.prog 0 := tbOf mixed [zGz, ct_place]
def rpE (a : Nat) (en : Int) (T : List (Bl × Nat)) (cL : Nat) (B : Bl) (out : Bl) (F : List (Bl × Nat)) (i : Nat) (f : Nat → Option Value) : Fs := match out, F with
 | [], _ => ⟨slots 7 [(0, .pointer (some ⟨0, 0, none⟩)), (1, .int .i64 (a : Int)), (2, .string (mkS B)), (9, .slice none 0 0), (10, .slice none 0 0), (11, .int .i64 (i : Int))] f, heap 3 [(0, .cells [.slice (some ⟨1, 0, none⟩) T.length cL, .int .i64 en] 38), (1, .cells (T.flatMap layT.g) 107)], 2, [], []⟩
 | u :: us, [] => ⟨slots 7 [(0, .pointer (some ⟨0, 0, none⟩)), (1, .int .i64 (a : Int)), (2, .string (mkS B)), (9, .slice (some ⟨2, 0, none⟩) (us.length + 1) U), (10, .slice none 0 0), (11, .int .i64 (i : Int))] f, heap 3 [(0, .cells [.slice (some ⟨1, 0, none⟩) T.length cL, .int .i64 en] 38), (1, .cells (T.flatMap layT.g) 107), (2, .cells ((u :: us).map byV) 5)], 3, [], []⟩
 | u :: us, p :: F => ⟨slots 7 [(0, .pointer (some ⟨0, 0, none⟩)), (1, .int .i64 (a : Int)), (2, .string (mkS B)), (9, .slice (some ⟨2, 0, none⟩) (us.length + 1) U), (10, .slice (some ⟨3, 0, none⟩) (F.length + 1) U), (11, .int .i64 (i : Int))] f, heap 3 [(0, .cells [.slice (some ⟨1, 0, none⟩) T.length cL, .int .i64 en] 38), (1, .cells (T.flatMap layT.g) 107), (2, .cells ((u :: us).map byV) 5), (3, .cells ((p :: F).flatMap layT.g) 107)], 4, [], []⟩
def rpS (a : Nat) (en : Int) (T : List (Bl × Nat)) (cL : Nat) (B : Bl) (x : Bl × List (Bl × Nat)) (f : Nat → Option Value) : Fs := rpE a en T cL B x.1 x.2 x.1.length f
theorem hi_ref {k : Nat} (h : k < 16384) : IntKind.u8.wrap (IntKind.i64.wrap (192 + IntKind.i64.wrap ((k : Int).tdiv 256))) = ((hi8 (49152 + k)).toNat : Int) := by
 have e : (k : Int).tdiv 256 = ((k / 256 : Nat) : Int) := by rw [Int.tdiv_eq_ediv_of_nonneg (by omega)]; rfl
 have e2 : 192 + ((k / 256 : Nat) : Int) = ((192 + k / 256 : Nat) : Int) := by omega
 rw [e, zAq (x := ((k / 256 : Nat) : Int)) (by omega) (by omega), e2, zAq (x := ((192 + k / 256 : Nat) : Int)) (by omega) (by omega), wrap8, zLu]
theorem lo_ref (k : Nat) : IntKind.u8.wrap ((k : Int).tmod 256) = ((lo8 (49152 + k)).toNat : Int) := by
 have e : (k : Int).tmod 256 = ((k % 256 : Nat) : Int) := by rw [Int.tmod_eq_emod_of_nonneg (by omega)]; rfl
 rw [e, wrap8, zLy]
theorem zVw (a : Nat) (en : Int) (T : List (Bl × Nat)) (cL : Nat) (B : Bl) (ha : a ≤ 65535) (hT : goodT T) (hTl : T.length ≤ 9223372036854775807) (hB : Nm B) (hlB : B.length ≤ 255) {s0 : Fs} {K : Ex → Fs → Prop}
  (h0 : ∃ f, RcM Try.prog 0 2 (3 + (Try.f46.ntmps - 3)) none s0 (rpS a en T cL B ([], []) f))
  (hex : ∀ out F i f, i < B.length → (out = [] → F = []) → (B.getD i 0 = 0 ∧ (out ++ [0], F) = packN T a B.length B 0 ∨ B.getD i 0 ≠ 0 ∧ (out, F) = packN T a B.length B 0) → out.length ≤ 257 → K (.exit 0) (rpE a en T cL B out F i f)) :
  LW Try.prog 0 2 (3 + (Try.f46.ntmps - 3)) none (loopAt Try.f46 0) s0 K := by
 have h1s : (Try.prog.types[5]).size = 1 := by kernel_rfl
 have hby : (Try.prog.types[5]).bytes = 1 := by kernel_rfl
 have h2s : (Try.prog.types[107]).size = 2 := by kernel_rfl
 have h2b : (Try.prog.types[107]).bytes = 24 := by kernel_rfl
 have pT : plainL (T.flatMap layT.g) = true := zAa layT.g layT.plain _
 obtain ⟨R, hR⟩ : ∃ R, packN T a B.length B 0 = R := ⟨_, rfl⟩
 rw [hR] at hex
 refine zBs (rpS a en T cL B) (fun x => B.length - x.1.length) (fun x => x.1.length ≤ B.length ∧ Nm (B.drop x.1.length) ∧ (x.1 = [] → x.2 = []) ∧ x.2.length ≤ x.1.length ∧ ∃ f, (B.drop x.1.length).length ≤ f ∧ (x.1 ++ (packN T a f (B.drop x.1.length) x.1.length).1, x.2 ++ (packN T a f (B.drop x.1.length) x.1.length).2) = R) ([], []) ⟨Nat.zero_le _, hB, fun _ => rfl, Nat.le_refl _, B.length, Nat.le_refl _, hR⟩ h0 ?_
 rintro ⟨out, F⟩ f ⟨hib, hnm, hoF, hFl, fu, hfu, hpk⟩
 have hib : out.length ≤ B.length := hib
 have hoF : out = [] → F = [] := hoF
 have hFl : F.length ≤ out.length := hFl
 obtain ⟨t, ht⟩ : ∃ t, B.drop out.length = t := ⟨_, rfl⟩
 have hnm : Nm (B.drop out.length) := hnm
 have hfu : (B.drop out.length).length ≤ fu := hfu
 have hpk : (out ++ (packN T a fu (B.drop out.length) out.length).1, F ++ (packN T a fu (B.drop out.length) out.length).2) = R := hpk
 rw [ht] at hnm hfu hpk
 have htl : t.length = B.length - out.length := by rw [← ht, List.length_drop]
 have hpos := hnm.pos
 obtain ⟨fu, rfl⟩ : ∃ g, fu = g + 1 := ⟨fu - 1, by omega⟩
 obtain ⟨c, hc⟩ : ∃ c, (t.getD 0 0).toNat = c := ⟨_, rfl⟩
 have hcl : c ≤ 63 := by rw [← hc]; cases hnm <;> simp <;> omega
 have hct : c ≠ 0 → c + 1 < t.length ∧ Nm (t.drop (c + 1)) := fun h => by
  cases hnm with
  | root => exact absurd (show c = 0 by rw [← hc]; rfl) h
  | lab c' x r h1 h2 hx hr =>
   have hc : c'.toNat = c := hc
   have e : (c' :: (x ++ r)).drop (c + 1) = r := by rw [List.drop_succ_cons, ← hc, ← hx, List.drop_left]
   refine ⟨?_, by rw [e]; exact hr⟩
   have := hr.pos
   simp; omega
 have hB0 : B.getD out.length 0 = t.getD 0 0 := by rw [← ht]; simp [List.getD_eq_getElem?_getD]
 have FACT : ∀ I : Int, I = (out.length : Int) → inI I (mkS B).data.size = true ∧ ((atS (mkS B) I).toNat : Int) = (c : Int) ∧ inLH I ((mkS B).data.size : Int) (mkS B).data.size = true ∧ subS (mkS B) I.toNat (((mkS B).data.size : Int)).toNat = mkS t ∧
   IntKind.i64.wrap (IntKind.i64.wrap (I + 1) + IntKind.i64.wrap ((atS (mkS B) I).toNat : Int)) = ((out.length + c + 1 : Nat) : Int) ∧ (c ≠ 0 → inLH I (IntKind.i64.wrap (IntKind.i64.wrap (I + 1) + IntKind.i64.wrap ((atS (mkS B) I).toNat : Int))) (mkS B).data.size = true) ∧
   (subS (mkS B) I.toNat (IntKind.i64.wrap (IntKind.i64.wrap (I + 1) + IntKind.i64.wrap ((atS (mkS B) I).toNat : Int))).toNat).data.toList = t.take (c + 1) ∧ IntKind.i64.wrap ((a : Int) + I) = ((a + out.length : Nat) : Int) := fun I hI => by
  subst hI
  have e1 : ((atS (mkS B) (out.length : Int)).toNat : Int) = (c : Int) := by rw [zJn, hB0, hc]
  have e2 : IntKind.i64.wrap (IntKind.i64.wrap ((out.length : Int) + 1) + IntKind.i64.wrap ((atS (mkS B) (out.length : Int)).toNat : Int)) = ((out.length + c + 1 : Nat) : Int) := by
   rw [e1, zAq (x := (out.length : Int) + 1) (by omega) (by omega), zAq (x := (c : Int)) (by omega) (by omega), zAq (by omega) (by omega)]; omega
  refine ⟨by rw [zAs]; simp [inI]; omega, e1, by rw [zAs]; simp [inLH]; omega, ?_, e2, fun h => ?_, ?_, ?_⟩
  ·rw [zAs, Int.toNat_natCast, Int.toNat_natCast]; simp [subS, mkS, ht]
  ·have := (hct h).1
   rw [e2, zAs]; simp [inLH]; omega
  ·rw [e2, Int.toNat_natCast, Int.toNat_natCast]
   simp only [subS, mkS]
   rw [← ht]
   rw [show out.length + c + 1 = out.length + (c + 1) by omega, List.drop_take]
   simp
  ·rw [zAq (by omega) (by omega)]; omega
 have hel : c ≠ 0 → (t.take (c + 1)).length = c + 1 := fun h => by have := (hct h).1; rw [List.length_take]; omega
 unfold packN at hpk
 simp only [hc] at hpk
 have hbox : ∀ σ : Nat → Nat → Prop, σ 1 1 → RO Try.prog σ (.cells [.slice (some ⟨1, 0, none⟩) T.length cL, .int .i64 en] 38) (.cells [.slice (some ⟨1, 0, none⟩) T.length cL, .int .i64 en] 38) := fun σ h => RO.cells [_, _] [] _ _ (.cons _ _ _ _ (.sl _ _ _ _ _ h) (.cons _ _ _ _ (.int _ _) .nil))
 cases out with
 | nil =>
  have hF0 : F = [] := hoF rfl
  subst hF0
  obtain ⟨k1, k2, k3, k4, k5, k6, k7, k8⟩ := FACT 0 rfl
  obtain ⟨_, _, _, _, l5, _, l7, _⟩ := FACT ((List.length (([] : Bl), ([] : List (Bl × Nat))).fst : Nat) : Int) rfl
  refine zAn tbPk9 [1, 2, 3] 2 _ none mixed _ _ _ ?_
  refine And.intro k1 ?_
  refine ifK (fun h1 => ?_) (fun h1 => ?_)
  ·have h1 : c ≠ 0 := fun e => by have h1 : (((atS (mkS B) 0).toNat : Int) != 0) = true := h1; rw [k2, e] at h1; cases h1
   rw [if_neg h1] at hpk
   refine And.intro k3 ?_
   refine Exists.intro (⟨0, some (1, cL), T, en, t⟩ : PlX) (And.intro ⟨by show [Value.pointer _, Value.string (subS (mkS B) (Int.toNat 0) (((mkS B).data.size : Int)).toNat)] = _; rw [k4], rfl, rfl, hTl⟩ ?_)
   cases hlk : lookT T t with
   | some k =>
    have hpl : plO T t = (k : Int) := by unfold plO; rw [hlk]
    have hk : k < 16384 := hT.2 _ (zEh hlk)
    rw [hlk] at hpk
    refine ifK (fun _ => ?_) (fun g => absurd (of_decide_eq_false g) (by rw [hpl]; omega))
    have q1 : IntKind.u8.wrap (IntKind.i64.wrap (192 + IntKind.i64.wrap ((plO T t).tdiv 256))) = ((hi8 (49152 + k)).toNat : Int) := by rw [hpl]; exact hi_ref hk
    have q2 : IntKind.u8.wrap ((plO T t).tmod 256) = ((lo8 (49152 + k)).toNat : Int) := by rw [hpl]; exact lo_ref k
    refine Exists.intro ([hi8 (49152 + k), lo8 (49152 + k)].map byV) (And.intro (by rw [h1s]; show some (2, [Value.int .u8 (IntKind.u8.wrap (IntKind.i64.wrap (192 + IntKind.i64.wrap ((plO T t).tdiv 256)))), Value.int .u8 (IntKind.u8.wrap ((plO T t).tmod 256))]) = _; rw [q1, q2]; rfl) ?_)
    refine And.intro (by kernel_rfl) ?_
    refine And.intro rfl (zAi (rcq [3] (d := 7) (d2 := 3) (lv := [(0, .pointer (some ⟨0, 0, none⟩)), (1, .int .i64 (a : Int)), (2, .string (mkS B)), (9, .slice (some ⟨2, 0, none⟩) (1 + 1) U), (10, .slice none 0 0), (11, .int .i64 ((0 : Nat) : Int))]) (bs := [(0, .cells [.slice (some ⟨1, 0, none⟩) T.length cL, .int .i64 en] 38), (1, .cells (T.flatMap layT.g) 107), (2, .cells ([hi8 (49152 + k), lo8 (49152 + k)].map byV) 5)]) (W := []) (m := 3) (df := []) ⟨⟨_, rfl, .ptr _ _ _ rfl⟩, ⟨_, rfl, .int _ _⟩, ⟨_, rfl, .string _⟩, ⟨_, rfl, .sl _ _ _ _ _ rfl⟩, ⟨_, rfl, zAc 8 rfl⟩, ⟨_, rfl, .int _ _⟩, trivial⟩ ⟨⟨by decide, _, rfl, hbox _ rfl⟩, bpo (pT), bpo rfl, trivial⟩ .nil) (fun f => ?_))
    refine hex [hi8 (49152 + k), lo8 (49152 + k)] [] 0 f (by simp at htl; omega) (fun h => rfl) (.inr ⟨?_, ?_⟩) (by simp)
    ·rw [show B.getD 0 0 = t.getD 0 0 from hB0]; exact fun e => h1 (by rw [← hc, e]; rfl)
    ·rw [← hpk, zLu, zLy]; simp
   | none =>
    have hpl : plO T t = -1 := by unfold plO; rw [hlk]
    rw [hlk] at hpk
    refine ifK (fun g => absurd (of_decide_eq_true g) (by rw [hpl]; decide)) (fun _ => ?_)
    refine ifK (fun g => ?_) (fun g => ?_)
    ·have g : a + 0 < 16384 := by have g : decide (IntKind.i64.wrap ((a : Int) + 0) < 16384) = true := g; rw [k8] at g; have := of_decide_eq_true g; simp at this; omega
     refine And.intro k3 ?_
     refine Exists.intro [Value.string (mkS t), .int .i64 (a : Int)] (And.intro (by rw [h2s]; show some (1, [Value.string (subS (mkS B) (Int.toNat 0) (((mkS B).data.size : Int)).toNat), Value.int .i64 (IntKind.i64.wrap ((a : Int) + 0))]) = _; rw [k4, k8]; rfl) ?_)
     refine And.intro (by kernel_rfl) ?_
     refine And.intro k1 ?_
     refine And.intro (k6 h1) ?_
     refine ifK (fun g => absurd (Nat.eq_of_beq_eq_true g) (by rw [l7, hel h1]; omega)) (fun _ => ?_)
     refine And.intro (by rw [l7, hel h1, hby, decide_eq_true (by omega), decide_eq_true (by omega)]; rfl) ?_
     obtain ⟨u, us, hu⟩ : ∃ u us, t.take (c + 1) = u :: us := by
      have := hel h1
      cases hq : t.take (c + 1) with
      | nil => rw [hq] at this; cases this
      | cons u us => exact ⟨u, us, rfl⟩
     have hul : (u :: us).length = 0 + c + 1 := by rw [← hu, hel h1]; omega
     have hul2 : (([] : Bl).length + c + 1 : Nat) = us.length + 1 := by simp at hul; simp; omega
     have hc1 := hct h1
     have hdr : B.drop (u :: us).length = t.drop (c + 1) := by rw [hul, ← ht]; simp
     refine ⟨(u :: us, [(t, a)]), ⟨?_, ?_, ?_, ?_, fu, ?_, ?_⟩, ?_, ?_⟩
     ·show (u :: us).length ≤ B.length
      rw [hul]; simp at htl; omega
     ·show Nm (B.drop (u :: us).length)
      rw [hdr]; exact hc1.2
     ·intro h; cases h
     ·show List.length _ ≤ (u :: us).length
      rw [hul]; simp
     ·show (B.drop (u :: us).length).length ≤ fu
      rw [hdr, List.length_drop]; omega
     ·show ((u :: us) ++ (packN T a fu (B.drop (u :: us).length) (u :: us).length).1, [(t, a)] ++ (packN T a fu (B.drop (u :: us).length) (u :: us).length).2) = R
      rw [hdr]
      have hpk : ([] ++ (t.take (c + 1) ++ (packN T a fu (t.drop (c + 1)) (0 + c + 1)).1), [] ++ (if a + 0 < 16384 then (t, a + 0) :: (packN T a fu (t.drop (c + 1)) (0 + c + 1)).2 else (packN T a fu (t.drop (c + 1)) (0 + c + 1)).2)) = R := hpk
      rw [← hpk, hul]; simp only [if_pos g]; simp [← hu, List.append_assoc]
     ·show B.length - (u :: us).length < B.length - 0
      rw [hul]; omega
     exact rcq [4, 3] ⟨⟨_, rfl, .ptr _ _ _ rfl⟩, ⟨_, rfl, .int _ _⟩, ⟨_, rfl, .string _⟩, ⟨_, rfl, by rw [l7, hu]; exact .sl _ _ _ _ _ rfl⟩, ⟨_, rfl, .sl _ _ _ _ _ rfl⟩, ⟨_, rfl, by rw [l5, hul2]; exact .int _ _⟩, trivial⟩ ⟨⟨by decide, _, rfl, hbox _ rfl⟩, bpo (pT), ⟨by decide, _, rfl, by rw [l7, hu]; exact .same (zAb (u :: us))⟩, bpo rfl, trivial⟩ .nil
    ·have g : ¬ a + 0 < 16384 := fun hlt => by have g : decide (IntKind.i64.wrap ((a : Int) + 0) < 16384) = false := g; rw [k8] at g; exact absurd (show ((a + ([] : Bl).length : Nat) : Int) < 16384 by simp; omega) (of_decide_eq_false g)
     refine And.intro k1 ?_
     refine And.intro (k6 h1) ?_
     refine ifK (fun g => absurd (Nat.eq_of_beq_eq_true g) (by rw [l7, hel h1]; omega)) (fun _ => ?_)
     refine And.intro (by rw [l7, hel h1, hby, decide_eq_true (by omega), decide_eq_true (by omega)]; rfl) ?_
     obtain ⟨u, us, hu⟩ : ∃ u us, t.take (c + 1) = u :: us := by
      have := hel h1
      cases hq : t.take (c + 1) with
      | nil => rw [hq] at this; cases this
      | cons u us => exact ⟨u, us, rfl⟩
     have hul : (u :: us).length = 0 + c + 1 := by rw [← hu, hel h1]; omega
     have hul2 : (([] : Bl).length + c + 1 : Nat) = us.length + 1 := by simp at hul; simp; omega
     have hc1 := hct h1
     have hdr : B.drop (u :: us).length = t.drop (c + 1) := by rw [hul, ← ht]; simp
     refine ⟨(u :: us, []), ⟨?_, ?_, ?_, ?_, fu, ?_, ?_⟩, ?_, ?_⟩
     ·show (u :: us).length ≤ B.length
      rw [hul]; simp at htl; omega
     ·show Nm (B.drop (u :: us).length)
      rw [hdr]; exact hc1.2
     ·intro h; cases h
     ·show List.length _ ≤ (u :: us).length
      rw [hul]; simp
     ·show (B.drop (u :: us).length).length ≤ fu
      rw [hdr, List.length_drop]; omega
     ·show ((u :: us) ++ (packN T a fu (B.drop (u :: us).length) (u :: us).length).1, [] ++ (packN T a fu (B.drop (u :: us).length) (u :: us).length).2) = R
      rw [hdr]
      have hpk : ([] ++ (t.take (c + 1) ++ (packN T a fu (t.drop (c + 1)) (0 + c + 1)).1), [] ++ (if a + 0 < 16384 then (t, a + 0) :: (packN T a fu (t.drop (c + 1)) (0 + c + 1)).2 else (packN T a fu (t.drop (c + 1)) (0 + c + 1)).2)) = R := hpk
      rw [← hpk, hul]; simp only [if_neg g]; simp [← hu, List.append_assoc]
     ·show B.length - (u :: us).length < B.length - 0
      rw [hul]; omega
     exact rcq [2] ⟨⟨_, rfl, .ptr _ _ _ rfl⟩, ⟨_, rfl, .int _ _⟩, ⟨_, rfl, .string _⟩, ⟨_, rfl, by rw [l7, hu]; exact .sl _ _ _ _ _ rfl⟩, ⟨_, rfl, zAc 8 rfl⟩, ⟨_, rfl, by rw [l5, hul2]; exact .int _ _⟩, trivial⟩ ⟨⟨by decide, _, rfl, hbox _ rfl⟩, bpo (pT), ⟨by decide, _, rfl, by rw [l7, hu]; exact .same (zAb (u :: us))⟩, trivial⟩ .nil
  ·have h1 : c = 0 := by have h1 : (((atS (mkS B) 0).toNat : Int) != 0) = false := h1; rw [k2] at h1; have : (c : Int) = 0 := by simpa using h1
                         omega
   rw [if_pos h1] at hpk
   refine And.intro rfl (zAi (rcq [] (d := 7) (d2 := 3) (lv := [(0, .pointer (some ⟨0, 0, none⟩)), (1, .int .i64 (a : Int)), (2, .string (mkS B)), (9, .slice none 0 0), (10, .slice none 0 0), (11, .int .i64 ((0 : Nat) : Int))]) (bs := [(0, .cells [.slice (some ⟨1, 0, none⟩) T.length cL, .int .i64 en] 38), (1, .cells (T.flatMap layT.g) 107)]) (W := []) (m := 2) (df := []) ⟨⟨_, rfl, .ptr _ _ _ rfl⟩, ⟨_, rfl, .int _ _⟩, ⟨_, rfl, .string _⟩, ⟨_, rfl, zAc 8 rfl⟩, ⟨_, rfl, zAc 8 rfl⟩, ⟨_, rfl, .int _ _⟩, trivial⟩ ⟨⟨by decide, _, rfl, hbox _ rfl⟩, bpo (pT), trivial⟩ .nil) (fun f => ?_))
   refine hex [] [] 0 f (by simp at htl; omega) (fun _ => rfl) (.inl ⟨?_, ?_⟩) (by decide)
   ·rw [show B.getD 0 0 = t.getD 0 0 from hB0]; exact UInt8.toNat_inj.1 (by rw [hc, h1]; rfl)
   ·rw [← hpk]; simp
 | cons u us =>
  have hlen2 : (u :: us).length ≤ 255 := by omega
  have hlen3 : us.length + 1 ≤ 255 := hlen2
  obtain ⟨j1, j2, j3, j4, j5, j6, j7, j8⟩ := FACT ((us.length + 1 : Nat) : Int) rfl
  have hst : oneL ((t.take (c + 1)).map byV) = true := by unfold oneL; exact List.all_eq_true.2 (fun v hv => by obtain ⟨b, _, rfl⟩ := List.mem_map.1 hv; rfl)
  obtain ⟨k1, k2, k3, l4, l5, k6, l7, l8⟩ := FACT ((List.length (u :: us, F).fst : Nat) : Int) rfl
  cases F with
  | nil =>
   refine zAn tbPk9 [1, 2, 3] 2 _ none mixed _ _ _ ?_
   refine And.intro k1 ?_
   refine ifK (fun h1 => ?_) (fun h1 => ?_)
   ·have h1 : c ≠ 0 := fun e => by have h1 : (((atS (mkS B) ((us.length + 1 : Nat) : Int)).toNat : Int) != 0) = true := h1; rw [j2, e] at h1; cases h1
    rw [if_neg h1] at hpk
    refine And.intro k3 ?_
    refine Exists.intro (⟨0, some (1, cL), T, en, t⟩ : PlX) (And.intro ⟨by show [Value.pointer _, Value.string (subS (mkS B) (((us.length + 1 : Nat) : Int)).toNat (((mkS B).data.size : Int)).toNat)] = _; rw [j4], rfl, rfl, hTl⟩ ?_)
    cases hlk : lookT T t with
    | some k =>
     have hpl : plO T t = (k : Int) := by unfold plO; rw [hlk]
     have hk : k < 16384 := hT.2 _ (zEh hlk)
     rw [hlk] at hpk
     refine ifK (fun _ => ?_) (fun g => absurd (of_decide_eq_false g) (by rw [hpl]; omega))
     have q1 : IntKind.u8.wrap (IntKind.i64.wrap (192 + IntKind.i64.wrap ((plO T t).tdiv 256))) = ((hi8 (49152 + k)).toNat : Int) := by rw [hpl]; exact hi_ref hk
     have q2 : IntKind.u8.wrap ((plO T t).tmod 256) = ((lo8 (49152 + k)).toNat : Int) := by rw [hpl]; exact lo_ref k
     refine Exists.intro ([hi8 (49152 + k), lo8 (49152 + k)].map byV) (And.intro (by rw [h1s]; show some (2, [Value.int .u8 (IntKind.u8.wrap (IntKind.i64.wrap (192 + IntKind.i64.wrap ((plO T t).tdiv 256)))), Value.int .u8 (IntKind.u8.wrap ((plO T t).tmod 256))]) = _; rw [q1, q2]; rfl) ?_)
     refine And.intro (by rw [hby, h1s]; simp only [Bool.and_eq_true, decide_eq_true_eq]; exact ⟨⟨⟨⟨⟨⟨rfl, rfl⟩, Nat.ble_eq_true_of_le (by simp)⟩, rfl⟩, (by omega)⟩, (by omega)⟩, Nat.ble_eq_true_of_le (by simp)⟩) ?_
     refine And.intro rfl (zAi (rcq [4] (d := 7) (d2 := 3) (lv := [(0, .pointer (some ⟨0, 0, none⟩)), (1, .int .i64 (a : Int)), (2, .string (mkS B)), (9, .slice (some ⟨2, 0, none⟩) ((us ++ [hi8 (49152 + k), lo8 (49152 + k)]).length + 1) U), (10, .slice none 0 0), (11, .int .i64 ((us.length + 1 : Nat) : Int))]) (bs := [(0, .cells [.slice (some ⟨1, 0, none⟩) T.length cL, .int .i64 en] 38), (1, .cells (T.flatMap layT.g) 107), (2, .cells ((u :: (us ++ [hi8 (49152 + k), lo8 (49152 + k)])).map byV) 5)]) (W := []) (m := 3) (df := []) ⟨⟨_, rfl, .ptr _ _ _ rfl⟩, ⟨_, rfl, .int _ _⟩, ⟨_, rfl, .string _⟩, ⟨_, rfl, by rw [show (us ++ [hi8 (49152 + k), lo8 (49152 + k)]).length + 1 = us.length + 1 + 2 by simp <;> omega]; exact .sl _ _ _ _ _ rfl⟩, ⟨_, rfl, zAc 8 rfl⟩, ⟨_, rfl, .int _ _⟩, trivial⟩ ⟨⟨by decide, _, rfl, hbox _ rfl⟩, bpo (pT), ⟨by decide, _, rfl, zBb (by rw [h1s, Nat.mul_one, List.take_of_length_le (by simp)]; simp <;> rfl) (zAb _)⟩, trivial⟩ .nil) (fun f => ?_))
     refine hex (u :: (us ++ [hi8 (49152 + k), lo8 (49152 + k)])) ([]) (us.length + 1) f (by simp only [List.length_cons] at htl; omega) (fun h => by cases h) (.inr ⟨?_, ?_⟩) (by simp; simp at hlen2; omega)
     ·exact fun e => h1 (by have e2 : t.getD 0 0 = 0 := hB0.symm.trans e
                            rw [← hc, e2]; rfl)
     ·rw [← hpk, zLu, zLy]; simp
    | none =>
     have hpl : plO T t = -1 := by unfold plO; rw [hlk]
     rw [hlk] at hpk
     refine ifK (fun g => absurd (of_decide_eq_true g) (by rw [hpl]; decide)) (fun _ => ?_)
     refine ifK (fun g => ?_) (fun g => ?_)
     ·have g : a + (us.length + 1) < 16384 := by have g : decide (IntKind.i64.wrap ((a : Int) + ((us.length + 1 : Nat) : Int)) < 16384) = true := g; rw [j8] at g; have := of_decide_eq_true g; simp only [List.length_cons] at this; omega
      refine And.intro k3 ?_
      refine Exists.intro [Value.string (mkS t), .int .i64 ((a + (us.length + 1) : Nat) : Int)] (And.intro (by rw [h2s]; show some (1, [Value.string (subS (mkS B) (((us.length + 1 : Nat) : Int)).toNat (((mkS B).data.size : Int)).toNat), Value.int .i64 (IntKind.i64.wrap ((a : Int) + ((us.length + 1 : Nat) : Int)))]) = _; rw [j4, j8]; rfl) ?_)
      refine And.intro (by kernel_rfl) ?_
      refine And.intro k1 ?_
      refine And.intro (k6 h1) ?_
      refine ifK (fun g => absurd (Nat.eq_of_beq_eq_true g) (by rw [l7, hel h1]; omega)) (fun _ => ?_)
      refine And.intro (by rw [l7, hby, h1s]; simp only [Bool.and_eq_true, decide_eq_true_eq]; exact ⟨⟨⟨⟨⟨⟨rfl, rfl⟩, Nat.ble_eq_true_of_le (by simp)⟩, hst⟩, (by omega)⟩, (by omega)⟩, Nat.ble_eq_true_of_le (by have := (hct h1).1; simp; omega)⟩) ?_
      have hc1 := hct h1
      have hull : (us ++ t.take (c + 1)).length + 1 = us.length + 1 + c + 1 := by rw [List.length_append, hel h1]; omega
      have hdr : B.drop (u :: (us ++ t.take (c + 1))).length = t.drop (c + 1) := by rw [List.length_cons, hull, ← ht, List.drop_drop]; rfl
      refine ⟨(u :: (us ++ t.take (c + 1)), [(t, a + (us.length + 1))]), ⟨?_, ?_, ?_, ?_, fu, ?_, ?_⟩, ?_, ?_⟩
      ·show (u :: (us ++ t.take (c + 1))).length ≤ B.length
       rw [List.length_cons, hull]; simp only [List.length_cons] at htl; omega
      ·show Nm (B.drop (u :: (us ++ t.take (c + 1))).length)
       rw [hdr]; exact hc1.2
      ·intro h; cases h
      ·show List.length _ ≤ (u :: (us ++ t.take (c + 1))).length
       have e : (u :: (us ++ t.take (c + 1))).length = us.length + 1 + c + 1 := hull
       rw [e]; simp only [List.length_cons, List.length_append, List.length_nil] at hFl ⊢; omega
      ·show (B.drop (u :: (us ++ t.take (c + 1))).length).length ≤ fu
       rw [hdr, List.length_drop]; omega
      ·show ((u :: (us ++ t.take (c + 1))) ++ (packN T a fu (B.drop (u :: (us ++ t.take (c + 1))).length) (u :: (us ++ t.take (c + 1))).length).1, ([(t, a + (us.length + 1))]) ++ (packN T a fu (B.drop (u :: (us ++ t.take (c + 1))).length) (u :: (us ++ t.take (c + 1))).length).2) = R
       rw [hdr, List.length_cons]
       have hpk : ((u :: us) ++ (t.take (c + 1) ++ (packN T a fu (t.drop (c + 1)) (us.length + 1 + c + 1)).1), ([] : List (Bl × Nat)) ++ (if a + (us.length + 1) < 16384 then (t, a + (us.length + 1)) :: (packN T a fu (t.drop (c + 1)) (us.length + 1 + c + 1)).2 else (packN T a fu (t.drop (c + 1)) (us.length + 1 + c + 1)).2)) = R := hpk
       rw [← hpk, hull]; simp only [if_pos g]; simp [List.append_assoc]
      ·show B.length - (u :: (us ++ t.take (c + 1))).length < B.length - (us.length + 1)
       rw [List.length_cons, hull]; simp only [List.length_cons] at htl; omega
      exact rcq [5, 4] ⟨⟨_, rfl, .ptr _ _ _ rfl⟩, ⟨_, rfl, .int _ _⟩, ⟨_, rfl, .string _⟩, ⟨_, rfl, by rw [l7, show (us ++ t.take (c + 1)).length + 1 = us.length + 1 + (t.take (c + 1)).length by rw [List.length_append]; omega]; exact .sl _ _ _ _ _ rfl⟩, ⟨_, rfl, .sl _ _ _ _ _ rfl⟩, ⟨_, rfl, by rw [l5, show (u :: us).length + c + 1 = (u :: (us ++ t.take (c + 1))).length by rw [List.length_cons, List.length_cons, hull]]; exact .int _ _⟩, trivial⟩ ⟨⟨by decide, _, rfl, hbox _ rfl⟩, bpo (pT), ⟨by decide, _, rfl, zBb (by rw [l7, h1s, Nat.mul_one, List.take_of_length_le (by simp)]; simp <;> rfl) (zAb _)⟩, ⟨by decide, _, rfl, .same (zAa layT.g layT.plain [(t, a + (us.length + 1))])⟩, trivial⟩ .nil
     ·have g : ¬ a + (us.length + 1) < 16384 := fun hlt => by have g : decide (IntKind.i64.wrap ((a : Int) + ((us.length + 1 : Nat) : Int)) < 16384) = false := g; rw [j8] at g; exact absurd (show ((a + (u :: us).length : Nat) : Int) < 16384 by simp only [List.length_cons]; omega) (of_decide_eq_false g)
      refine And.intro k1 ?_
      refine And.intro (k6 h1) ?_
      refine ifK (fun g => absurd (Nat.eq_of_beq_eq_true g) (by rw [l7, hel h1]; omega)) (fun _ => ?_)
      refine And.intro (by rw [l7, hby, h1s]; simp only [Bool.and_eq_true, decide_eq_true_eq]; exact ⟨⟨⟨⟨⟨⟨rfl, rfl⟩, Nat.ble_eq_true_of_le (by simp)⟩, hst⟩, (by omega)⟩, (by omega)⟩, Nat.ble_eq_true_of_le (by have := (hct h1).1; simp; omega)⟩) ?_
      have hc1 := hct h1
      have hull : (us ++ t.take (c + 1)).length + 1 = us.length + 1 + c + 1 := by rw [List.length_append, hel h1]; omega
      have hdr : B.drop (u :: (us ++ t.take (c + 1))).length = t.drop (c + 1) := by rw [List.length_cons, hull, ← ht, List.drop_drop]; rfl
      refine ⟨(u :: (us ++ t.take (c + 1)), []), ⟨?_, ?_, ?_, ?_, fu, ?_, ?_⟩, ?_, ?_⟩
      ·show (u :: (us ++ t.take (c + 1))).length ≤ B.length
       rw [List.length_cons, hull]; simp only [List.length_cons] at htl; omega
      ·show Nm (B.drop (u :: (us ++ t.take (c + 1))).length)
       rw [hdr]; exact hc1.2
      ·intro h; cases h
      ·show List.length _ ≤ (u :: (us ++ t.take (c + 1))).length
       have e : (u :: (us ++ t.take (c + 1))).length = us.length + 1 + c + 1 := hull
       rw [e]; simp only [List.length_cons, List.length_append, List.length_nil] at hFl ⊢; omega
      ·show (B.drop (u :: (us ++ t.take (c + 1))).length).length ≤ fu
       rw [hdr, List.length_drop]; omega
      ·show ((u :: (us ++ t.take (c + 1))) ++ (packN T a fu (B.drop (u :: (us ++ t.take (c + 1))).length) (u :: (us ++ t.take (c + 1))).length).1, ([]) ++ (packN T a fu (B.drop (u :: (us ++ t.take (c + 1))).length) (u :: (us ++ t.take (c + 1))).length).2) = R
       rw [hdr, List.length_cons]
       have hpk : ((u :: us) ++ (t.take (c + 1) ++ (packN T a fu (t.drop (c + 1)) (us.length + 1 + c + 1)).1), ([] : List (Bl × Nat)) ++ (if a + (us.length + 1) < 16384 then (t, a + (us.length + 1)) :: (packN T a fu (t.drop (c + 1)) (us.length + 1 + c + 1)).2 else (packN T a fu (t.drop (c + 1)) (us.length + 1 + c + 1)).2)) = R := hpk
       rw [← hpk, hull]; simp only [if_neg g]; simp [List.append_assoc]
      ·show B.length - (u :: (us ++ t.take (c + 1))).length < B.length - (us.length + 1)
       rw [List.length_cons, hull]; simp only [List.length_cons] at htl; omega
      exact rcq [3] ⟨⟨_, rfl, .ptr _ _ _ rfl⟩, ⟨_, rfl, .int _ _⟩, ⟨_, rfl, .string _⟩, ⟨_, rfl, by rw [l7, show (us ++ t.take (c + 1)).length + 1 = us.length + 1 + (t.take (c + 1)).length by rw [List.length_append]; omega]; exact .sl _ _ _ _ _ rfl⟩, ⟨_, rfl, zAc 8 rfl⟩, ⟨_, rfl, by rw [l5, show (u :: us).length + c + 1 = (u :: (us ++ t.take (c + 1))).length by rw [List.length_cons, List.length_cons, hull]]; exact .int _ _⟩, trivial⟩ ⟨⟨by decide, _, rfl, hbox _ rfl⟩, bpo (pT), ⟨by decide, _, rfl, zBb (by rw [l7, h1s, Nat.mul_one, List.take_of_length_le (by simp)]; simp <;> rfl) (zAb _)⟩, trivial⟩ .nil
   ·have h1 : c = 0 := by have h1 : (((atS (mkS B) ((us.length + 1 : Nat) : Int)).toNat : Int) != 0) = false := h1; rw [j2] at h1; have : (c : Int) = 0 := by simpa using h1
                          omega
    rw [if_pos h1] at hpk
    refine And.intro rfl (zAi (rcq [2] (d := 7) (d2 := 3) (lv := [(0, .pointer (some ⟨0, 0, none⟩)), (1, .int .i64 (a : Int)), (2, .string (mkS B)), (9, .slice (some ⟨2, 0, none⟩) (us.length + 1) U), (10, .slice none 0 0), (11, .int .i64 ((us.length + 1 : Nat) : Int))]) (bs := [(0, .cells [.slice (some ⟨1, 0, none⟩) T.length cL, .int .i64 en] 38), (1, .cells (T.flatMap layT.g) 107), (2, .cells ((u :: us).map byV) 5)]) (W := []) (m := 3) (df := []) ⟨⟨_, rfl, .ptr _ _ _ rfl⟩, ⟨_, rfl, .int _ _⟩, ⟨_, rfl, .string _⟩, ⟨_, rfl, .sl _ _ _ _ _ rfl⟩, ⟨_, rfl, zAc 8 rfl⟩, ⟨_, rfl, .int _ _⟩, trivial⟩ ⟨⟨by decide, _, rfl, hbox _ rfl⟩, bpo (pT), bpo (zAb _), trivial⟩ .nil) (fun f => ?_))
    refine hex (u :: us) ([]) (us.length + 1) f (by simp only [List.length_cons] at htl; omega) (fun h => by cases h) (.inl ⟨?_, ?_⟩) (by simp at hlen2 ⊢; omega)
    ·rw [show B.getD (us.length + 1) 0 = t.getD 0 0 from hB0]; exact UInt8.toNat_inj.1 (by rw [hc, h1]; rfl)
    ·rw [← hpk]; simp
  | cons p F =>
   refine zAn tbPk9 [1, 2, 3] 2 _ none mixed _ _ _ ?_
   refine And.intro k1 ?_
   refine ifK (fun h1 => ?_) (fun h1 => ?_)
   ·have h1 : c ≠ 0 := fun e => by have h1 : (((atS (mkS B) ((us.length + 1 : Nat) : Int)).toNat : Int) != 0) = true := h1; rw [j2, e] at h1; cases h1
    rw [if_neg h1] at hpk
    refine And.intro k3 ?_
    refine Exists.intro (⟨0, some (1, cL), T, en, t⟩ : PlX) (And.intro ⟨by show [Value.pointer _, Value.string (subS (mkS B) (((us.length + 1 : Nat) : Int)).toNat (((mkS B).data.size : Int)).toNat)] = _; rw [j4], rfl, rfl, hTl⟩ ?_)
    cases hlk : lookT T t with
    | some k =>
     have hpl : plO T t = (k : Int) := by unfold plO; rw [hlk]
     have hk : k < 16384 := hT.2 _ (zEh hlk)
     rw [hlk] at hpk
     refine ifK (fun _ => ?_) (fun g => absurd (of_decide_eq_false g) (by rw [hpl]; omega))
     have q1 : IntKind.u8.wrap (IntKind.i64.wrap (192 + IntKind.i64.wrap ((plO T t).tdiv 256))) = ((hi8 (49152 + k)).toNat : Int) := by rw [hpl]; exact hi_ref hk
     have q2 : IntKind.u8.wrap ((plO T t).tmod 256) = ((lo8 (49152 + k)).toNat : Int) := by rw [hpl]; exact lo_ref k
     refine And.intro (by rw [hby, h1s]; simp only [Bool.and_eq_true, decide_eq_true_eq]; exact ⟨⟨⟨⟨⟨⟨rfl, rfl⟩, Nat.ble_eq_true_of_le (by simp)⟩, rfl⟩, (by omega)⟩, (by omega)⟩, Nat.ble_eq_true_of_le (by simp)⟩) ?_
     refine And.intro rfl (zAi (rcq [5, 3] (d := 7) (d2 := 3) (lv := [(0, .pointer (some ⟨0, 0, none⟩)), (1, .int .i64 (a : Int)), (2, .string (mkS B)), (9, .slice (some ⟨2, 0, none⟩) ((us ++ [hi8 (49152 + k), lo8 (49152 + k)]).length + 1) U), (10, .slice (some ⟨3, 0, none⟩) (F.length + 1) U), (11, .int .i64 ((us.length + 1 : Nat) : Int))]) (bs := [(0, .cells [.slice (some ⟨1, 0, none⟩) T.length cL, .int .i64 en] 38), (1, .cells (T.flatMap layT.g) 107), (2, .cells ((u :: (us ++ [hi8 (49152 + k), lo8 (49152 + k)])).map byV) 5), (3, .cells ((p :: F).flatMap layT.g) 107)]) (W := []) (m := 4) (df := []) ⟨⟨_, rfl, .ptr _ _ _ rfl⟩, ⟨_, rfl, .int _ _⟩, ⟨_, rfl, .string _⟩, ⟨_, rfl, by rw [show (us ++ [hi8 (49152 + k), lo8 (49152 + k)]).length + 1 = us.length + 1 + 2 by simp <;> omega]; exact .sl _ _ _ _ _ rfl⟩, ⟨_, rfl, .sl _ _ _ _ _ rfl⟩, ⟨_, rfl, .int _ _⟩, trivial⟩ ⟨⟨by decide, _, rfl, hbox _ rfl⟩, bpo (pT), ⟨by decide, _, rfl, zBb (by rw [q1, q2, h1s, Nat.mul_one, List.take_of_length_le (by simp)]; simp <;> first | rfl | exact ⟨rfl, rfl⟩) (zAb _)⟩, bpo (zAa layT.g layT.plain _), trivial⟩ .nil) (fun f => ?_))
     refine hex (u :: (us ++ [hi8 (49152 + k), lo8 (49152 + k)])) (p :: F) (us.length + 1) f (by simp only [List.length_cons] at htl; omega) (fun h => by cases h) (.inr ⟨?_, ?_⟩) (by simp; simp at hlen2; omega)
     ·exact fun e => h1 (by have e2 : t.getD 0 0 = 0 := hB0.symm.trans e
                            rw [← hc, e2]; rfl)
     ·rw [← hpk, zLu, zLy]; simp
    | none =>
     have hpl : plO T t = -1 := by unfold plO; rw [hlk]
     rw [hlk] at hpk
     refine ifK (fun g => absurd (of_decide_eq_true g) (by rw [hpl]; decide)) (fun _ => ?_)
     refine ifK (fun g => ?_) (fun g => ?_)
     ·have g : a + (us.length + 1) < 16384 := by have g : decide (IntKind.i64.wrap ((a : Int) + ((us.length + 1 : Nat) : Int)) < 16384) = true := g; rw [j8] at g; have := of_decide_eq_true g; simp only [List.length_cons] at this; omega
      refine And.intro k3 ?_
      refine And.intro (by rw [h2s, h2b]; simp only [Bool.and_eq_true, decide_eq_true_eq]; exact ⟨⟨⟨⟨⟨⟨rfl, rfl⟩, Nat.ble_eq_true_of_le (by rw [zAf layT.g layT.k layT.len]; exact Nat.le_refl _)⟩, rfl⟩, (by simp at hFl hlen2; omega)⟩, (by simp at hFl hlen2; omega)⟩, Nat.ble_eq_true_of_le (by rw [zAf layT.g layT.k layT.len]; show (F.length + 1) * 2 + 1 ≤ 0 + (F.length + 1) * 2 + 2; omega)⟩) ?_
      refine And.intro k1 ?_
      refine And.intro (k6 h1) ?_
      refine ifK (fun g => absurd (Nat.eq_of_beq_eq_true g) (by rw [l7, hel h1]; omega)) (fun _ => ?_)
      refine And.intro (by rw [l7, hby, h1s]; simp only [Bool.and_eq_true, decide_eq_true_eq]; exact ⟨⟨⟨⟨⟨⟨rfl, rfl⟩, Nat.ble_eq_true_of_le (by simp)⟩, hst⟩, (by omega)⟩, (by omega)⟩, Nat.ble_eq_true_of_le (by have := (hct h1).1; simp; omega)⟩) ?_
      have hc1 := hct h1
      have hull : (us ++ t.take (c + 1)).length + 1 = us.length + 1 + c + 1 := by rw [List.length_append, hel h1]; omega
      have hdr : B.drop (u :: (us ++ t.take (c + 1))).length = t.drop (c + 1) := by rw [List.length_cons, hull, ← ht, List.drop_drop]; rfl
      refine ⟨(u :: (us ++ t.take (c + 1)), p :: (F ++ [(t, a + (us.length + 1))])), ⟨?_, ?_, ?_, ?_, fu, ?_, ?_⟩, ?_, ?_⟩
      ·show (u :: (us ++ t.take (c + 1))).length ≤ B.length
       rw [List.length_cons, hull]; simp only [List.length_cons] at htl; omega
      ·show Nm (B.drop (u :: (us ++ t.take (c + 1))).length)
       rw [hdr]; exact hc1.2
      ·intro h; cases h
      ·show List.length _ ≤ (u :: (us ++ t.take (c + 1))).length
       have e : (u :: (us ++ t.take (c + 1))).length = us.length + 1 + c + 1 := hull
       rw [e]; simp only [List.length_cons, List.length_append, List.length_nil] at hFl ⊢; omega
      ·show (B.drop (u :: (us ++ t.take (c + 1))).length).length ≤ fu
       rw [hdr, List.length_drop]; omega
      ·show ((u :: (us ++ t.take (c + 1))) ++ (packN T a fu (B.drop (u :: (us ++ t.take (c + 1))).length) (u :: (us ++ t.take (c + 1))).length).1, (p :: (F ++ [(t, a + (us.length + 1))])) ++ (packN T a fu (B.drop (u :: (us ++ t.take (c + 1))).length) (u :: (us ++ t.take (c + 1))).length).2) = R
       rw [hdr, List.length_cons]
       have hpk : ((u :: us) ++ (t.take (c + 1) ++ (packN T a fu (t.drop (c + 1)) (us.length + 1 + c + 1)).1), (p :: F) ++ (if a + (us.length + 1) < 16384 then (t, a + (us.length + 1)) :: (packN T a fu (t.drop (c + 1)) (us.length + 1 + c + 1)).2 else (packN T a fu (t.drop (c + 1)) (us.length + 1 + c + 1)).2)) = R := hpk
       rw [← hpk, hull]; simp only [if_pos g]; simp [List.append_assoc]
      ·show B.length - (u :: (us ++ t.take (c + 1))).length < B.length - (us.length + 1)
       rw [List.length_cons, hull]; simp only [List.length_cons] at htl; omega
      exact rcq [6, 5] ⟨⟨_, rfl, .ptr _ _ _ rfl⟩, ⟨_, rfl, .int _ _⟩, ⟨_, rfl, .string _⟩, ⟨_, rfl, by rw [l7, show (us ++ t.take (c + 1)).length + 1 = us.length + 1 + (t.take (c + 1)).length by rw [List.length_append]; omega]; exact .sl _ _ _ _ _ rfl⟩, ⟨_, rfl, by rw [show (F ++ [(t, a + (us.length + 1))]).length + 1 = F.length + 1 + 1 by simp]; exact .sl _ _ _ _ _ rfl⟩, ⟨_, rfl, by rw [l5, show (u :: us).length + c + 1 = (u :: (us ++ t.take (c + 1))).length by rw [List.length_cons, List.length_cons, hull]]; exact .int _ _⟩, trivial⟩ ⟨⟨by decide, _, rfl, hbox _ rfl⟩, bpo (pT), ⟨by decide, _, rfl, zBb (by rw [l7, h1s, Nat.mul_one, List.take_of_length_le (by simp)]; simp <;> rfl) (zAb _)⟩, ⟨by decide, _, rfl, zBb (by rw [h2s, l4, l8, List.take_of_length_le (by rw [zAf layT.g layT.k layT.len]; exact Nat.le_refl _)]; simp [layT]) (zAa layT.g layT.plain _)⟩, trivial⟩ .nil
     ·have g : ¬ a + (us.length + 1) < 16384 := fun hlt => by have g : decide (IntKind.i64.wrap ((a : Int) + ((us.length + 1 : Nat) : Int)) < 16384) = false := g; rw [j8] at g; exact absurd (show ((a + (u :: us).length : Nat) : Int) < 16384 by simp only [List.length_cons]; omega) (of_decide_eq_false g)
      refine And.intro k1 ?_
      refine And.intro (k6 h1) ?_
      refine ifK (fun g => absurd (Nat.eq_of_beq_eq_true g) (by rw [l7, hel h1]; omega)) (fun _ => ?_)
      refine And.intro (by rw [l7, hby, h1s]; simp only [Bool.and_eq_true, decide_eq_true_eq]; exact ⟨⟨⟨⟨⟨⟨rfl, rfl⟩, Nat.ble_eq_true_of_le (by simp)⟩, hst⟩, (by omega)⟩, (by omega)⟩, Nat.ble_eq_true_of_le (by have := (hct h1).1; simp; omega)⟩) ?_
      have hc1 := hct h1
      have hull : (us ++ t.take (c + 1)).length + 1 = us.length + 1 + c + 1 := by rw [List.length_append, hel h1]; omega
      have hdr : B.drop (u :: (us ++ t.take (c + 1))).length = t.drop (c + 1) := by rw [List.length_cons, hull, ← ht, List.drop_drop]; rfl
      refine ⟨(u :: (us ++ t.take (c + 1)), p :: F), ⟨?_, ?_, ?_, ?_, fu, ?_, ?_⟩, ?_, ?_⟩
      ·show (u :: (us ++ t.take (c + 1))).length ≤ B.length
       rw [List.length_cons, hull]; simp only [List.length_cons] at htl; omega
      ·show Nm (B.drop (u :: (us ++ t.take (c + 1))).length)
       rw [hdr]; exact hc1.2
      ·intro h; cases h
      ·show List.length _ ≤ (u :: (us ++ t.take (c + 1))).length
       have e : (u :: (us ++ t.take (c + 1))).length = us.length + 1 + c + 1 := hull
       rw [e]; simp only [List.length_cons, List.length_append, List.length_nil] at hFl ⊢; omega
      ·show (B.drop (u :: (us ++ t.take (c + 1))).length).length ≤ fu
       rw [hdr, List.length_drop]; omega
      ·show ((u :: (us ++ t.take (c + 1))) ++ (packN T a fu (B.drop (u :: (us ++ t.take (c + 1))).length) (u :: (us ++ t.take (c + 1))).length).1, (p :: F) ++ (packN T a fu (B.drop (u :: (us ++ t.take (c + 1))).length) (u :: (us ++ t.take (c + 1))).length).2) = R
       rw [hdr, List.length_cons]
       have hpk : ((u :: us) ++ (t.take (c + 1) ++ (packN T a fu (t.drop (c + 1)) (us.length + 1 + c + 1)).1), (p :: F) ++ (if a + (us.length + 1) < 16384 then (t, a + (us.length + 1)) :: (packN T a fu (t.drop (c + 1)) (us.length + 1 + c + 1)).2 else (packN T a fu (t.drop (c + 1)) (us.length + 1 + c + 1)).2)) = R := hpk
       rw [← hpk, hull]; simp only [if_neg g]; simp [List.append_assoc]
      ·show B.length - (u :: (us ++ t.take (c + 1))).length < B.length - (us.length + 1)
       rw [List.length_cons, hull]; simp only [List.length_cons] at htl; omega
      exact rcq [4, 3] ⟨⟨_, rfl, .ptr _ _ _ rfl⟩, ⟨_, rfl, .int _ _⟩, ⟨_, rfl, .string _⟩, ⟨_, rfl, by rw [l7, show (us ++ t.take (c + 1)).length + 1 = us.length + 1 + (t.take (c + 1)).length by rw [List.length_append]; omega]; exact .sl _ _ _ _ _ rfl⟩, ⟨_, rfl, .sl _ _ _ _ _ rfl⟩, ⟨_, rfl, by rw [l5, show (u :: us).length + c + 1 = (u :: (us ++ t.take (c + 1))).length by rw [List.length_cons, List.length_cons, hull]]; exact .int _ _⟩, trivial⟩ ⟨⟨by decide, _, rfl, hbox _ rfl⟩, bpo (pT), ⟨by decide, _, rfl, zBb (by rw [l7, h1s, Nat.mul_one, List.take_of_length_le (by simp)]; simp <;> rfl) (zAb _)⟩, bpo (zAa layT.g layT.plain _), trivial⟩ .nil
   ·have h1 : c = 0 := by have h1 : (((atS (mkS B) ((us.length + 1 : Nat) : Int)).toNat : Int) != 0) = false := h1; rw [j2] at h1; have : (c : Int) = 0 := by simpa using h1
                          omega
    rw [if_pos h1] at hpk
    refine And.intro rfl (zAi (rcq [2, 3] (d := 7) (d2 := 3) (lv := [(0, .pointer (some ⟨0, 0, none⟩)), (1, .int .i64 (a : Int)), (2, .string (mkS B)), (9, .slice (some ⟨2, 0, none⟩) (us.length + 1) U), (10, .slice (some ⟨3, 0, none⟩) (F.length + 1) U), (11, .int .i64 ((us.length + 1 : Nat) : Int))]) (bs := [(0, .cells [.slice (some ⟨1, 0, none⟩) T.length cL, .int .i64 en] 38), (1, .cells (T.flatMap layT.g) 107), (2, .cells ((u :: us).map byV) 5), (3, .cells ((p :: F).flatMap layT.g) 107)]) (W := []) (m := 4) (df := []) ⟨⟨_, rfl, .ptr _ _ _ rfl⟩, ⟨_, rfl, .int _ _⟩, ⟨_, rfl, .string _⟩, ⟨_, rfl, .sl _ _ _ _ _ rfl⟩, ⟨_, rfl, .sl _ _ _ _ _ rfl⟩, ⟨_, rfl, .int _ _⟩, trivial⟩ ⟨⟨by decide, _, rfl, hbox _ rfl⟩, bpo (pT), bpo (zAb _), bpo (zAa layT.g layT.plain _), trivial⟩ .nil) (fun f => ?_))
    refine hex (u :: us) (p :: F) (us.length + 1) f (by simp only [List.length_cons] at htl; omega) (fun h => by cases h) (.inl ⟨?_, ?_⟩) (by simp at hlen2 ⊢; omega)
    ·rw [show B.getD (us.length + 1) 0 = t.getD 0 0 from hB0]; exact UInt8.toNat_inj.1 (by rw [hc, h1]; rfl)
    ·rw [← hpk]; simp
end Go.Proofs.Ytmpaeabkdhjamaa
namespace Go.Proofs.Ytmpaeabkdhjamaa
open Go Go.RowKit
theorem zJi {G : Gh} {b c sz : Nat} {pre post : List Value} {l : List (Bl × Nat)} (hs : sz = 2) (hG : (G b).bind AObj.look = some (pre ++ l.flatMap layT.g ++ post)) : zAw G sz (.slice (some ⟨b, pre.length, none⟩) l.length c) = some (l.length, l.flatMap layT.g) := by
 subst hs
 unfold zAw
 cases hl : Nat.beq l.length 0 with
 | true =>
  have : l = [] := List.length_eq_zero_iff.1 (Nat.eq_of_beq_eq_true hl)
  subst this
  rfl
 | false =>
  have h1 : (l.flatMap layT.g).length = l.length * 2 := zAf layT.g layT.k layT.len l
  simp only [hl, cond_false, hG]
  rw [Nat.ble_eq_true_of_le (by simp only [List.length_append, h1]; omega), cond_true, List.append_assoc, List.drop_left, ← h1, List.take_left]
theorem oneT (l : List (Bl × Nat)) : oneL (l.flatMap layT.g) = true := by
 induction l with
 | nil => rfl
 | cons x l ih =>
  unfold oneL at ih ⊢
  rw [List.flatMap_cons, List.all_append, ih]; rfl
theorem zBd (T : List (Bl × Nat)) (a : Nat) : ∀ (f : Nat) (t : Bl) (o : Nat), (packN T a f t o).2.length ≤ (packN T a f t o).1.length
 | 0, _, _ => Nat.le_refl _
 | f + 1, t, o => by
  unfold packN
  by_cases hc : (t.getD 0 0).toNat = 0
  ·simp only [if_pos hc]; simp
  ·simp only [if_neg hc]
   cases lookT T t with
   | some k => simp
   | none =>
    have ih := zBd T a f (t.drop ((t.getD 0 0).toNat + 1)) (o + (t.getD 0 0).toNat + 1)
    cases t with
    | nil => exact absurd rfl hc
    | cons x t =>
     simp only [List.length_append]
     split <;> simp only [List.length_cons, List.length_take] <;> omega
theorem zCj (T : List (Bl × Nat)) (a f : Nat) (t : Bl) (o : Nat) (hf : 0 < f) : (packN T a f t o).1 ≠ [] := by
 obtain ⟨f, rfl⟩ : ∃ g, f = g + 1 := ⟨f - 1, by omega⟩
 unfold packN
 by_cases hc : (t.getD 0 0).toNat = 0
 ·simp only [if_pos hc]; simp
 ·simp only [if_neg hc]
  cases lookT T t with
  | some k => simp
  | none =>
   cases t with
   | nil => exact absurd rfl hc
   | cons x t => simp
theorem rname_fn (a en : Nat) (T : List (Bl × Nat)) (B : Bl) (ha : a ≤ 65535) (hen : en ≤ a) (hT : goodT T) (hTl : T.length ≤ 1000000000) (_ : T ≠ []) (hB : Nm B) (hlB : B.length ≤ 255) :
  ∃ r, FnS Try.prog 0 46 [.pointer (some ⟨0, 0, none⟩), .int .i64 (a : Int), .string (mkS B)] (heap 2 [(0, .cells [.slice (some ⟨1, 0, none⟩) T.length U, .int .i64 (en : Int)] 38), (1, .cells (T.flatMap layT.g) 107)]) 2 r ∧
   ∃ H m wr b l, r = .ret (.tuple #[.slice (some ⟨b, 0, none⟩) (packN T a B.length B 0).1.length U, .int .i64 0]) H m wr ∧ (2 ≤ b ∧ b < JJ ∧ 0 ∈ wr) ∧ ((packN T a B.length B 0).2 = [] ∧ l = 1 ∨ (packN T a B.length B 0).2 ≠ [] ∧ 2 ≤ l ∧ l < JJ ∧ l ≠ b ∧ 1 ∈ wr) ∧ H.get b = some (.cells ((packN T a B.length B 0).1.map byV) 5) ∧
    H.get 0 = some (.cells [.slice (some ⟨l, 0, none⟩) (T ++ (packN T a B.length B 0).2).length U, .int .i64 ((a + (packN T a B.length B 0).1.length : Nat) : Int)] 38) ∧ H.get l = some (.cells ((T ++ (packN T a B.length B 0).2).flatMap layT.g) 107) := by
 have hsh : shortB (mkS B) = true := by unfold shortB; rw [zAs]; exact Nat.ble_eq_true_of_le (by omega)
 have hlab : (labels (bs (mkS B))).2 = 0 := by rw [show bs (mkS B) = B from by simp [bs, mkS]]; exact (zAv B).2 ⟨hB, hlB⟩
 have h1s : (Try.prog.types[5]).size = 1 := by kernel_rfl
 have hby : (Try.prog.types[5]).bytes = 1 := by kernel_rfl
 have h2s : (Try.prog.types[107]).size = 2 := by kernel_rfl
 have h2b : (Try.prog.types[107]).bytes = 24 := by kernel_rfl
 have pT : plainL (T.flatMap layT.g) = true := zAa layT.g layT.plain _
 refine zBm mixed tbPk9 [1, 2, 3] Try.func46 (c := bodyOf Try.f46) (by kernel_rfl) ?_
 refine And.intro hsh ?_
 refine ifK (fun g => by have g : ((labels (bs (mkS B))).2 != 0) = true := g; rw [hlab] at g; cases g) (fun _ => ?_)
 refine ifK (fun g => absurd (of_decide_eq_true g) (by omega)) (fun _ => ?_)
 refine ifK (fun g => absurd (of_decide_eq_true g) (by omega)) (fun _ => ?_)
 refine zVw a (en : Int) T U B ha hT (by omega) hB hlB (rcq [] ⟨⟨_, rfl, .ptr _ _ _ rfl⟩, ⟨_, rfl, .int _ _⟩, ⟨_, rfl, .string _⟩, ⟨_, rfl, zAc 8 rfl⟩, ⟨_, rfl, zAc 8 rfl⟩, ⟨_, rfl, .int _ _⟩, trivial⟩ ⟨⟨by decide, _, rfl, RO.cells [_, _] [] _ _ (.cons _ _ _ _ (.sl _ _ _ _ _ rfl) (.cons _ _ _ _ (.int _ _) .nil))⟩, bpo (pT), trivial⟩ .nil) ?_
 intro out F i f hi hoF hor hl
 have e1 : inI (i : Int) (mkS B).data.size = true := by rw [zAs]; simp [inI]; omega
 have e2 : ((atS (mkS B) (i : Int)).toNat : Int) = ((B.getD i 0).toNat : Int) := by rw [zJn]
 cases out with
 | nil =>
  have hF0 : F = [] := hoF rfl
  subst hF0
  rcases hor with ⟨c0, hR⟩ | ⟨_, hR⟩
  ·rw [← hR]
   refine And.intro e1 ?_
   refine ifK (fun _ => ?_) (fun g => by have g : (((atS (mkS B) (i : Int)).toNat : Int) == 0) = false := g; rw [e2, c0] at g; cases g)
   refine Exists.intro [Value.int .u8 0] (And.intro rfl ?_)
   refine And.intro (by kernel_rfl) ?_
   have ew : IntKind.i64.wrap ((a : Int) + ((1 : Nat) : Int)) = ((a + 1 : Nat) : Int) := by rw [zAq (by omega) (by omega)]; omega
   refine ⟨_, _, _, 3, 1, rfl, ⟨by decide, by decide, List.mem_of_elem_eq_true (by kernel_rfl)⟩, .inl ⟨rfl, rfl⟩, rfl, ?_, ?_⟩
   ·show some (AObj.cells [.slice (some ⟨1, 0, none⟩) T.length U, .int .i64 (IntKind.i64.wrap ((a : Int) + ((1 : Nat) : Int)))] _) = _
    rw [ew, List.append_nil]; rfl
   ·rw [List.append_nil]; rfl
  ·exact absurd (congrArg Prod.fst hR).symm (zCj T a _ B 0 hB.pos)
 | cons u us =>
  have hl : us.length + 1 ≤ 257 := hl
  cases F with
  | nil =>
   rcases hor with ⟨c0, hR⟩ | ⟨c0, hR⟩
   ·have eL : (packN T a B.length B 0).1.length = us.length + 1 + 1 := by rw [← hR]; simp
    rw [eL, ← hR]
    refine And.intro e1 ?_
    refine ifK (fun _ => ?_) (fun g => by have g : (((atS (mkS B) (i : Int)).toNat : Int) == 0) = false := g; rw [e2, c0] at g; cases g)
    refine Exists.intro [Value.int .u8 0] (And.intro rfl ?_)
    refine And.intro (by rw [hby, h1s]; simp only [Bool.and_eq_true, decide_eq_true_eq]; exact ⟨⟨⟨⟨⟨⟨rfl, rfl⟩, Nat.ble_eq_true_of_le (by simp)⟩, rfl⟩, (by omega)⟩, (by omega)⟩, Nat.ble_eq_true_of_le (by simp)⟩) ?_
    have ew : IntKind.i64.wrap ((a : Int) + ((us.length + 1 + 1 : Nat) : Int)) = ((a + (us.length + 1 + 1) : Nat) : Int) := by rw [zAq (by omega) (by omega)]; omega
    refine ⟨_, _, _, 4, 1, rfl, ⟨by decide, by decide, List.mem_of_elem_eq_true (by kernel_rfl)⟩, .inl ⟨rfl, rfl⟩, ?_, ?_, ?_⟩
    ·show some (AObj.cells (List.take _ _ ++ _) _) = _
     rw [h1s, Nat.mul_one, List.take_of_length_le (by simp)]; simp <;> rfl
    ·show some (AObj.cells [.slice (some ⟨1, 0, none⟩) T.length U, .int .i64 (IntKind.i64.wrap ((a : Int) + ((us.length + 1 + 1 : Nat) : Int)))] _) = _
     rw [ew, List.append_nil]
    ·rw [List.append_nil]; rfl
   ·have eL : (packN T a B.length B 0).1.length = us.length + 1 := by rw [← hR]; rfl
    rw [eL, ← hR]
    refine And.intro e1 ?_
    refine ifK (fun g => by have g : (((atS (mkS B) (i : Int)).toNat : Int) == 0) = true := g; rw [e2] at g; exact absurd (UInt8.toNat_inj.1 (show (B.getD i 0).toNat = (0 : UInt8).toNat by have g : ((B.getD i 0).toNat : Int) = 0 := (by simpa using g); show _ = 0; omega)) c0) (fun _ => ?_)
    have ew : IntKind.i64.wrap ((a : Int) + ((us.length + 1 : Nat) : Int)) = ((a + (us.length + 1) : Nat) : Int) := by rw [zAq (by omega) (by omega)]; omega
    refine ⟨_, _, _, 2, 1, rfl, ⟨by decide, by decide, List.mem_of_elem_eq_true (by kernel_rfl)⟩, .inl ⟨rfl, rfl⟩, ?_, ?_, ?_⟩
    ·rfl
    ·show some (AObj.cells [.slice (some ⟨1, 0, none⟩) T.length U, .int .i64 (IntKind.i64.wrap ((a : Int) + ((us.length + 1 : Nat) : Int)))] _) = _
     rw [ew, List.append_nil]
    ·rw [List.append_nil]; rfl
  | cons p F =>
   rcases hor with ⟨c0, hR⟩ | ⟨c0, hR⟩
   ·have eL : (packN T a B.length B 0).1.length = us.length + 1 + 1 := by rw [← hR]; simp
    rw [eL, ← hR]
    refine And.intro e1 ?_
    refine ifK (fun _ => ?_) (fun g => by have g : (((atS (mkS B) (i : Int)).toNat : Int) == 0) = false := g; rw [e2, c0] at g; cases g)
    refine And.intro (by rw [hby, h1s]; simp only [Bool.and_eq_true, decide_eq_true_eq]; exact ⟨⟨⟨⟨⟨⟨rfl, rfl⟩, Nat.ble_eq_true_of_le (by simp)⟩, rfl⟩, (by omega)⟩, (by omega)⟩, Nat.ble_eq_true_of_le (by simp)⟩) ?_
    refine Exists.intro ((p :: F).flatMap layT.g) (And.intro ?_ ?_)
    ·exact zJi (pre := []) (post := []) (l := p :: F) h2s (by rw [List.append_nil, List.nil_append]; kernel_rfl)
    have hFb : F.length + 1 ≤ 300 := by have := zBd T a B.length B 0; rw [eL, ← hR] at this; simp only [List.length_cons] at this; omega
    have ho1 : oneL ((p :: F).flatMap layT.g) = true := oneT _
    refine And.intro (by rw [h2s, h2b]; simp only [Bool.and_eq_true, decide_eq_true_eq]; exact ⟨⟨⟨⟨⟨⟨rfl, rfl⟩, Nat.ble_eq_true_of_le (by rw [zAf layT.g layT.k layT.len]; exact Nat.le_refl _)⟩, ho1⟩, (by omega)⟩, (by omega)⟩, Nat.ble_eq_true_of_le (by rw [zAf layT.g layT.k layT.len, zAf layT.g layT.k layT.len]; show T.length * 2 + 1 ≤ 0 + T.length * 2 + (F.length + 1) * 2; omega)⟩) ?_
    have ew : IntKind.i64.wrap ((a : Int) + ((us.length + 1 + 1 : Nat) : Int)) = ((a + (us.length + 1 + 1) : Nat) : Int) := by rw [zAq (by omega) (by omega)]; omega
    refine ⟨_, _, _, 5, 6, rfl, ⟨by decide, by decide, List.mem_of_elem_eq_true (by kernel_rfl)⟩, .inr ⟨List.cons_ne_nil _ _, by decide, by decide, by decide, List.mem_of_elem_eq_true (by kernel_rfl)⟩, ?_, ?_, ?_⟩
    ·show some (AObj.cells (List.take _ _ ++ _) _) = _
     rw [h1s, Nat.mul_one, List.take_of_length_le (by simp)]; simp <;> rfl
    ·show some (AObj.cells [.slice (some ⟨6, 0, none⟩) (T.length + (F.length + 1)) U, .int .i64 (IntKind.i64.wrap ((a : Int) + ((us.length + 1 + 1 : Nat) : Int)))] _) = _
     rw [ew, List.length_append]; rfl
    ·show some (AObj.cells (List.take _ _ ++ _) _) = _
     rw [h2s, List.take_of_length_le (by rw [zAf layT.g layT.k layT.len]; exact Nat.le_refl _), List.flatMap_append]
   ·have eL : (packN T a B.length B 0).1.length = us.length + 1 := by rw [← hR]; rfl
    rw [eL, ← hR]
    refine And.intro e1 ?_
    refine ifK (fun g => by have g : (((atS (mkS B) (i : Int)).toNat : Int) == 0) = true := g; rw [e2] at g; exact absurd (UInt8.toNat_inj.1 (show (B.getD i 0).toNat = (0 : UInt8).toNat by have g : ((B.getD i 0).toNat : Int) = 0 := (by simpa using g); show _ = 0; omega)) c0) (fun _ => ?_)
    refine Exists.intro ((p :: F).flatMap layT.g) (And.intro ?_ ?_)
    ·exact zJi (pre := []) (post := []) (l := p :: F) h2s (by rw [List.append_nil, List.nil_append]; kernel_rfl)
    have hFb : F.length + 1 ≤ 300 := by have := zBd T a B.length B 0; rw [eL, ← hR] at this; simp only [List.length_cons] at this; omega
    have ho1 : oneL ((p :: F).flatMap layT.g) = true := oneT _
    refine And.intro (by rw [h2s, h2b]; simp only [Bool.and_eq_true, decide_eq_true_eq]; exact ⟨⟨⟨⟨⟨⟨rfl, rfl⟩, Nat.ble_eq_true_of_le (by rw [zAf layT.g layT.k layT.len]; exact Nat.le_refl _)⟩, ho1⟩, (by omega)⟩, (by omega)⟩, Nat.ble_eq_true_of_le (by rw [zAf layT.g layT.k layT.len, zAf layT.g layT.k layT.len]; show T.length * 2 + 1 ≤ 0 + T.length * 2 + (F.length + 1) * 2; omega)⟩) ?_
    have ew : IntKind.i64.wrap ((a : Int) + ((us.length + 1 : Nat) : Int)) = ((a + (us.length + 1) : Nat) : Int) := by rw [zAq (by omega) (by omega)]; omega
    refine ⟨_, _, _, 2, 4, rfl, ⟨by decide, by decide, List.mem_of_elem_eq_true (by kernel_rfl)⟩, .inr ⟨List.cons_ne_nil _ _, by decide, by decide, by decide, List.mem_of_elem_eq_true (by kernel_rfl)⟩, ?_, ?_, ?_⟩
    ·rfl
    ·show some (AObj.cells [.slice (some ⟨4, 0, none⟩) (T.length + (F.length + 1)) U, .int .i64 (IntKind.i64.wrap ((a : Int) + ((us.length + 1 : Nat) : Int)))] _) = _
     rw [ew, List.length_append]; rfl
    ·show some (AObj.cells (List.take _ _ ++ _) _) = _
     rw [h2s, List.take_of_length_le (by rw [zAf layT.g layT.k layT.len]; exact Nat.le_refl _), List.flatMap_append]
end Go.Proofs.Ytmpaeabkdhjamaa
