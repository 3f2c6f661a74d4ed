/- DERIVED. Parts. -/
import Derived.LoopIn
import Derived.Test.YtcggcoijhdagnaaZ12
import Derived.Test.YtcggcoijhdagnaaZ13
import Derived.Test.YtcggcoijhdagnaaZ17
import Derived.Test.YtcggcoijhdagnaaZ18
set_option maxRecDepth 1000000
set_option maxHeartbeats 32000000
namespace Go.Proofs.Ytcggcoijhdagnaa
section
open Go Go.RowKit
def bs (s : ByteArray) : Bs := s.data.toList
theorem str_bs (s : ByteArray) : str (bs s) = .string s := by simp [str, bs]
def shortB (s : ByteArray) : Bool := s.data.size.ble 1000000000
theorem zFb {s : ByteArray} (h : shortB s = true) : (bs s).length <= 1000000000 := by unfold bs; rw [Array.length_toList]; exact aE h
def gStr : List Value -> Option Bool
 | [.string s] => some (shortB s)
 | _ => none
def Ct.str1 (f : FuncId) (out : ByteArray -> Value) (hp : ∀ s, plainV 8 (out s) = true) (ok : ∀ s w, (bs s).length <= 1000000000 -> Calls Try.prog f #[.string s] w fun e w' => e = .returned (out s) /\ Below w.heap.size w w') : Ct Try.prog 0 where
 f := f
 res l H n := match l with | [.string s] => bif shortB s then .ret (out s) H n [] else .bad "long" [] | _ => .bad "arguments" []
 ok l H n := by
  split
  ·rename_i s
   cases hs : shortB s with
   | false => trivial
   | true => exact zNx (fun w => ok s w (zFb hs)) rfl (hp s) H n
  trivial
 ck l H n K := match l with | [.string s] => shortB s = true /\ K (.ret (out s) H n []) | _ => False
 imp l H n K h := by
  split at h
  ·obtain ⟨h1, h2⟩ := h
   simp only [h1, cT]; exact h2
  exact h.elim
def ct_check : Ct Try.prog 0 := Ct.str1 52 (fun s => .int .i64 (labels (bs s)).2) (fun _ => rfl) (fun s w hs => by have := zNa (bs s) w hs; rwa [str_bs] at this)
end
section
open Go Go.RowKit
theorem zSt (s : ByteArray) (l h : Nat) : bs (subS s l h) = ((bs s).take h).drop l := by simp [bs, subS]
theorem zAm (s : ByteArray) : s.data.size = (bs s).length := by simp [bs]
theorem zQe (s : ByteArray) (i : Nat) (h : i < (bs s).length) : atS s (i : Int) = (bs s)[i] := by
 unfold atS
 rw [aO, List.getD_eq_getElem?_getD]
 show ((bs s)[i]?).getD 0 = _
 rw [gG h]; rfl
theorem wrapN {x : Int} (h1 : 0 <= x) (h2 : x < 9223372036854775808) : IntKind.i64.wrap x = x := zUi (by omega) h2
theorem zQh (c : UInt8) : c.toNat < 256 := UInt8.toNat_lt c
def txtF : Nat -> Bs -> Bool
 | 0, _ => false
 | _ + 1, [] => true
 | n + 1, c :: r => decide (c.toNat <= r.length) && txtF n (r.drop c.toNat)
theorem txtF_eq : ∀ (n m : Nat) (l : Bs), l.length < n -> l.length < m -> txtF n l = txtF m l
 | n + 1, m + 1, [], _, _ => rfl
 | n + 1, m + 1, c :: r, h1, h2 => by
  simp only [txtF]
  rw [txtF_eq n m (r.drop c.toNat) (by simp at h1 ⊢; omega) (by simp at h2 ⊢; omega)]
def txt (l : Bs) : Bool := txtF (l.length + 1) l
theorem txt_nil : txt [] = true := rfl
theorem txt_cons (c : UInt8) (r : Bs) : txt (c :: r) = (decide (c.toNat <= r.length) && txt (r.drop c.toNat)) := by
 unfold txt
 simp only [txtF, aC]
 rw [txtF_eq (r.length + 1) ((r.drop c.toNat).length + 1) _ (by simp; omega) (by omega)]
theorem txt_at (l : Bs) (i : Nat) (h : i < l.length) : txt (l.drop i) = (decide (i + 1 + l[i].toNat <= l.length) && txt (l.drop (i + 1 + l[i].toNat))) := by
 rw [bD h, txt_cons, List.drop_drop]
 congr 1
 rw [decide_eq_decide]; simp; omega
def texts (l : Bs) : Bool := !l.isEmpty && txt l
theorem texts_fn (s : ByteArray) (hs : (bs s).length <= 1000000000) : ∃ r, FnS Try.prog 0 107 [.string s] .e 0 r /\ ∃ H m wr, r = .ret (.bool (texts (bs s))) H m wr := by
 refine zAu mixed (tbOf mixed []) [] Try.func107 (c := bodyOf Try.f107) (by kernel_rfl) ?_
 refine zMz (fun i f => ⟨slots 6 [(0, .string s), (3, .int .i64 (i : Nat))] f, heap 0 [], 0, [], []⟩) (fun i => (bs s).length - i) (fun i => i <= (bs s).length /\ txt (bs s) = txt ((bs s).drop i)) 0 ⟨aH _, rfl⟩
  (zAy [] rfl rfl rfl (fun l e => by cases e) List.nodup_nil (fun x hx => by cases hx) rfl rfl (fun k hk _ => hk) ⟨⟨_, rfl, .string _⟩, (sI rfl), tv⟩ trivial .nil) ?_
 rintro i f ⟨hi, heq⟩
 refine zAs (tbOf mixed []) [] 0 _ none mixed _ _ _ ?_
 refine ifK (fun h1 => ?_) (fun h1 => ?_)
 ·have h1 : i < (bs s).length := by have := oT h1; rw [zAm] at this; omega
  have hb := zQh (bs s)[i]
  have hat := zQe s i h1
  have e1 : IntKind.i64.wrap ((i : Int) + IntKind.i64.wrap (1 + IntKind.i64.wrap ((atS s (i : Int)).toNat : Int))) = ((i + 1 + (bs s)[i].toNat : Nat) : Int) := by
   rw [hat, wrapN (x := (((bs s)[i]).toNat : Int)) (by omega) (by omega), wrapN (x := 1 + (((bs s)[i]).toNat : Int)) (by omega) (by omega), wrapN (by omega) (by omega)]; omega
  refine aI (by simp only [inI, zAm]; simp; omega) ?_
  have hstep := txt_at (bs s) i h1
  refine ifK (fun h2 => ?_) (fun h2 => ?_)
  ·have h2 := oT h2
   rw [e1, zAm] at h2
   have : texts (bs s) = false := by
    unfold texts; rw [heq, hstep, aY (by omega)]; simp
   rw [this]; exact ⟨_, _, _, rfl⟩
  have h2 := oF h2
  rw [e1, zAm] at h2
  refine ⟨i + 1 + (bs s)[i].toNat, ⟨by omega, ?_⟩, by omega, zAy [] rfl rfl rfl (fun l e => by cases e) List.nodup_nil (fun x hx => by cases hx) rfl rfl (fun k hk _ => hk) ⟨⟨_, rfl, .string _⟩, zAd rfl e1, tv⟩ trivial .nil⟩
  rw [heq, hstep, aX (by omega), Bool.true_and]
 have h1 : ¬ i < (bs s).length := by have := oF h1; rw [zAm] at this; omega
 have : texts (bs s) = !(s.data.toList == []) := by
  unfold texts
  rw [heq, bE (by omega), txt_nil, Bool.and_true]
  show (!(bs s).isEmpty) = !(bs s == [])
  cases bs s <;> rfl
 rw [this]; exact ⟨_, _, _, rfl⟩
end
section
open Go Go.RowKit
def rOf (Q : Value -> Tr AObj -> Prop) (r : Res) : Prop := match r with | .ret v H _ _ => Q v H | _ => False
def resV (r : Res) : Value := match r with | .ret v _ _ _ => v | _ => .nilFunc
noncomputable def evP (t : Int) : Res := ev Try.prog 0 1000 (.call 102 [.int .i64 t]) ⟨.e, .e, 0, [], []⟩
theorem zCf (t : Int) (Q : Value -> Tr AObj -> Prop) : (frcTr (tmpsOf [.int .i64 t] 0 .e) fun T => sx (tbK mixed (g0 := 0) true []) [] 0 (1 + (Try.f102.ntmps - 1)) none (bodyOf Try.f102) ⟨T, .e, 0, [], []⟩ (fnK (tbK mixed (g0 := 0) true []) Try.f102 (rOf Q))) =
  brK (t == 1) (Q (resV (evP 1)) (resH (evP 1))) (brK (t == 28) (Q (resV (evP 28)) (resH (evP 1))) (brK (t == 2) (Q (resV (evP 2)) (resH (evP 1))) (brK (t == 5) (Q (resV (evP 5)) (resH (evP 1))) (brK (t == 12) (Q (resV (evP 12)) (resH (evP 1)))
   (brK (t == 15) (Q (resV (evP 15)) (resH (evP 1))) (brK (t == 6) (Q (resV (evP 6)) (resH (evP 1))) (brK (t == 16) (Q (resV (evP 16)) (resH (evP 1))) (Q (.tuple #[.slice none 0 0, .bool false]) (resH (evP 1)))))))))) := by kernel_rfl
def part (n : Int) (name rest : Bool) : List Value := [.int .i64 n, .bool name, .bool rest]
def partsTab : List (Int × Nat × List Value) :=
 [(1, 1, part 4 false false), (28, 1, part 16 false false), (2, 1, part 0 true false), (5, 1, part 0 true false), (12, 1, part 0 true false), (15, 2, part 2 false false ++ part 0 true false),
  (6, 3, part 0 true false ++ part 0 true false ++ part 20 false false), (16, 1, part 0 false true)]
def partsOut (len : Nat) (c : List Value) (H : Tr AObj) (n : Nat) : Res := .ret (.tuple #[.slice (some ⟨n, 0, none⟩) len len, .bool true]) (H.set n (some (.cells c 144))) (n + 1) []
def partsGo (t : Int) (H : Tr AObj) (n : Nat) : List (Int × Nat × List Value) -> Res
 | [] => .ret (.tuple #[.slice none 0 0, .bool false]) H n []
 | (k, len, c) :: l => bif t == k then partsOut len c H n else partsGo t H n l
theorem zTt (t : Int) (H : Tr AObj) (n : Nat) : CallOK Try.prog 0 102 [.int .i64 t] H n (partsGo t H n partsTab) := by
 have main : ∀ v, (frcTr (tmpsOf [.int .i64 t] 0 .e) fun T => sx (tbK mixed (g0 := 0) true []) [] 0 (1 + (Try.f102.ntmps - 1)) none (bodyOf Try.f102) ⟨T, .e, 0, [], []⟩ (fnK (tbK mixed (g0 := 0) true []) Try.f102 (rOf fun v' H' => v' = v /\ H' = resH (evP 1)))) -> ∃ m wr, FnS Try.prog 0 102 [.int .i64 t] .e 0 (.ret v (resH (evP 1)) m wr) := by
  intro v h
  obtain ⟨r, h1, h2⟩ := zAu mixed (tbK mixed true []) [] Try.func102 (c := bodyOf Try.f102) (by kernel_rfl) h
  cases r with
  | ret v' H' m wr => obtain ⟨rfl, rfl⟩ := h2; exact ⟨m, wr, h1⟩
  | _ => exact h2.elim
 have one : ∀ (b len : Nat) (c : List Value), (∃ m wr, FnS Try.prog 0 102 [.int .i64 t] .e 0 (.ret (.tuple #[.slice (some ⟨b, 0, none⟩) len len, .bool true]) (resH (evP 1)) m wr)) -> (resH (evP 1)).get b = some (.cells c 144) -> b < JJ -> plainL c = true -> CallOK Try.prog 0 102 [.int .i64 t] H n (partsOut len c H n) := by
  rintro b len c ⟨m, wr, hF⟩ hb hJ hp
  exact zDb (fun n => .tuple #[.slice (some ⟨n, 0, none⟩) len len, .bool true]) hF rfl hb hJ hp (fun n => .tuple _ _ (.cons _ _ _ _ (.sl _ _ _ _ _ (zKr _ _)) (.cons _ _ _ _ (.bool _) .nil))) H n
 unfold partsTab
 simp only [partsGo]
 cases h1 : (t == 1) with
 | true => exact one 2 1 _ (main _ (by rw [zCf, h1]; exact ⟨(by kernel_rfl), rfl⟩)) (by kernel_rfl) (by decide) rfl
 | false =>
 cases h2 : (t == 28) with
 | true => exact one 3 1 _ (main _ (by rw [zCf, h1, h2]; exact ⟨(by kernel_rfl), rfl⟩)) (by kernel_rfl) (by decide) rfl
 | false =>
 cases h3 : (t == 2) with
 | true => exact one 4 1 _ (main _ (by rw [zCf, h1, h2, h3]; exact ⟨(by kernel_rfl), rfl⟩)) (by kernel_rfl) (by decide) rfl
 | false =>
 cases h4 : (t == 5) with
 | true => exact one 5 1 _ (main _ (by rw [zCf, h1, h2, h3, h4]; exact ⟨(by kernel_rfl), rfl⟩)) (by kernel_rfl) (by decide) rfl
 | false =>
 cases h5 : (t == 12) with
 | true => exact one 6 1 _ (main _ (by rw [zCf, h1, h2, h3, h4, h5]; exact ⟨(by kernel_rfl), rfl⟩)) (by kernel_rfl) (by decide) rfl
 | false =>
 cases h6 : (t == 15) with
 | true => exact one 7 2 _ (main _ (by rw [zCf, h1, h2, h3, h4, h5, h6]; exact ⟨(by kernel_rfl), rfl⟩)) (by kernel_rfl) (by decide) rfl
 | false =>
 cases h7 : (t == 6) with
 | true => exact one 8 3 _ (main _ (by rw [zCf, h1, h2, h3, h4, h5, h6, h7]; exact ⟨(by kernel_rfl), rfl⟩)) (by kernel_rfl) (by decide) rfl
 | false =>
 cases h8 : (t == 16) with
 | true => exact one 9 1 _ (main _ (by rw [zCf, h1, h2, h3, h4, h5, h6, h7, h8]; exact ⟨(by kernel_rfl), rfl⟩)) (by kernel_rfl) (by decide) rfl
 | false =>
  obtain ⟨m, wr, hF⟩ := main (.tuple #[.slice none 0 0, .bool false]) (by rw [zCf, h1, h2, h3, h4, h5, h6, h7, h8]; exact ⟨rfl, rfl⟩)
  exact zCt hF rfl rfl H n
end
section
open Go Go.RowKit
def zposF : Nat -> Bs -> Option Nat
 | 0, _ => none
 | _ + 1, [] => none
 | n + 1, c :: r => if c.toNat = 0 then some 0 else (zposF n (r.drop c.toNat)).map (· + (c.toNat + 1))
theorem zUj : ∀ (n m : Nat) (l : Bs), l.length < n -> l.length < m -> zposF n l = zposF m l
 | n + 1, m + 1, [], _, _ => rfl
 | n + 1, m + 1, c :: r, h1, h2 => by
  simp only [zposF]
  rw [zUj n m (r.drop c.toNat) (by simp at h1 ⊢; omega) (by simp at h2 ⊢; omega)]
def zpos (l : Bs) : Option Nat := zposF (l.length + 1) l
theorem zpos_nil : zpos [] = none := rfl
theorem zHm (c : UInt8) (r : Bs) : zpos (c :: r) = if c.toNat = 0 then some 0 else (zpos (r.drop c.toNat)).map (· + (c.toNat + 1)) := by
 unfold zpos
 simp only [zposF, aC]
 rw [zUj (r.length + 1) ((r.drop c.toNat).length + 1) _ (by simp; omega) (by omega)]
theorem zpos_at (l : Bs) (i : Nat) (h : i < l.length) : zpos (l.drop i) = if l[i].toNat = 0 then some 0 else (zpos (l.drop (i + 1 + l[i].toNat))).map (· + (l[i].toNat + 1)) := by
 rw [bD h, zHm, List.drop_drop]
theorem zSm : ∀ (n : Nat) (l : Bs) (k : Nat), l.length <= n -> zpos l = some k -> k < l.length
 | 0, l, k, hn, h => by
  have : l = [] := List.length_eq_zero_iff.1 (by omega)
  subst this; cases h
 | n + 1, [], k, _, h => by cases h
 | n + 1, c :: r, k, hn, h => by
  rw [zHm] at h
  split at h
  ·cases h; simp
  obtain ⟨j, hj, rfl⟩ := Option.map_eq_some_iff.1 h
  have := zSm n (r.drop c.toNat) j (by simp at hn ⊢; omega) hj
  simp at this ⊢; omega
theorem zLo {l : Bs} (h : (labels l).2 = 0) : l.length <= 255 := by
 unfold labels at h
 split at h
 ·cases h
 split at h
 ·cases h
 omega
def front (l : Bs) : Option Nat := match zpos l with | some k => if (labels (l.take (k + 1))).2 = 0 then some (k + 1) else none | none => none
def unfitV : Value := .iface 148 (.agg #[])
noncomputable def tbD3 : Tb Try.prog 0 := tbOf mixed [ct_check]
theorem first_fn (s : ByteArray) (hs : (bs s).length <= 1000000000) : ∃ r, FnS Try.prog 0 108 [.string s] .e 0 r /\ ∃ H m wr, (∃ k, front (bs s) = some k /\ r = .ret (.string (subS s 0 k)) H m wr) \/ (front (bs s) = none /\ r = .pan [(unfitV, false)] H m wr) := by
 refine zAu mixed tbD3 [] Try.func108 (c := bodyOf Try.f108) (by kernel_rfl) ?_
 refine zMz (fun i f => ⟨slots 6 [(0, .string s), (3, .int .i64 (i : Nat))] f, heap 0 [], 0, [], []⟩) (fun i => (bs s).length + 300 - i) (fun i => i <= (bs s).length + 256 /\ zpos (bs s) = (zpos ((bs s).drop i)).map (· + i)) 0 ⟨aH _, by simp⟩
  (zAy [] rfl rfl rfl (fun l e => by cases e) List.nodup_nil (fun x hx => by cases hx) rfl rfl (fun k hk _ => hk) ⟨⟨_, rfl, .string _⟩, (sI rfl), tv⟩ trivial .nil) ?_
 rintro i f ⟨hi, heq⟩
 refine zAs tbD3 [] 0 _ none mixed _ _ _ ?_
 refine ifK (fun h1 => ?_) (fun h1 => ?_)
 ·have h1 : i < (bs s).length := by have := oT h1; rw [zAm] at this; omega
  have hb := zQh (bs s)[i]
  have hat := zQe s i h1
  have hstep := zpos_at (bs s) i h1
  refine ifK (fun h2 => ?_) (fun h2 => ?_)
  ·have h2 := oT h2
   refine aI (by simp only [inI, zAm]; simp; omega) ?_
   refine ifK (fun h3 => ?_) (fun h3 => ?_)
   ·have h3 : (bs s)[i].toNat = 0 := by rw [hat] at h3; simpa using h3
    rw [if_pos h3] at hstep
    rw [hstep] at heq
    have hz : zpos (bs s) = some i := by rw [heq]; simp
    have e1 : IntKind.i64.wrap ((i : Int) + 1) = ((i + 1 : Nat) : Int) := by rw [wrapN (by omega) (by omega)]; omega
    have e2 : (IntKind.i64.wrap ((i : Int) + 1)).toNat = i + 1 := by rw [e1]; rfl
    refine aI (by rw [e1]; simp only [inLH, zAm]; simp; omega) ?_
    have hsub : bs (subS s (Int.toNat 0) (IntKind.i64.wrap ((i : Int) + 1)).toNat) = (bs s).take (i + 1) := by rw [zSt, e2]; simp
    refine aI (by unfold shortB; rw [zAm, hsub]; simp; omega) ?_
    refine ifK (fun h4 => ?_) (fun h4 => ?_)
    ·have h4 : (labels ((bs s).take (i + 1))).2 = 0 := by rw [hsub] at h4; simpa using h4
     have hf : front (bs s) = some (i + 1) := by unfold front; rw [hz]; simp [h4]
     exact ⟨_, _, _, .inl ⟨i + 1, hf, by rw [<- e2]; rfl⟩⟩
    have h4 : ¬ (labels ((bs s).take (i + 1))).2 = 0 := by rw [hsub] at h4; simpa using h4
    have hf : front (bs s) = none := by unfold front; rw [hz]; simp [h4]
    exact ⟨_, _, _, .inr ⟨hf, rfl⟩⟩
   have h3 : (bs s)[i].toNat ≠ 0 := by rw [hat] at h3; simpa using h3
   rw [if_neg h3] at hstep
   have e1 : IntKind.i64.wrap ((i : Int) + IntKind.i64.wrap (1 + IntKind.i64.wrap ((atS s (i : Int)).toNat : Int))) = ((i + 1 + (bs s)[i].toNat : Nat) : Int) := by
    rw [hat, wrapN (x := (((bs s)[i]).toNat : Int)) (by omega) (by omega), wrapN (x := 1 + (((bs s)[i]).toNat : Int)) (by omega) (by omega), wrapN (by omega) (by omega)]; omega
   refine aI (by simp only [inI, zAm]; simp; omega) ?_
   refine ⟨i + 1 + (bs s)[i].toNat, ⟨by omega, ?_⟩, by omega, zAy [] rfl rfl rfl (fun l e => by cases e) List.nodup_nil (fun x hx => by cases hx) rfl rfl (fun k hk _ => hk) ⟨⟨_, rfl, .string _⟩, zAd rfl e1, tv⟩ trivial .nil⟩
   rw [heq, hstep, Option.map_map]
   congr 1
   funext j; simp; omega
  have h2 : ¬ i < 255 := by have := oF h2; omega
  have hf : front (bs s) = none := by
   unfold front
   rw [heq]
   cases hz : zpos ((bs s).drop i) with
   | none => rfl
   | some j =>
    simp only [Option.map_some]
    rw [if_neg]
    intro hl
    have h5 := zLo hl
    have h6 := zSm _ _ _ (aJ _) hz
    simp at h5 h6; omega
  exact ⟨_, _, _, .inr ⟨hf, rfl⟩⟩
 have h1 : ¬ i < (bs s).length := by have := oF h1; rw [zAm] at this; omega
 have hf : front (bs s) = none := by
  unfold front
  rw [heq, bE (by omega), zpos_nil]; rfl
 exact ⟨_, _, _, .inr ⟨hf, rfl⟩⟩
end
section
open Go Go.RowKit
def Ct.strF (f : FuncId) (out : ByteArray -> Value) (hp : ∀ s, plainV 8 (out s) = true) (ok : ∀ s, (bs s).length <= 1000000000 -> ∃ H m wr, FnS Try.prog 0 f [.string s] .e 0 (.ret (out s) H m wr)) : Ct Try.prog 0 where
 f := f
 res l H n := match l with | [.string s] => bif shortB s then .ret (out s) H n [] else .bad "long" [] | _ => .bad "arguments" []
 ok l H n := by
  split
  ·rename_i s
   cases hs : shortB s with
   | false => trivial
   | true => obtain ⟨_, _, _, h⟩ := ok s (zFb hs); exact zCt h rfl (hp s) H n
  trivial
 ck l H n K := match l with | [.string s] => shortB s = true /\ K (.ret (out s) H n []) | _ => False
 imp l H n K h := by
  split at h
  ·obtain ⟨h1, h2⟩ := h
   simp only [h1, cT]; exact h2
  exact h.elim
def zMo : Ct Try.prog 0 := Ct.strF 107 (fun s => .bool (texts (bs s))) (fun _ => rfl) (fun s hs => by
 obtain ⟨r, h, H, m, wr, rfl⟩ := texts_fn s hs
 exact ⟨H, m, wr, h⟩)
def frontN (l : Bs) : Nat := (front l).getD 0
def zMm : Ct Try.prog 0 where
 f := 108
 res l H n := match l with | [.string s] => bif shortB s then (bif (front (bs s)).isSome then .ret (.string (subS s 0 (frontN (bs s)))) H n [] else .pan [(unfitV, false)] H n []) else .bad "long" [] | _ => .bad "arguments" []
 ok l H n := by
  split
  ·rename_i s
   cases hs : shortB s with
   | false => trivial
   | true =>
    obtain ⟨r, h, H', m, wr, ⟨k, hf, rfl⟩ | ⟨hf, rfl⟩⟩ := first_fn s (zFb hs)
    ·simp only [hf, Option.isSome_some, cT]
     have : frontN (bs s) = k := by simp [frontN, hf]
     rw [this]
     exact zCt h rfl rfl H n
    simp only [hf, Option.isSome_none, cT, cF]
    exact zKv h rfl rfl H n
  trivial
 ck l H n K := match l with | [.string s] => shortB s = true /\ brK (front (bs s)).isSome (K (.ret (.string (subS s 0 (frontN (bs s)))) H n [])) (K (.pan [(unfitV, false)] H n [])) | _ => False
 imp l H n K h := by
  split at h
  ·rename_i s
   obtain ⟨h1, h2⟩ := h
   simp only [h1, cT]
   cases hf : (front (bs s)).isSome with
   | true => rw [hf] at h2; exact h2
   | false => rw [hf] at h2; exact h2
  exact h.elim
end
section
open Go Go.RowKit
inductive Pt where
 | nm
 | rest
 | sz (k : Nat)
def Pt.cell : Pt -> List Value
 | .nm => part 0 true false
 | .rest => part 0 false true
 | .sz k => part k false false
def Pt.isName : Pt -> Bool
 | .nm => true
 | _ => false
theorem Pt.cell_len (p : Pt) : p.cell.length = 3 := by cases p <;> rfl
theorem Pt.cell_plain (p : Pt) : plainL p.cell = true := by cases p <;> rfl
def pc (p : Bs × Bool) : List Value := [str p.1, .bool p.2]
theorem zLr (p : Bs × Bool) : (pc p).length = 2 := rfl
theorem zDm (p : Bs × Bool) : plainL (pc p) = true := rfl
def Pt.cut (p : Pt) (l : Bs) : Option Nat :=
 match p with
 | .nm => front l
 | .rest => if texts l then some l.length else none
 | .sz k => if k <= l.length then some k else none
def cuts : List Pt -> Bs -> Option (List (Bs × Bool) × Bs)
 | [], l => some ([], l)
 | p :: ps, l => match p.cut l with
  | none => none
  | some n => (cuts ps (l.drop n)).map fun x => ((l.take n, p.isName) :: x.1, x.2)
theorem zMx {l : Bs} {k : Nat} (h : front l = some k) : k <= l.length := by
 unfold front at h
 split at h
 ·rename_i j hj
  have := zSm _ _ _ (aJ _) hj
  split at h
  ·cases h; omega
  cases h
 cases h
def spS (ps : List Pt) (x : Nat × List (Bs × Bool) × ByteArray) (f : Nat -> Option Value) : Fs :=
 match x with
 | (i, acc, s) =>
  match acc with
  | [] => ⟨slots 7 [(1, .string s), (4, .pointer (some ⟨0, 0, none⟩)), (5, .pointer (some ⟨1, 0, none⟩)), (22, .slice (some ⟨2, 0, none⟩) ps.length ps.length), (23, .int .i64 ps.length), (24, .int .i64 i)] f,
    heap 3 [(0, .cells [.slice none 0 0] 123), (1, .cells [.bool false] 4), (2, .cells (ps.flatMap Pt.cell) 144)], 3, [], [.call 106 [.pointer (some ⟨0, 0, none⟩), .pointer (some ⟨1, 0, none⟩)] []]⟩
  | a :: l => ⟨slots 7 [(1, .string s), (4, .pointer (some ⟨0, 0, none⟩)), (5, .pointer (some ⟨1, 0, none⟩)), (22, .slice (some ⟨2, 0, none⟩) ps.length ps.length), (23, .int .i64 ps.length), (24, .int .i64 i)] f,
    heap 3 [(0, .cells [.slice (some ⟨3, 0, none⟩) (l.length + 1) U] 123), (1, .cells [.bool false] 4), (2, .cells (ps.flatMap Pt.cell) 144), (3, .cells ((a :: l).flatMap pc) 127)], 4, [], [.call 106 [.pointer (some ⟨0, 0, none⟩), .pointer (some ⟨1, 0, none⟩)] []]⟩
end
section
open Go Go.RowKit
noncomputable def endS (tb : Tb Try.prog 0) (x : Ex) (s : Fs) : Res :=
 match modeOf x with
 | some u => (match evOut Try.prog tb.go s.df u s.H s.n s.wr with
  | .ok none H n wr => (match zAw Try.prog { s with H } Try.f91.results.toList with | some vs => .ret (tupleOf vs) H n wr | none => .bad "" [])
  | _ => .bad "" [])
 | none => .bad "" []
def hOf (r : Res) : Tr AObj := match r with | .ret _ H _ _ => H | _ => .e
def nOf (r : Res) : Nat := match r with | .ret _ _ n _ => n | _ => 0
def wOf (r : Res) : List Nat := match r with | .ret _ _ _ wr => wr | _ => []
noncomputable def sEnd0 (f2 : Nat -> Option Value) : Fs := ⟨slots 7 [(4, .pointer (some ⟨0, 0, none⟩)), (5, .pointer (some ⟨1, 0, none⟩))] f2, heap 2 [(0, .cells [.slice none 0 0] 123), (1, .cells [.bool false] 4)], 2, [], [.call 106 [.pointer (some ⟨0, 0, none⟩), .pointer (some ⟨1, 0, none⟩)] []]⟩
theorem zMq (tb : Tb Try.prog 0) (R : Res -> Prop) (f2 : Nat -> Option Value) : fnK tb Try.f91 R (.pan [(unfitV, false)]) (sEnd0 f2) = R (.ret (.tuple #[.slice none 0 0, .bool false]) (hOf (endS tb (.pan [(unfitV, false)]) (sEnd0 f2))) (nOf (endS tb (.pan [(unfitV, false)]) (sEnd0 f2))) (wOf (endS tb (.pan [(unfitV, false)]) (sEnd0 f2)))) := by kernel_rfl
noncomputable def sEnd1 (k : Nat) (f2 : Nat -> Option Value) : Fs := ⟨slots 7 [(4, .pointer (some ⟨0, 0, none⟩)), (5, .pointer (some ⟨1, 0, none⟩))] f2, heap 2 [(0, .cells [.slice (some ⟨2, 0, none⟩) (k + 1) U] 123), (1, .cells [.bool false] 4)], 3, [], [.call 106 [.pointer (some ⟨0, 0, none⟩), .pointer (some ⟨1, 0, none⟩)] []]⟩
theorem zMr (tb : Tb Try.prog 0) (R : Res -> Prop) (k : Nat) (f2 : Nat -> Option Value) : fnK tb Try.f91 R (.pan [(unfitV, false)]) (sEnd1 k f2) = R (.ret (.tuple #[.slice none 0 0, .bool false]) (hOf (endS tb (.pan [(unfitV, false)]) (sEnd1 k f2))) (nOf (endS tb (.pan [(unfitV, false)]) (sEnd1 k f2))) (wOf (endS tb (.pan [(unfitV, false)]) (sEnd1 k f2)))) := by kernel_rfl
noncomputable def sEnd2 (k : Nat) (b : Bool) (c : List Value) (f2 : Nat -> Option Value) : Fs := ⟨slots 7 [(4, .pointer (some ⟨0, 0, none⟩)), (5, .pointer (some ⟨1, 0, none⟩))] f2, heap 2 [(0, .cells [.slice (some ⟨2, 0, none⟩) (k + 1) U] 123), (1, .cells [.bool b] 4), (2, .cells c 127)], 3, [], [.call 106 [.pointer (some ⟨0, 0, none⟩), .pointer (some ⟨1, 0, none⟩)] []]⟩
theorem end_ret (tb : Tb Try.prog 0) (R : Res -> Prop) (k : Nat) (b : Bool) (c : List Value) (f2 : Nat -> Option Value) : fnK tb Try.f91 R .ret (sEnd2 k b c f2) = R (.ret (.tuple #[.slice (some ⟨2, 0, none⟩) (k + 1) U, .bool b]) (hOf (endS tb .ret (sEnd2 k b c f2))) (nOf (endS tb .ret (sEnd2 k b c f2))) (wOf (endS tb .ret (sEnd2 k b c f2)))) := by kernel_rfl
theorem zQp (tb : Tb Try.prog 0) (k : Nat) (b : Bool) (c : List Value) (f2 : Nat -> Option Value) : (hOf (endS tb .ret (sEnd2 k b c f2))).get 2 = some (.cells c 127) := by kernel_rfl
end
section
open Go Go.RowKit
def zFg (t : Int) (ps : List Pt) (h : ∀ H n, partsGo t H n partsTab = partsOut ps.length (ps.flatMap Pt.cell) H n) : Ct Try.prog 0 where
 f := 102
 res l H n := match l with | [.int .i64 t'] => bif t' == t then partsOut ps.length (ps.flatMap Pt.cell) H n else .bad "type" [] | _ => .bad "arguments" []
 ok l H n := by
  split
  ·rename_i t'
   cases hb : (t' == t) with
   | false => trivial
   | true =>
    have hb : t' = t := by simpa using hb
    subst hb
    have := zTt t' H n
    rw [h] at this
    exact this
  trivial
 ck l H n K := match l with | [.int .i64 t'] => (t' == t) = true /\ K (partsOut ps.length (ps.flatMap Pt.cell) H n) | _ => False
 imp l H n K h := by
  split at h
  ·obtain ⟨h1, h2⟩ := h
   simp only [h1, cT]; exact h2
  exact h.elim
theorem zFq (s : ByteArray) (x : Int) (k : Nat) (h : x = k) : Value.string (subS s (Int.toNat 0) x.toNat) = str ((bs s).take k) := by
 subst h
 show _ = Value.string ⟨((bs s).take k).toArray⟩
 congr 1
theorem zCk (s : ByteArray) (x : Int) (k : Nat) (h : x = k) : bs (subS s x.toNat ((s.data.size : Int)).toNat) = (bs s).drop k := by
 subst h
 rw [zSt, aO, aO, zAm, List.take_length]
theorem zOi (ps : List Pt) (i : Nat) (h : i < ps.length) (l : Bs) : cuts (ps.drop i) l = match ps[i].cut l with
  | none => none
  | some n => (cuts (ps.drop (i + 1)) (l.drop n)).map fun x => ((l.take n, ps[i].isName) :: x.1, x.2) := by
 rw [bD h]; rfl
theorem zUe (t : Int) (ps : List Pt) (hps : 0 < ps.length) (hps2 : ps.length < 1000) (ht : ∀ H n, partsGo t H n partsTab = partsOut ps.length (ps.flatMap Pt.cell) H n) (s0 : ByteArray) (hs0 : (bs s0).length <= 1000000000) :
  ∃ r, FnS Try.prog 0 91 [.int .i64 t, .string s0] .e 0 r /\ ∃ H m wr,
   (∃ out rest b, cuts ps (bs s0) = some (out, rest) /\ r = .ret (.tuple #[.slice (some ⟨b, 0, none⟩) out.length U, .bool rest.isEmpty]) H m wr /\ H.get b = some (.cells (out.flatMap pc) 127) /\ b < JJ) \/
   (cuts ps (bs s0) = none /\ r = .ret (.tuple #[.slice none 0 0, .bool false]) H m wr) := by
 refine fn_sxR mixed (tbOf mixed [zFg t ps ht, zMo, zMm]) [2, 3] Try.func91 (c := bodyOf Try.f91) (by kernel_rfl) ?_
 refine aI (by simp) ?_
 refine zMz (spS ps) (fun x => ps.length - x.1) (fun x => x.1 <= ps.length /\ (bs x.2.2).length <= 1000000000 /\ x.2.1.length = x.1 /\ cuts ps (bs s0) = (cuts (ps.drop x.1) (bs x.2.2)).map fun y => (x.2.1 ++ y.1, y.2)) (0, [], s0) ⟨aH _, hs0, rfl, by simp⟩
  (zAy [0, 1, 2] rfl rfl rfl (fun l e => by cases e) (by decide) (by decide) rfl rfl (fun k hk h => by omega) ⟨⟨_, rfl, .string _⟩, (sP rfl rfl), (sP rfl rfl), (sL rfl rfl), (sI rfl), (sI rfl), tv⟩
   ⟨bpo rfl, bpo rfl, bpo (zAf _ Pt.cell_plain ps), tv⟩ (.fn _ _ _ _ _ _ _ (.cons _ _ _ _ (.ptr _ _ _ rfl) (.cons _ _ _ _ (.ptr _ _ _ rfl) .nil)) .nil .nil)) ?_
 rintro ⟨i, acc, s⟩ f ⟨hi, hs, hacc, heq⟩
 have hi : i <= ps.length := hi
 have hs : (bs s).length <= 1000000000 := hs
 have hacc : acc.length = i := hacc
 have heq : cuts ps (bs s0) = (cuts (ps.drop i) (bs s)).map fun y => (acc ++ y.1, y.2) := heq
 have hsB : shortB s = true := by unfold shortB; rw [zAm]; exact bL hs
 have side : ∀ (h1 : i < ps.length), (0 + ((i : Nat) : Int).toNat * 3 + 3 <= (ps.flatMap Pt.cell).length /\ List.take 3 (List.drop (0 + ((i : Nat) : Int).toNat * 3) (ps.flatMap Pt.cell)) = ps[i].cell) := fun h1 => by
  have := zJs Pt.cell 3 Pt.cell_len ps i h1
  rw [aO, aS]; exact this
 cases acc with
 | nil =>
  refine zAs (tbOf mixed [zFg t ps ht, zMo, zMm]) [2] 0 _ none mixed _ _ _ ?_
  refine ifK (fun h1 => ?_) (fun h1 => ?_)
  ·have h1 : i < ps.length := by have := oT h1; omega
   have hst := zOi ps i h1 (bs s)
   have hsd := side h1
   refine ifK (fun _ => ?_) (fun h2 => ab h2 (by simp [inI]; omega))
   cases hp : ps[i] with
   | nm =>
    rw [hp] at hst hsd
    refine eI 0 (eI true (eI false (aI hsd ?_)))
    refine aI hsB ?_
    refine ifK (fun h3 => ?_) (fun h3 => ?_)
    ·obtain ⟨k, hk⟩ := Option.isSome_iff_exists.1 h3
     have hcut : Pt.nm.cut (bs s) = some k := hk
     have hkn : frontN (bs s) = k := by simp [frontN, hk]
     have hkl := zMx hk
     have hx : ((subS s 0 (frontN (bs s))).data.size : Int) = (k : Nat) := by rw [zAm, zSt, hkn]; simp; omega
     refine aI (by kernel_rfl) ?_
     refine aI (by rw [hx]; simp only [inLH, zAm, bA, dT] <;> omega) ?_
     refine aI (by rw [hx]; simp only [inLH, zAm, bA, dT] <;> omega) ?_
     refine ⟨(i + 1, [] ++ [((bs s).take (k), true)], subS s (((subS s 0 (frontN (bs s))).data.size : Int)).toNat ((s.data.size : Int)).toNat), ⟨h1, ?_, ?_, ?_⟩, ?_, ?_⟩
     ·show (bs (subS s _ _)).length <= _; rw [zCk s _ _ hx]; simp <;> omega
     ·simp only [aB, hacc]; rfl
     ·show cuts ps (bs s0) = (cuts (ps.drop (i + 1)) (bs (subS s _ _))).map _; rw [zCk s _ _ hx, heq, hst, hcut]; simp only [Option.map_map]; exact congrArg (fun g => Option.map g _) (funext fun y => by simp [Pt.isName])
     ·show ps.length - (i + 1) < ps.length - i; omega
     refine zAy [0, 1, 2, 5] rfl rfl rfl (fun l e => by cases e) (by decide) (by decide) rfl rfl (fun k hk h => by omega) ⟨⟨_, rfl, .string _⟩, (sP rfl rfl), (sP rfl rfl), (sL rfl rfl), (sI rfl), zAd rfl (by rw [wrapN (by omega) (by omega)]; omega), tv⟩ ⟨⟨by decide, _, rfl, ?_⟩, bpo rfl, bpo (zAf _ Pt.cell_plain ps), ⟨by decide, _, rfl, ?_⟩, tv⟩ (.fn _ _ _ _ _ _ _ (.cons _ _ _ _ (.ptr _ _ _ rfl) (.cons _ _ _ _ (.ptr _ _ _ rfl) .nil)) .nil .nil)
     ·exact zCv rfl
     refine zBm ?_ (zAf pc zDm _)
     show [Value.string (subS s (Int.toNat 0) (((subS s 0 (frontN (bs s))).data.size : Int)).toNat), .bool true] = _
     rw [zFq s _ _ hx]; rfl
    have hcut : Pt.nm.cut (bs s) = none := by have : (front (bs s)).isSome = false := h3; simpa [Pt.cut] using this
    have hn : cuts ps (bs s0) = none := by rw [heq, hst, hcut]; rfl
    refine aI rfl (zAk (zAy [0, 1] (d := 7) (d2 := 2) (lv := [(4, .pointer (some ⟨0, 0, none⟩)), (5, .pointer (some ⟨1, 0, none⟩))]) (bs := [(0, .cells [.slice none 0 0] 123), (1, .cells [.bool false] 4)]) (W := []) (m := 2) (df := [.call 106 [.pointer (some ⟨0, 0, none⟩), .pointer (some ⟨1, 0, none⟩)] []]) rfl rfl rfl (fun l e => by cases e) (by decide) (by decide) rfl rfl (fun k hk h => by omega) ⟨(sP rfl rfl), (sP rfl rfl), tv⟩ ⟨bpo rfl, bpo rfl, tv⟩ (.fn _ _ _ _ _ _ _ (.cons _ _ _ _ (.ptr _ _ _ rfl) (.cons _ _ _ _ (.ptr _ _ _ rfl) .nil)) .nil .nil)) (fun f2 => ?_))
    refine Eq.mpr (zMq _ _ f2) ?_
    exact eI _ (eI _ (eI _ (Or.inr (aI hn rfl))))
   | rest =>
    rw [hp] at hst hsd
    refine eI 0 (eI false (eI true (aI hsd ?_)))
    refine aI hsB ?_
    refine ifK (fun h3 => ?_) (fun h3 => ?_)
    ·have hcut : Pt.rest.cut (bs s) = some (bs s).length := by have h3 : texts (bs s) = true := h3; simp [Pt.cut, h3]
     have hx : (s.data.size : Int) = ((bs s).length : Nat) := by rw [zAm]
     refine aI (by kernel_rfl) ?_
     refine aI (by rw [hx]; simp only [inLH, zAm, bA, dT] <;> omega) ?_
     refine aI (by rw [hx]; simp only [inLH, zAm, bA, dT] <;> omega) ?_
     refine ⟨(i + 1, [] ++ [((bs s).take ((bs s).length), false)], subS s ((s.data.size : Int)).toNat ((s.data.size : Int)).toNat), ⟨h1, ?_, ?_, ?_⟩, ?_, ?_⟩
     ·show (bs (subS s _ _)).length <= _; rw [zCk s _ _ hx]; simp <;> omega
     ·simp only [aB, hacc]; rfl
     ·show cuts ps (bs s0) = (cuts (ps.drop (i + 1)) (bs (subS s _ _))).map _; rw [zCk s _ _ hx, heq, hst, hcut]; simp only [Option.map_map]; exact congrArg (fun g => Option.map g _) (funext fun y => by simp [Pt.isName])
     ·show ps.length - (i + 1) < ps.length - i; omega
     refine zAy [0, 1, 2, 5] rfl rfl rfl (fun l e => by cases e) (by decide) (by decide) rfl rfl (fun k hk h => by omega) ⟨⟨_, rfl, .string _⟩, (sP rfl rfl), (sP rfl rfl), (sL rfl rfl), (sI rfl), zAd rfl (by rw [wrapN (by omega) (by omega)]; omega), tv⟩ ⟨⟨by decide, _, rfl, ?_⟩, bpo rfl, bpo (zAf _ Pt.cell_plain ps), ⟨by decide, _, rfl, ?_⟩, tv⟩ (.fn _ _ _ _ _ _ _ (.cons _ _ _ _ (.ptr _ _ _ rfl) (.cons _ _ _ _ (.ptr _ _ _ rfl) .nil)) .nil .nil)
     ·exact zCv rfl
     refine zBm ?_ (zAf pc zDm _)
     show [Value.string (subS s (Int.toNat 0) ((s.data.size : Int)).toNat), .bool false] = _
     rw [zFq s _ _ hx]; rfl
    have hcut : Pt.rest.cut (bs s) = none := by have h3 : texts (bs s) = false := h3; simp [Pt.cut, h3]
    have hn : cuts ps (bs s0) = none := by rw [heq, hst, hcut]; rfl
    refine aI rfl (zAk (zAy [0, 1] (d := 7) (d2 := 2) (lv := [(4, .pointer (some ⟨0, 0, none⟩)), (5, .pointer (some ⟨1, 0, none⟩))]) (bs := [(0, .cells [.slice none 0 0] 123), (1, .cells [.bool false] 4)]) (W := []) (m := 2) (df := [.call 106 [.pointer (some ⟨0, 0, none⟩), .pointer (some ⟨1, 0, none⟩)] []]) rfl rfl rfl (fun l e => by cases e) (by decide) (by decide) rfl rfl (fun k hk h => by omega) ⟨(sP rfl rfl), (sP rfl rfl), tv⟩ ⟨bpo rfl, bpo rfl, tv⟩ (.fn _ _ _ _ _ _ _ (.cons _ _ _ _ (.ptr _ _ _ rfl) (.cons _ _ _ _ (.ptr _ _ _ rfl) .nil)) .nil .nil)) (fun f2 => ?_))
    refine Eq.mpr (zMq _ _ f2) ?_
    exact eI _ (eI _ (eI _ (Or.inr (aI hn rfl))))
   | sz k =>
    rw [hp] at hst hsd
    refine eI (k : Int) (eI false (eI false (aI hsd ?_)))
    refine ifK (fun h3 => ?_) (fun h3 => ?_)
    ·have h3 : ¬ k <= (bs s).length := by have := oT h3; rw [zAm] at this; omega
     have hcut : (Pt.sz k).cut (bs s) = none := by simp [Pt.cut, h3]
     have hn : cuts ps (bs s0) = none := by rw [heq, hst, hcut]; rfl
     refine aI rfl (zAk (zAy [0, 1] (d := 7) (d2 := 2) (lv := [(4, .pointer (some ⟨0, 0, none⟩)), (5, .pointer (some ⟨1, 0, none⟩))]) (bs := [(0, .cells [.slice none 0 0] 123), (1, .cells [.bool false] 4)]) (W := []) (m := 2) (df := [.call 106 [.pointer (some ⟨0, 0, none⟩), .pointer (some ⟨1, 0, none⟩)] []]) rfl rfl rfl (fun l e => by cases e) (by decide) (by decide) rfl rfl (fun k hk h => by omega) ⟨(sP rfl rfl), (sP rfl rfl), tv⟩ ⟨bpo rfl, bpo rfl, tv⟩ (.fn _ _ _ _ _ _ _ (.cons _ _ _ _ (.ptr _ _ _ rfl) (.cons _ _ _ _ (.ptr _ _ _ rfl) .nil)) .nil .nil)) (fun f2 => ?_))
     refine Eq.mpr (zMq _ _ f2) ?_
     exact eI _ (eI _ (eI _ (Or.inr (aI hn rfl))))
    have h3 : k <= (bs s).length := by have := oF h3; rw [zAm] at this; omega
    have hcut : (Pt.sz k).cut (bs s) = some k := by simp [Pt.cut, h3]
    have hx : (k : Int) = (k : Nat) := rfl
    refine aI (by kernel_rfl) ?_
    refine aI (by rw [hx]; simp only [inLH, zAm, bA, dT] <;> omega) ?_
    refine aI (by rw [hx]; simp only [inLH, zAm, bA, dT] <;> omega) ?_
    refine ⟨(i + 1, [] ++ [((bs s).take (k), false)], subS s ((k : Int)).toNat ((s.data.size : Int)).toNat), ⟨h1, ?_, ?_, ?_⟩, ?_, ?_⟩
    ·show (bs (subS s _ _)).length <= _; rw [zCk s _ _ hx]; simp <;> omega
    ·simp only [aB, hacc]; rfl
    ·show cuts ps (bs s0) = (cuts (ps.drop (i + 1)) (bs (subS s _ _))).map _; rw [zCk s _ _ hx, heq, hst, hcut]; simp only [Option.map_map]; exact congrArg (fun g => Option.map g _) (funext fun y => by simp [Pt.isName])
    ·show ps.length - (i + 1) < ps.length - i; omega
    refine zAy [0, 1, 2, 5] rfl rfl rfl (fun l e => by cases e) (by decide) (by decide) rfl rfl (fun k hk h => by omega) ⟨⟨_, rfl, .string _⟩, (sP rfl rfl), (sP rfl rfl), (sL rfl rfl), (sI rfl), zAd rfl (by rw [wrapN (by omega) (by omega)]; omega), tv⟩ ⟨⟨by decide, _, rfl, ?_⟩, bpo rfl, bpo (zAf _ Pt.cell_plain ps), ⟨by decide, _, rfl, ?_⟩, tv⟩ (.fn _ _ _ _ _ _ _ (.cons _ _ _ _ (.ptr _ _ _ rfl) (.cons _ _ _ _ (.ptr _ _ _ rfl) .nil)) .nil .nil)
    ·exact zCv rfl
    refine zBm ?_ (zAf pc zDm _)
    show [Value.string (subS s (Int.toNat 0) ((k : Int)).toNat), .bool false] = _
    rw [zFq s _ _ hx]; rfl
  have h1 : ¬ i < ps.length := by have := oF h1; omega
  exact ab hacc (by simp; omega)
 | cons a l =>
  refine zAs (tbOf mixed [zFg t ps ht, zMo, zMm]) [2, 3] 0 _ none mixed _ _ _ ?_
  refine ifK (fun h1 => ?_) (fun h1 => ?_)
  ·have h1 : i < ps.length := by have := oT h1; omega
   have hst := zOi ps i h1 (bs s)
   have hsd := side h1
   refine ifK (fun _ => ?_) (fun h2 => ab h2 (by simp [inI]; omega))
   cases hp : ps[i] with
   | nm =>
    rw [hp] at hst hsd
    refine eI 0 (eI true (eI false (aI hsd ?_)))
    refine aI hsB ?_
    refine ifK (fun h3 => ?_) (fun h3 => ?_)
    ·obtain ⟨k, hk⟩ := Option.isSome_iff_exists.1 h3
     have hcut : Pt.nm.cut (bs s) = some k := hk
     have hkn : frontN (bs s) = k := by simp [frontN, hk]
     have hkl := zMx hk
     have hx : ((subS s 0 (frontN (bs s))).data.size : Int) = (k : Nat) := by rw [zAm, zSt, hkn]; simp; omega
     refine aI (by kernel_rfl) ?_
     refine aI (by rw [hx]; simp only [inLH, zAm, bA, dT] <;> omega) ?_
     refine aI (by rw [zAc pc 2 zLr]; have hT : (Try.prog.types[127]).size = 2 := (by kernel_rfl); have hB : (Try.prog.types[127]).bytes = 24 := (by kernel_rfl); have hl : l.length + 1 = i := hacc; simp [oneL, Value.oneCell', hT, hB]; omega) ?_
     refine aI (by rw [hx]; simp only [inLH, zAm, bA, dT] <;> omega) ?_
     refine ⟨(i + 1, (a :: l) ++ [((bs s).take (k), true)], subS s (((subS s 0 (frontN (bs s))).data.size : Int)).toNat ((s.data.size : Int)).toNat), ⟨h1, ?_, ?_, ?_⟩, ?_, ?_⟩
     ·show (bs (subS s _ _)).length <= _; rw [zCk s _ _ hx]; simp <;> omega
     ·simp only [aB, hacc]; rfl
     ·show cuts ps (bs s0) = (cuts (ps.drop (i + 1)) (bs (subS s _ _))).map _; rw [zCk s _ _ hx, heq, hst, hcut]; simp only [Option.map_map]; exact congrArg (fun g => Option.map g _) (funext fun y => by simp [Pt.isName])
     ·show ps.length - (i + 1) < ps.length - i; omega
     refine zAy [0, 1, 2, 6] rfl rfl rfl (fun l e => by cases e) (by decide) (by decide) rfl rfl (fun k hk h => by omega) ⟨⟨_, rfl, .string _⟩, (sP rfl rfl), (sP rfl rfl), (sL rfl rfl), (sI rfl), zAd rfl (by rw [wrapN (by omega) (by omega)]; omega), tv⟩ ⟨⟨by decide, _, rfl, ?_⟩, bpo rfl, bpo (zAf _ Pt.cell_plain ps), ⟨by decide, _, rfl, ?_⟩, tv⟩ (.fn _ _ _ _ _ _ _ (.cons _ _ _ _ (.ptr _ _ _ rfl) (.cons _ _ _ _ (.ptr _ _ _ rfl) .nil)) .nil .nil)
     ·have : (l ++ [((bs s).take (k), true)]).length = l.length + 1 := by simp
      show RO _ _ _ (.cells [.slice _ ((l ++ [_]).length + 1) U] _)
      rw [this]
      exact zCv rfl
     refine zBm ?_ (zAf pc zDm _)
     show List.take ((l.length + 1) * 2) ((a :: l).flatMap pc) ++ [Value.string (subS s (Int.toNat 0) (((subS s 0 (frontN (bs s))).data.size : Int)).toNat), .bool true] = _
     rw [zFq s _ _ hx, aD (by rw [zAc pc 2 zLr]; simp)]
     show _ = ((a :: l) ++ [_]).flatMap pc
     rw [zJt]; rfl
    have hcut : Pt.nm.cut (bs s) = none := by have : (front (bs s)).isSome = false := h3; simpa [Pt.cut] using this
    have hn : cuts ps (bs s0) = none := by rw [heq, hst, hcut]; rfl
    refine aI rfl (zAk (zAy [0, 1, 3] (d := 7) (d2 := 2) (lv := [(4, .pointer (some ⟨0, 0, none⟩)), (5, .pointer (some ⟨1, 0, none⟩))]) (bs := [(0, .cells [.slice (some ⟨2, 0, none⟩) (l.length + 1) U] 123), (1, .cells [.bool false] 4)]) (W := []) (m := 3) (df := [.call 106 [.pointer (some ⟨0, 0, none⟩), .pointer (some ⟨1, 0, none⟩)] []]) rfl rfl rfl (fun l e => by cases e) (by decide) (by decide) rfl rfl (fun k hk h => by omega) ⟨(sP rfl rfl), (sP rfl rfl), tv⟩ ⟨⟨by decide, _, rfl, zCv rfl⟩, bpo rfl, tv⟩ (.fn _ _ _ _ _ _ _ (.cons _ _ _ _ (.ptr _ _ _ rfl) (.cons _ _ _ _ (.ptr _ _ _ rfl) .nil)) .nil .nil)) (fun f2 => ?_))
    refine Eq.mpr (zMr _ _ l.length f2) ?_
    exact eI _ (eI _ (eI _ (Or.inr (aI hn rfl))))
   | rest =>
    rw [hp] at hst hsd
    refine eI 0 (eI false (eI true (aI hsd ?_)))
    refine aI hsB ?_
    refine ifK (fun h3 => ?_) (fun h3 => ?_)
    ·have hcut : Pt.rest.cut (bs s) = some (bs s).length := by have h3 : texts (bs s) = true := h3; simp [Pt.cut, h3]
     have hx : (s.data.size : Int) = ((bs s).length : Nat) := by rw [zAm]
     refine aI (by kernel_rfl) ?_
     refine aI (by rw [hx]; simp only [inLH, zAm, bA, dT] <;> omega) ?_
     refine aI (by rw [zAc pc 2 zLr]; have hT : (Try.prog.types[127]).size = 2 := (by kernel_rfl); have hB : (Try.prog.types[127]).bytes = 24 := (by kernel_rfl); have hl : l.length + 1 = i := hacc; simp [oneL, Value.oneCell', hT, hB]; omega) ?_
     refine aI (by rw [hx]; simp only [inLH, zAm, bA, dT] <;> omega) ?_
     refine ⟨(i + 1, (a :: l) ++ [((bs s).take ((bs s).length), false)], subS s ((s.data.size : Int)).toNat ((s.data.size : Int)).toNat), ⟨h1, ?_, ?_, ?_⟩, ?_, ?_⟩
     ·show (bs (subS s _ _)).length <= _; rw [zCk s _ _ hx]; simp <;> omega
     ·simp only [aB, hacc]; rfl
     ·show cuts ps (bs s0) = (cuts (ps.drop (i + 1)) (bs (subS s _ _))).map _; rw [zCk s _ _ hx, heq, hst, hcut]; simp only [Option.map_map]; exact congrArg (fun g => Option.map g _) (funext fun y => by simp [Pt.isName])
     ·show ps.length - (i + 1) < ps.length - i; omega
     refine zAy [0, 1, 2, 6] rfl rfl rfl (fun l e => by cases e) (by decide) (by decide) rfl rfl (fun k hk h => by omega) ⟨⟨_, rfl, .string _⟩, (sP rfl rfl), (sP rfl rfl), (sL rfl rfl), (sI rfl), zAd rfl (by rw [wrapN (by omega) (by omega)]; omega), tv⟩ ⟨⟨by decide, _, rfl, ?_⟩, bpo rfl, bpo (zAf _ Pt.cell_plain ps), ⟨by decide, _, rfl, ?_⟩, tv⟩ (.fn _ _ _ _ _ _ _ (.cons _ _ _ _ (.ptr _ _ _ rfl) (.cons _ _ _ _ (.ptr _ _ _ rfl) .nil)) .nil .nil)
     ·have : (l ++ [((bs s).take ((bs s).length), false)]).length = l.length + 1 := by simp
      show RO _ _ _ (.cells [.slice _ ((l ++ [_]).length + 1) U] _)
      rw [this]
      exact zCv rfl
     refine zBm ?_ (zAf pc zDm _)
     show List.take ((l.length + 1) * 2) ((a :: l).flatMap pc) ++ [Value.string (subS s (Int.toNat 0) ((s.data.size : Int)).toNat), .bool false] = _
     rw [zFq s _ _ hx, aD (by rw [zAc pc 2 zLr]; simp)]
     show _ = ((a :: l) ++ [_]).flatMap pc
     rw [zJt]; rfl
    have hcut : Pt.rest.cut (bs s) = none := by have h3 : texts (bs s) = false := h3; simp [Pt.cut, h3]
    have hn : cuts ps (bs s0) = none := by rw [heq, hst, hcut]; rfl
    refine aI rfl (zAk (zAy [0, 1, 3] (d := 7) (d2 := 2) (lv := [(4, .pointer (some ⟨0, 0, none⟩)), (5, .pointer (some ⟨1, 0, none⟩))]) (bs := [(0, .cells [.slice (some ⟨2, 0, none⟩) (l.length + 1) U] 123), (1, .cells [.bool false] 4)]) (W := []) (m := 3) (df := [.call 106 [.pointer (some ⟨0, 0, none⟩), .pointer (some ⟨1, 0, none⟩)] []]) rfl rfl rfl (fun l e => by cases e) (by decide) (by decide) rfl rfl (fun k hk h => by omega) ⟨(sP rfl rfl), (sP rfl rfl), tv⟩ ⟨⟨by decide, _, rfl, zCv rfl⟩, bpo rfl, tv⟩ (.fn _ _ _ _ _ _ _ (.cons _ _ _ _ (.ptr _ _ _ rfl) (.cons _ _ _ _ (.ptr _ _ _ rfl) .nil)) .nil .nil)) (fun f2 => ?_))
    refine Eq.mpr (zMr _ _ l.length f2) ?_
    exact eI _ (eI _ (eI _ (Or.inr (aI hn rfl))))
   | sz k =>
    rw [hp] at hst hsd
    refine eI (k : Int) (eI false (eI false (aI hsd ?_)))
    refine ifK (fun h3 => ?_) (fun h3 => ?_)
    ·have h3 : ¬ k <= (bs s).length := by have := oT h3; rw [zAm] at this; omega
     have hcut : (Pt.sz k).cut (bs s) = none := by simp [Pt.cut, h3]
     have hn : cuts ps (bs s0) = none := by rw [heq, hst, hcut]; rfl
     refine aI rfl (zAk (zAy [0, 1, 3] (d := 7) (d2 := 2) (lv := [(4, .pointer (some ⟨0, 0, none⟩)), (5, .pointer (some ⟨1, 0, none⟩))]) (bs := [(0, .cells [.slice (some ⟨2, 0, none⟩) (l.length + 1) U] 123), (1, .cells [.bool false] 4)]) (W := []) (m := 3) (df := [.call 106 [.pointer (some ⟨0, 0, none⟩), .pointer (some ⟨1, 0, none⟩)] []]) rfl rfl rfl (fun l e => by cases e) (by decide) (by decide) rfl rfl (fun k hk h => by omega) ⟨(sP rfl rfl), (sP rfl rfl), tv⟩ ⟨⟨by decide, _, rfl, zCv rfl⟩, bpo rfl, tv⟩ (.fn _ _ _ _ _ _ _ (.cons _ _ _ _ (.ptr _ _ _ rfl) (.cons _ _ _ _ (.ptr _ _ _ rfl) .nil)) .nil .nil)) (fun f2 => ?_))
     refine Eq.mpr (zMr _ _ l.length f2) ?_
     exact eI _ (eI _ (eI _ (Or.inr (aI hn rfl))))
    have h3 : k <= (bs s).length := by have := oF h3; rw [zAm] at this; omega
    have hcut : (Pt.sz k).cut (bs s) = some k := by simp [Pt.cut, h3]
    have hx : (k : Int) = (k : Nat) := rfl
    refine aI (by kernel_rfl) ?_
    refine aI (by rw [hx]; simp only [inLH, zAm, bA, dT] <;> omega) ?_
    refine aI (by rw [zAc pc 2 zLr]; have hT : (Try.prog.types[127]).size = 2 := (by kernel_rfl); have hB : (Try.prog.types[127]).bytes = 24 := (by kernel_rfl); have hl : l.length + 1 = i := hacc; simp [oneL, Value.oneCell', hT, hB]; omega) ?_
    refine aI (by rw [hx]; simp only [inLH, zAm, bA, dT] <;> omega) ?_
    refine ⟨(i + 1, (a :: l) ++ [((bs s).take (k), false)], subS s ((k : Int)).toNat ((s.data.size : Int)).toNat), ⟨h1, ?_, ?_, ?_⟩, ?_, ?_⟩
    ·show (bs (subS s _ _)).length <= _; rw [zCk s _ _ hx]; simp <;> omega
    ·simp only [aB, hacc]; rfl
    ·show cuts ps (bs s0) = (cuts (ps.drop (i + 1)) (bs (subS s _ _))).map _; rw [zCk s _ _ hx, heq, hst, hcut]; simp only [Option.map_map]; exact congrArg (fun g => Option.map g _) (funext fun y => by simp [Pt.isName])
    ·show ps.length - (i + 1) < ps.length - i; omega
    refine zAy [0, 1, 2, 6] rfl rfl rfl (fun l e => by cases e) (by decide) (by decide) rfl rfl (fun k hk h => by omega) ⟨⟨_, rfl, .string _⟩, (sP rfl rfl), (sP rfl rfl), (sL rfl rfl), (sI rfl), zAd rfl (by rw [wrapN (by omega) (by omega)]; omega), tv⟩ ⟨⟨by decide, _, rfl, ?_⟩, bpo rfl, bpo (zAf _ Pt.cell_plain ps), ⟨by decide, _, rfl, ?_⟩, tv⟩ (.fn _ _ _ _ _ _ _ (.cons _ _ _ _ (.ptr _ _ _ rfl) (.cons _ _ _ _ (.ptr _ _ _ rfl) .nil)) .nil .nil)
    ·have : (l ++ [((bs s).take (k), false)]).length = l.length + 1 := by simp
     show RO _ _ _ (.cells [.slice _ ((l ++ [_]).length + 1) U] _)
     rw [this]
     exact zCv rfl
    refine zBm ?_ (zAf pc zDm _)
    show List.take ((l.length + 1) * 2) ((a :: l).flatMap pc) ++ [Value.string (subS s (Int.toNat 0) ((k : Int)).toNat), .bool false] = _
    rw [zFq s _ _ hx, aD (by rw [zAc pc 2 zLr]; simp)]
    show _ = ((a :: l) ++ [_]).flatMap pc
    rw [zJt]; rfl
  have h1 : ¬ i < ps.length := by have := oF h1; omega
  have hc : cuts ps (bs s0) = some (a :: l, bs s) := by rw [heq, bE (by omega)]; simp [cuts]
  refine aI rfl ?_
  refine (zAk (zAy [0, 1, 3] (d := 7) (d2 := 2) (lv := [(4, .pointer (some ⟨0, 0, none⟩)), (5, .pointer (some ⟨1, 0, none⟩))]) (bs := [(0, .cells [.slice (some ⟨2, 0, none⟩) (l.length + 1) U] 123), (1, .cells [.bool (s.data.toList == [])] 4), (2, .cells ((a :: l).flatMap pc) 127)]) (W := []) (m := 3) (df := [.call 106 [.pointer (some ⟨0, 0, none⟩), .pointer (some ⟨1, 0, none⟩)] []]) rfl rfl rfl (fun l e => by cases e) (by decide) (by decide) rfl rfl (fun k hk h => by omega) ⟨(sP rfl rfl), (sP rfl rfl), tv⟩ ⟨⟨by decide, _, rfl, zCv rfl⟩, bpo rfl, bpo (zAf pc zDm _), tv⟩ (.fn _ _ _ _ _ _ _ (.cons _ _ _ _ (.ptr _ _ _ rfl) (.cons _ _ _ _ (.ptr _ _ _ rfl) .nil)) .nil .nil)) (fun f2 => ?_))
  refine Eq.mpr (end_ret _ _ l.length (s.data.toList == []) ((a :: l).flatMap pc) f2) ?_
  have hem : (bs s).isEmpty = (s.data.toList == []) := by show _ = (bs s == []); cases bs s <;> rfl
  refine ⟨?zH, ?zm, ?zw, Or.inl ⟨a :: l, bs s, 2, hc, ?zg, ?zh, by decide⟩⟩
  case zg => rw [hem]; exact rfl
  case zh => exact zQp _ _ _ _ _
end
section
open Go Go.RowKit
def ct_rcheck : Ct Try.prog 0 := Ct.str1 55 (fun s => .int .i64 (labels (bs s)).2) (fun _ => rfl) (fun s w hs => by have := zPb (bs s) w hs; rwa [str_bs] at this)
end
section
open Go Go.RowKit
def ptsT (t : Int) : Option (List Pt) :=
 bif t == 1 then some [.sz 4] else bif t == 28 then some [.sz 16] else bif t == 2 then some [.nm] else bif t == 5 then some [.nm] else bif t == 12 then some [.nm] else bif t == 15 then some [.sz 2, .nm]
 else bif t == 6 then some [.nm, .nm, .sz 20] else bif t == 16 then some [.rest] else none
theorem zKc {t : Int} {ps : List Pt} (h : ptsT t = some ps) : 0 < ps.length /\ ps.length < 1000 /\ ∀ H n, partsGo t H n partsTab = partsOut ps.length (ps.flatMap Pt.cell) H n := by
 unfold ptsT at h
 unfold partsTab
 simp only [partsGo]
 cases h1 : (t == 1) with
 | true => rw [h1] at h; cases h; exact ⟨by decide, by decide, fun _ _ => rfl⟩
 | false =>
 cases h2 : (t == 28) with
 | true => rw [h1, h2] at h; cases h; exact ⟨by decide, by decide, fun _ _ => rfl⟩
 | false =>
 cases h3 : (t == 2) with
 | true => rw [h1, h2, h3] at h; cases h; exact ⟨by decide, by decide, fun _ _ => rfl⟩
 | false =>
 cases h4 : (t == 5) with
 | true => rw [h1, h2, h3, h4] at h; cases h; exact ⟨by decide, by decide, fun _ _ => rfl⟩
 | false =>
 cases h5 : (t == 12) with
 | true => rw [h1, h2, h3, h4, h5] at h; cases h; exact ⟨by decide, by decide, fun _ _ => rfl⟩
 | false =>
 cases h6 : (t == 15) with
 | true => rw [h1, h2, h3, h4, h5, h6] at h; cases h; exact ⟨by decide, by decide, fun _ _ => rfl⟩
 | false =>
 cases h7 : (t == 6) with
 | true => rw [h1, h2, h3, h4, h5, h6, h7] at h; cases h; exact ⟨by decide, by decide, fun _ _ => rfl⟩
 | false =>
 cases h8 : (t == 16) with
 | true => rw [h1, h2, h3, h4, h5, h6, h7, h8] at h; cases h; exact ⟨by decide, by decide, fun _ _ => rfl⟩
 | false => rw [h1, h2, h3, h4, h5, h6, h7, h8] at h; cases h
theorem zOz {t : Int} (h : ptsT t = none) : ∀ H n, partsGo t H n partsTab = .ret (.tuple #[.slice none 0 0, .bool false]) H n [] := by
 unfold ptsT at h
 unfold partsTab
 simp only [partsGo]
 cases h1 : (t == 1) with
 | true => rw [h1] at h; cases h
 | false =>
 cases h2 : (t == 28) with
 | true => rw [h1, h2] at h; cases h
 | false =>
 cases h3 : (t == 2) with
 | true => rw [h1, h2, h3] at h; cases h
 | false =>
 cases h4 : (t == 5) with
 | true => rw [h1, h2, h3, h4] at h; cases h
 | false =>
 cases h5 : (t == 12) with
 | true => rw [h1, h2, h3, h4, h5] at h; cases h
 | false =>
 cases h6 : (t == 15) with
 | true => rw [h1, h2, h3, h4, h5, h6] at h; cases h
 | false =>
 cases h7 : (t == 6) with
 | true => rw [h1, h2, h3, h4, h5, h6, h7] at h; cases h
 | false =>
 cases h8 : (t == 16) with
 | true => rw [h1, h2, h3, h4, h5, h6, h7, h8] at h; cases h
 | false => exact fun _ _ => rfl
def zLj (t : Int) (h : ∀ H n, partsGo t H n partsTab = .ret (.tuple #[.slice none 0 0, .bool false]) H n []) : Ct Try.prog 0 where
 f := 102
 res l H n := match l with | [.int .i64 t'] => bif t' == t then .ret (.tuple #[.slice none 0 0, .bool false]) H n [] else .bad "type" [] | _ => .bad "arguments" []
 ok l H n := by
  split
  ·rename_i t'
   cases hb : (t' == t) with
   | false => trivial
   | true =>
    have hb : t' = t := by simpa using hb
    subst hb
    have := zTt t' H n
    rw [h] at this
    exact this
  trivial
 ck l H n K := match l with | [.int .i64 t'] => (t' == t) = true /\ K (.ret (.tuple #[.slice none 0 0, .bool false]) H n []) | _ => False
 imp l H n K h := by
  split at h
  ·obtain ⟨h1, h2⟩ := h
   simp only [h1, cT]; exact h2
  exact h.elim
theorem zVt (t : Int) (ht : ∀ H n, partsGo t H n partsTab = .ret (.tuple #[.slice none 0 0, .bool false]) H n []) (s : ByteArray) :
  ∃ r, FnS Try.prog 0 91 [.int .i64 t, .string s] .e 0 r /\ ∃ H m wr b, r = .ret (.tuple #[.slice (some ⟨b, 0, none⟩) 1 1, .bool true]) H m wr /\ H.get b = some (.cells [.string s, .bool false] 127) /\ b < JJ := by
 refine zAu mixed (tbOf mixed [zLj t ht]) [] Try.func91 (c := bodyOf Try.f91) (by kernel_rfl) ?_
 refine aI (by simp) ?_
 exact ⟨_, _, _, _, rfl, rfl, by decide⟩
end
section
open Go Go.RowKit
def outT (t : Int) (l : Bs) : Option (List (Bs × Bool) × Bs) := match ptsT t with | some ps => cuts ps l | none => none
def outP (t : Int) (l : Bs) : List (Bs × Bool) := match outT t l with | some x => x.1 | none => []
def outR (t : Int) (l : Bs) : Bs := match outT t l with | some x => x.2 | none => []
theorem zOa (t : Int) (s : ByteArray) (hs : (bs s).length <= 1000000000) (H : Tr AObj) (n : Nat) :
  (ptsT t = none -> CallOK Try.prog 0 91 [.int .i64 t, .string s] H n (.ret (.tuple #[.slice (some ⟨n, 0, none⟩) 1 1, .bool true]) (H.set n (some (.cells [.string s, .bool false] 127))) (n + 1) [])) /\
  ((ptsT t).isSome = true -> (outT t (bs s)).isSome = true -> CallOK Try.prog 0 91 [.int .i64 t, .string s] H n (.ret (.tuple #[.slice (some ⟨n, 0, none⟩) (outP t (bs s)).length U, .bool (outR t (bs s)).isEmpty]) (H.set n (some (.cells ((outP t (bs s)).flatMap pc) 127))) (n + 1) [])) /\
  ((ptsT t).isSome = true -> (outT t (bs s)).isSome = false -> CallOK Try.prog 0 91 [.int .i64 t, .string s] H n (.ret (.tuple #[.slice none 0 0, .bool false]) H n [])) := by
 refine ⟨fun h => ?_, fun h1 h2 => ?_, fun h1 h2 => ?_⟩
 ·obtain ⟨r, hF, H', m, wr, b, rfl, hb, hJ⟩ := zVt t (zOz h) s
  exact zDb (fun n => .tuple #[.slice (some ⟨n, 0, none⟩) 1 1, .bool true]) hF rfl hb hJ rfl (fun n => .tuple _ _ (.cons _ _ _ _ (.sl _ _ _ _ _ (zKr _ _)) (.cons _ _ _ _ (.bool _) .nil))) H n
 ·obtain ⟨ps, hp⟩ := Option.isSome_iff_exists.1 h1
  obtain ⟨p1, p2, p3⟩ := zKc hp
  obtain ⟨⟨out, rest⟩, ho⟩ := Option.isSome_iff_exists.1 h2
  have hc : cuts ps (bs s) = some (out, rest) := by unfold outT at ho; rw [hp] at ho; exact ho
  have e1 : outP t (bs s) = out := by unfold outP; rw [ho]
  have e2 : outR t (bs s) = rest := by unfold outR; rw [ho]
  obtain ⟨r, hF, H', m, wr, ⟨out', rest', b, q1, rfl, q3, q4⟩ | ⟨q1, _⟩⟩ := zUe t ps p1 p2 p3 s hs
  ·rw [hc] at q1; cases q1
   rw [e1, e2]
   exact zDb (fun n => .tuple #[.slice (some ⟨n, 0, none⟩) out.length U, .bool rest.isEmpty]) hF rfl q3 q4 (zAf pc zDm _) (fun n => .tuple _ _ (.cons _ _ _ _ (.sl _ _ _ _ _ (zKr _ _)) (.cons _ _ _ _ (.bool _) .nil))) H n
  rw [hc] at q1; cases q1
 obtain ⟨ps, hp⟩ := Option.isSome_iff_exists.1 h1
 obtain ⟨p1, p2, p3⟩ := zKc hp
 have hc : cuts ps (bs s) = none := by unfold outT at h2; rw [hp] at h2; simpa using h2
 obtain ⟨r, hF, H', m, wr, ⟨out', rest', b, q1, _⟩ | ⟨_, rfl⟩⟩ := zUe t ps p1 p2 p3 s hs
 ·rw [hc] at q1; cases q1
 exact zCt hF rfl rfl H n
def ct_split : Ct Try.prog 0 where
 f := 91
 res l H n := match l with
  | [.int .i64 t, .string s] => bif shortB s then (bif (ptsT t).isSome then (bif (outT t (bs s)).isSome then .ret (.tuple #[.slice (some ⟨n, 0, none⟩) (outP t (bs s)).length U, .bool (outR t (bs s)).isEmpty]) (H.set n (some (.cells ((outP t (bs s)).flatMap pc) 127))) (n + 1) [] else .ret (.tuple #[.slice none 0 0, .bool false]) H n [])
    else .ret (.tuple #[.slice (some ⟨n, 0, none⟩) 1 1, .bool true]) (H.set n (some (.cells [.string s, .bool false] 127))) (n + 1) []) else .bad "long" []
  | _ => .bad "arguments" []
 ok l H n := by
  split
  ·rename_i t s
   cases hs : shortB s with
   | false => trivial
   | true =>
    obtain ⟨c1, c2, c3⟩ := zOa t s (zFb hs) H n
    cases h1 : (ptsT t).isSome with
    | false => exact c1 (by simpa using h1)
    | true =>
     cases h2 : (outT t (bs s)).isSome with
     | true => exact c2 h1 h2
     | false => exact c3 h1 h2
  trivial
 ck l H n K := match l with
  | [.int .i64 t, .string s] => shortB s = true /\ brK (ptsT t).isSome (brK (outT t (bs s)).isSome (K (.ret (.tuple #[.slice (some ⟨n, 0, none⟩) (outP t (bs s)).length U, .bool (outR t (bs s)).isEmpty]) (H.set n (some (.cells ((outP t (bs s)).flatMap pc) 127))) (n + 1) [])) (K (.ret (.tuple #[.slice none 0 0, .bool false]) H n [])))
    (K (.ret (.tuple #[.slice (some ⟨n, 0, none⟩) 1 1, .bool true]) (H.set n (some (.cells [.string s, .bool false] 127))) (n + 1) []))
  | _ => False
 imp l H n K h := by
  split at h
  ·rename_i t s
   obtain ⟨h0, h⟩ := h
   simp only [h0, cT]
   cases h1 : (ptsT t).isSome with
   | false => rw [h1] at h; exact h
   | true =>
    rw [h1] at h
    cases h2 : (outT t (bs s)).isSome with
    | true => rw [h2] at h; exact h
    | false => rw [h2] at h; exact h
  exact h.elim
def fitsD (t : Int) (l : Bs) : Bool := bif (ptsT t).isSome then (outT t l).isSome && (outR t l).isEmpty else true
def checkD (t : Int) (l : Bs) : Int := if t < 0 \/ 65535 < t then 5 else if 65535 < l.length then 3 else if fitsD t l then 0 else 4
noncomputable def tbE2 : Tb Try.prog 0 := tbOf mixed [ct_split]
theorem check_fn (t : Int) (s : ByteArray) (hs : (bs s).length <= 1000000000) : ∃ r, FnS Try.prog 0 80 [.int .i64 t, .string s] .e 0 r /\ ∃ H m wr, r = .ret (.int .i64 (checkD t (bs s))) H m wr := by
 have hsB : shortB s = true := by unfold shortB; rw [zAm]; exact bL hs
 refine zAu mixed tbE2 [] Try.func80 (c := bodyOf Try.f80) (by kernel_rfl) ?_
 unfold checkD fitsD
 refine ifK (fun h1 => ?_) (fun h1 => ?_)
 ·rw [if_pos (.inl (oT h1))]; exact ⟨_, _, _, rfl⟩
 have h1 := oF h1
 refine ifK (fun h2 => ?_) (fun h2 => ?_)
 ·rw [if_pos (.inr (oT h2))]; exact ⟨_, _, _, rfl⟩
 have h2 := oF h2
 rw [if_neg (by omega)]
 refine ifK (fun h3 => ?_) (fun h3 => ?_)
 ·have h3 := oT h3
  rw [zAm] at h3
  rw [if_pos (by omega)]; exact ⟨_, _, _, rfl⟩
 have h3 := oF h3
 rw [zAm] at h3
 rw [if_neg (by omega)]
 refine aI hsB ?_
 refine ifK (fun h4 => ?_) (fun h4 => ?_)
 ·rw [h4]
  refine ifK (fun h5 => ?_) (fun h5 => ?_)
  ·rw [h5]
   refine ifK (fun h6 => ?_) (fun h6 => ?_)
   ·rw [show (outR t (bs s)).isEmpty = false by simpa using h6]; exact ⟨_, _, _, rfl⟩
   rw [show (outR t (bs s)).isEmpty = true by simpa using h6]; exact ⟨_, _, _, rfl⟩
  rw [h5]; exact ⟨_, _, _, rfl⟩
 rw [h4]; exact ⟨_, _, _, rfl⟩
def Ct.intStr (f : FuncId) (out : Int -> ByteArray -> Value) (hp : ∀ t s, plainV 8 (out t s) = true) (ok : ∀ t s, (bs s).length <= 1000000000 -> ∃ H m wr, FnS Try.prog 0 f [.int .i64 t, .string s] .e 0 (.ret (out t s) H m wr)) : Ct Try.prog 0 where
 f := f
 res l H n := match l with | [.int .i64 t, .string s] => bif shortB s then .ret (out t s) H n [] else .bad "long" [] | _ => .bad "arguments" []
 ok l H n := by
  split
  ·rename_i t s
   cases hs : shortB s with
   | false => trivial
   | true => obtain ⟨_, _, _, h⟩ := ok t s (zFb hs); exact zCt h rfl (hp t s) H n
  trivial
 ck l H n K := match l with | [.int .i64 t, .string s] => shortB s = true /\ K (.ret (out t s) H n []) | _ => False
 imp l H n K h := by
  split at h
  ·obtain ⟨h1, h2⟩ := h
   simp only [h1, cT]; exact h2
  exact h.elim
def zUv : Ct Try.prog 0 := Ct.intStr 80 (fun t s => .int .i64 (checkD t (bs s))) (fun _ _ => rfl) (fun t s hs => by
 obtain ⟨r, h, H, m, wr, rfl⟩ := check_fn t s hs
 exact ⟨H, m, wr, h⟩)
end
section
open Go Go.RowKit
theorem zBl (s t : ByteArray) : bs (catS s t) = bs s ++ bs t := by simp [bs, catS]
theorem zEq (l : Bs) : bs ⟨l.toArray⟩ = l := by simp [bs]
theorem zBe {s t : ByteArray} (h : (bs s).length + (bs t).length <= 9000000000000000000) : catOk s t = true := by
 unfold catOk
 rw [zAm, zAm]; exact bL (by omega)
theorem zKm {s : ByteArray} (h : (bs s).length <= 1000000000) : shortB s = true := by unfold shortB; rw [zAm]; exact bL h
theorem str_mk (s : ByteArray) : Value.string s = str (bs s) := by simp [str, bs]
end
section
open Go Go.RowKit
theorem zUs {t : Int} {l : Bs} (h : checkD t l = 0) : 0 <= t /\ t <= 65535 /\ l.length <= 65535 /\ fitsD t l = true := by
 unfold checkD at h
 split at h
 ·cases h
 split at h
 ·cases h
 split at h
 ·rename_i h1 h2 h3
  exact ⟨by omega, by omega, by omega, h3⟩
 cases h
theorem zTb {t : Int} {ps : List Pt} {l : Bs} (hp : ptsT t = some ps) (h : fitsD t l = true) : ∃ o, cuts ps l = some (o, []) /\ outT t l = some (o, []) := by
 unfold fitsD at h
 rw [hp] at h
 simp only [Option.isSome_some, cT, bA] at h
 obtain ⟨⟨o, r⟩, ho⟩ := Option.isSome_iff_exists.1 h.1
 have hr : r = [] := by
  have := h.2
  unfold outR at this
  rw [ho] at this
  simpa using this
 subst hr
 refine ⟨o, ?_, ho⟩
 unfold outT at ho
 rw [hp] at ho; exact ho
end
section
open Go Go.RowKit
noncomputable def tbF1 : Tb Try.prog 0 := tbOf mixed [ct_rcheck]
def formL (t : Int) : List Int := if t = 1 then [4] else if t = 28 then [16] else if t = 2 then [-1] else if t = 5 then [-1] else if t = 12 then [-1] else if t = 15 then [2, -1] else if t = 6 then [-1, -1, 20] else if t = 16 then [-2] else [-3]
def intV (i : Int) : Value := .int .i64 i
theorem zBo (l : List Int) : plainL (l.map intV) = true := by simp [plainL, plainV, intV]
theorem form_fn (t : Int) : ∃ r, FnS Try.prog 0 95 [.int .i64 t] .e 0 r /\ ∃ H m wr, r = .ret (.slice (some ⟨0, 0, none⟩) (formL t).length (formL t).length) H m wr /\ H.get 0 = some (.cells ((formL t).map intV) 3) := by
 refine zAu mixed tbF1 [] Try.func95 (c := bodyOf Try.f95) (by kernel_rfl) ?_
 unfold formL
 refine ifK (fun h => ?_) (fun h => ?_)
 ·rw [if_pos (by simpa using h)]; exact ⟨_, _, _, rfl, rfl⟩
 rw [if_neg (by simpa using h)]
 refine ifK (fun h => ?_) (fun h => ?_)
 ·rw [if_pos (by simpa using h)]; exact ⟨_, _, _, rfl, rfl⟩
 rw [if_neg (by simpa using h)]
 refine ifK (fun h => ?_) (fun h => ?_)
 ·rw [if_pos (by simpa using h)]; exact ⟨_, _, _, rfl, rfl⟩
 rw [if_neg (by simpa using h)]
 refine ifK (fun h => ?_) (fun h => ?_)
 ·rw [if_pos (by simpa using h)]; exact ⟨_, _, _, rfl, rfl⟩
 rw [if_neg (by simpa using h)]
 refine ifK (fun h => ?_) (fun h => ?_)
 ·rw [if_pos (by simpa using h)]; exact ⟨_, _, _, rfl, rfl⟩
 rw [if_neg (by simpa using h)]
 refine ifK (fun h => ?_) (fun h => ?_)
 ·rw [if_pos (by simpa using h)]; exact ⟨_, _, _, rfl, rfl⟩
 rw [if_neg (by simpa using h)]
 refine ifK (fun h => ?_) (fun h => ?_)
 ·rw [if_pos (by simpa using h)]; exact ⟨_, _, _, rfl, rfl⟩
 rw [if_neg (by simpa using h)]
 refine ifK (fun h => ?_) (fun h => ?_)
 ·rw [if_pos (by simpa using h)]; exact ⟨_, _, _, rfl, rfl⟩
 rw [if_neg (by simpa using h)]
 exact ⟨_, _, _, rfl, rfl⟩
def formOut (t : Int) (H : Tr AObj) (n : Nat) : Res := .ret (.slice (some ⟨n, 0, none⟩) (formL t).length (formL t).length) (H.set n (some (.cells ((formL t).map intV) 3))) (n + 1) []
def ct_form : Ct Try.prog 0 where
 f := 95
 res l H n := match l with | [.int .i64 t] => formOut t H n | _ => .bad "arguments" []
 ok l H n := by
  split
  ·rename_i t
   obtain ⟨r, hF, H', m, wr, rfl, hb⟩ := form_fn t
   exact zDb (fun n => .slice (some ⟨n, 0, none⟩) (formL t).length (formL t).length) hF rfl hb (by decide) (zBo _) (fun n => .sl _ _ _ _ _ (zKr _ _)) H n
  trivial
 ck l H n K := match l with | [.int .i64 t] => K (formOut t H n) | _ => False
 imp l H n K h := by
  split at h
  ·exact h
  exact h.elim
theorem rtexts_fn (s : ByteArray) (hs : (bs s).length <= 1000000000) : ∃ r, FnS Try.prog 0 110 [.string s] .e 0 r /\ ∃ H m wr, r = .ret (.bool (texts (bs s))) H m wr := by
 refine zAu mixed tbF1 [] Try.func110 (c := bodyOf Try.f110) (by kernel_rfl) ?_
 refine zAv (fun i f => ⟨slots 6 [(0, .string s), (3, .int .i64 (i : Nat))] f, heap 0 [], 0, [], []⟩) (fun i => (bs s).length - i) (fun i => i <= (bs s).length + 256 /\ (i <= (bs s).length -> txt (bs s) = txt ((bs s).drop i)) /\ ((bs s).length < i -> txt (bs s) = false)) 0 ⟨by omega, fun _ => rfl, fun h => by omega⟩
  (rcq [] ⟨⟨_, rfl, .string _⟩, (sI rfl), tv⟩ trivial .nil) ?_
 rintro i f ⟨hi, h1, h2⟩
 refine zAs tbF1 [] 0 _ none mixed _ _ _ ?_
 refine ifK (fun h3 => ?_) (fun h3 => ?_)
 ·have h3 : i < (bs s).length := by have := oT h3; rw [zAm] at this; omega
  have hb := zQh (bs s)[i]
  have hat := zQe s i h3
  have e1 : IntKind.i64.wrap (IntKind.i64.wrap ((i : Int) + 1) + IntKind.i64.wrap ((atS s (i : Int)).toNat : Int)) = ((i + 1 + (bs s)[i].toNat : Nat) : Int) := by
   rw [hat, wrapN (x := (((bs s)[i]).toNat : Int)) (by omega) (by omega), wrapN (x := (i : Int) + 1) (by omega) (by omega), wrapN (by omega) (by omega)]; omega
  refine aI (by simp only [inI, zAm]; simp; omega) ?_
  have hstep := txt_at (bs s) i h3
  refine ⟨i + 1 + (bs s)[i].toNat, ⟨by omega, fun h4 => ?_, fun h4 => ?_⟩, by omega, rcq [] ⟨⟨_, rfl, .string _⟩, zAd rfl e1, tv⟩ trivial .nil⟩
  ·rw [h1 (by omega), hstep, aX (by omega), Bool.true_and]
  rw [h1 (by omega), hstep, aY (by omega), Bool.false_and]
 have h3 : ¬ i < (bs s).length := by have := oF h3; rw [zAm] at this; omega
 refine aI rfl (zAk (rcq [] (d := 6) (d2 := 0) (lv := [(0, .string s), (3, .int .i64 (i : Nat))]) (bs := []) (W := []) (m := 0) (df := []) ⟨⟨_, rfl, .string _⟩, (sI rfl), tv⟩ trivial .nil) (fun f => ?_))
 refine ifK (fun h4 => ?_) (fun h4 => ?_)
 ·have hne : (bs s).isEmpty = false := by
   have : (!(bs s == [])) = true := h4
   cases hb : bs s with
   | nil => rw [hb] at this; cases this
   | cons a l => rfl
  have : texts (bs s) = ((i : Int) == (s.data.size : Int)) := by
   unfold texts
   rw [hne, Bool.not_false, Bool.true_and, zAm]
   by_cases hie : i = (bs s).length
   ·rw [h1 (by omega), bE (by omega), txt_nil, hie]; simp
   rw [h2 (by omega)]; symm; simp; omega
  rw [this]; exact ⟨_, _, _, rfl⟩
 have : texts (bs s) = false := by
  have : (!(bs s == [])) = false := h4
  cases hb : bs s with
  | nil => rfl
  | cons a l => rw [hb] at this; cases this
 rw [this]; exact ⟨_, _, _, rfl⟩
def ct_rtexts : Ct Try.prog 0 := Ct.strF 110 (fun s => .bool (texts (bs s))) (fun _ => rfl) (fun s hs => by
 obtain ⟨r, h, H, m, wr, rfl⟩ := rtexts_fn s hs
 exact ⟨H, m, wr, h⟩)
end
section
open Go Go.RowKit
inductive Pr where
 | nm
 | rest
 | all
 | sz (k : Nat)
def Pr.i : Pr -> Int
 | .nm => -1
 | .rest => -2
 | .all => -3
 | .sz k => (k : Int)
end
section
open Go Go.RowKit
def prT (t : Int) : List Pr := if t = 1 then [.sz 4] else if t = 28 then [.sz 16] else if t = 2 then [.nm] else if t = 5 then [.nm] else if t = 12 then [.nm] else if t = 15 then [.sz 2, .nm] else if t = 6 then [.nm, .nm, .sz 20] else if t = 16 then [.rest] else [.all]
theorem prT_form (t : Int) : formL t = (prT t).map Pr.i /\ 0 < (prT t).length /\ (prT t).length < 1000 := by
 unfold formL prT
 split; · exact ⟨rfl, by decide, by decide⟩
 split; · exact ⟨rfl, by decide, by decide⟩
 split; · exact ⟨rfl, by decide, by decide⟩
 split; · exact ⟨rfl, by decide, by decide⟩
 split; · exact ⟨rfl, by decide, by decide⟩
 split; · exact ⟨rfl, by decide, by decide⟩
 split; · exact ⟨rfl, by decide, by decide⟩
 split; · exact ⟨rfl, by decide, by decide⟩
 exact ⟨rfl, by decide, by decide⟩
def Pt.pr : Pt -> Pr
 | .nm => .nm
 | .rest => .rest
 | .sz k => .sz k
theorem prT_none {t : Int} (h : ptsT t = none) : prT t = [.all] := by
 unfold ptsT at h
 unfold prT
 by_cases h1 : t = 1
 ·subst h1; cases h
 by_cases h2 : t = 28
 ·subst h2; cases h
 by_cases h3 : t = 2
 ·subst h3; cases h
 by_cases h4 : t = 5
 ·subst h4; cases h
 by_cases h5 : t = 12
 ·subst h5; cases h
 by_cases h6 : t = 15
 ·subst h6; cases h
 by_cases h7 : t = 6
 ·subst h7; cases h
 by_cases h8 : t = 16
 ·subst h8; cases h
 rw [if_neg h1, if_neg h2, if_neg h3, if_neg h4, if_neg h5, if_neg h6, if_neg h7, if_neg h8]
end
section
open Go Go.RowKit
theorem front_len {l : Bs} {k : Nat} (h : front l = some k) : k <= 255 := by
 have hle := zMx h
 unfold front at h
 split at h
 ·rename_i j hj
  split at h
  ·rename_i hl
   cases h
   have := zLo hl
   rw [aU] at this; omega
  cases h
 cases h
def Pt.small : Pt -> Bool
 | .nm => true
 | .rest => false
 | .sz k => k.ble 255
theorem zSx : ∀ (ps : List Pt) (l : Bs) (o : List (Bs × Bool)) (r : Bs), ps.all Pt.small = true -> cuts ps l = some (o, r) -> l.length <= 255 * ps.length + r.length
 | [], l, o, r, _, h => by simp only [cuts, aP, Prod.mk.injEq] at h; obtain ⟨_, rfl⟩ := h; omega
 | p :: ps, l, o, r, ha, h => by
  simp only [List.all_cons, bA] at ha
  simp only [cuts] at h
  cases hc : p.cut l with
  | none => rw [hc] at h; cases h
  | some n =>
   rw [hc] at h
   simp only [] at h
   obtain ⟨⟨o', r'⟩, h1, h2⟩ := Option.map_eq_some_iff.1 h
   simp only [Prod.mk.injEq] at h2
   obtain ⟨_, rfl⟩ := h2
   have ih := zSx ps _ _ _ ha.2 h1
   have hn : n <= 255 := by
    cases p with
    | nm => exact front_len hc
    | rest => cases ha.1
    | sz k =>
     simp only [Pt.cut] at hc
     split at hc <;> cases hc
     exact aE ha.1
   simp only [aC, aM] at ih ⊢
   omega
theorem fits_len {t : Int} {ps : List Pt} {l : Bs} (hp : ptsT t = some ps) (hs : ps.all Pt.small = true) (hl : ps.length <= 3) (h : fitsD t l = true) : l.length <= 765 := by
 obtain ⟨o, h1, _⟩ := zTb hp h
 have := zSx ps l o [] hs h1
 simp only [List.length_nil] at this
 omega
theorem zUq {t : Int} {ps : List Pt} {l : Bs} (hp : ptsT t = some ps) (hs : ps.all Pt.small = true) (hl : ps.length <= 3) (h0 : 0 <= t /\ t <= 65535) (h : fitsD t l = true) : checkD t l = 0 := by
 have := fits_len hp hs hl h
 unfold checkD
 rw [if_neg (by omega), if_neg (by omega), h]; rfl
end
section
open Go Go.RowKit
def zs (x : Int × Bs) : Value := str x.2
theorem ptsT_case {t : Int} {ps : List Pt} (h : ptsT t = some ps) : (0 <= t /\ t <= 65535) /\ ((ps.all Pt.small = true /\ ps.length <= 3) \/ ps = [.rest]) := by
 unfold ptsT at h
 by_cases h1 : t = 1
 ·subst h1; cases h; exact ⟨by decide, .inl ⟨rfl, by decide⟩⟩
 by_cases h2 : t = 28
 ·subst h2; cases h; exact ⟨by decide, .inl ⟨rfl, by decide⟩⟩
 by_cases h3 : t = 2
 ·subst h3; cases h; exact ⟨by decide, .inl ⟨rfl, by decide⟩⟩
 by_cases h4 : t = 5
 ·subst h4; cases h; exact ⟨by decide, .inl ⟨rfl, by decide⟩⟩
 by_cases h5 : t = 12
 ·subst h5; cases h; exact ⟨by decide, .inl ⟨rfl, by decide⟩⟩
 by_cases h6 : t = 15
 ·subst h6; cases h; exact ⟨by decide, .inl ⟨rfl, by decide⟩⟩
 by_cases h7 : t = 6
 ·subst h7; cases h; exact ⟨by decide, .inl ⟨rfl, by decide⟩⟩
 by_cases h8 : t = 16
 ·subst h8; cases h; exact ⟨by decide, .inr rfl⟩
 exfalso
 rw [show (t == 1) = false by simpa using h1, show (t == 28) = false by simpa using h2, show (t == 2) = false by simpa using h3, show (t == 5) = false by simpa using h4, show (t == 12) = false by simpa using h5, show (t == 15) = false by simpa using h6, show (t == 6) = false by simpa using h7, show (t == 16) = false by simpa using h8] at h
 cases h
end
section
open Go Go.RowKit
end
section
open Go Go.RowKit
structure RcX where
 n : ByteArray
 t : Int
 c : Int
 ttl : Int
 d : ByteArray
def RcX.v (x : RcX) : Value := .agg #[.string x.n, .int .i64 x.t, .int .i64 x.c, .int .i64 x.ttl, .string x.d]
end
section
open Go Go.RowKit
end
section
open Go Go.RowKit
def RcX.g (x : RcX) : List Value := [.string x.n, .int .i64 x.t, .int .i64 x.c, .int .i64 x.ttl, .string x.d]
def layR : Lay RcX where
 g := RcX.g
 k := 5
 t := 69
 len _ := rfl
 pos := by decide
 plain _ := rfl
 inj x y h := by
  obtain ⟨n, t, c, l, d⟩ := x
  obtain ⟨n', t', c', l', d'⟩ := y
  simp only [RcX.g, aQ, Value.string.injEq, Value.int.injEq, true_and, and_true] at h
  obtain ⟨rfl, rfl, rfl, rfl, rfl⟩ := h; rfl
end
section
open Go Go.RowKit
end
section
open Go Go.RowKit
deriving instance DecidableEq for RcX
structure QuX where
 n : ByteArray
 t : Int
 c : Int
 deriving DecidableEq
def QuX.v (x : QuX) : Value := .agg #[.string x.n, .int .i64 x.t, .int .i64 x.c]
def QuX.g (x : QuX) : List Value := [.string x.n, .int .i64 x.t, .int .i64 x.c]
def layQ : Lay QuX where
 g := QuX.g
 k := 3
 t := 57
 len _ := rfl
 pos := by decide
 plain _ := rfl
 inj x y h := by
  obtain ⟨n, t, c⟩ := x
  obtain ⟨n', t', c'⟩ := y
  simp only [QuX.g, aQ, Value.string.injEq, Value.int.injEq, true_and, and_true] at h
  obtain ⟨rfl, rfl, rfl⟩ := h; rfl
theorem struct_q : structOk Try.prog 57 = true := by kernel_rfl
theorem struct_r : structOk Try.prog 69 = true := by kernel_rfl
end
section
open Go Go.RowKit
noncomputable def tbTk : Tb Try.prog 0 := tbOf mixed []
abbrev trR (l : List RcX) : Value := treeV 5 l.length (l.flatMap layR.g)
abbrev trQ (l : List QuX) : Value := treeV 3 l.length (l.flatMap layQ.g)
theorem sameQ_tr (l1 l2 : List QuX) (hl : l1.length <= 9223372036854775807) : ∃ r, FnS Try.prog 0 32 [trQ l1, trQ l2] .e 0 r /\ ∃ H m wr, r = .ret (.bool (decide (l1 = l2))) H m wr := by
 refine zAu mixed tbTk [] Try.func32 (c := bodyOf Try.f32) (by kernel_rfl) ?_
 refine ifK (fun g => ?_) (fun g => ?_)
 ·have e : decide (l1 = l2) = false := aY (fun e => by subst e; simp at g)
  rw [e]; exact ⟨_, _, _, rfl⟩
 have hlen : l1.length = l2.length := by
  have hz : (l1.length : Int) = l2.length := by simpa using g
  omega
 refine zAv (fun (i : Nat) f => ⟨slots 6 [(0, trQ l1), (1, trQ l2), (5, .int .i64 (i : Nat))] f, heap 0 [], 0, [], []⟩) (fun i => l1.length - i) (fun i => i <= l1.length /\ l1.take i = l2.take i) 0 ⟨aH _, rfl⟩ (rcq [] ⟨⟨_, rfl, zAh 8 rfl⟩, ⟨_, rfl, zAh 8 rfl⟩, (sI rfl), tv⟩ trivial .nil) ?_
 rintro i f ⟨hi, heq⟩
 refine zAs tbTk [] 0 _ none mixed _ _ _ ?_
 refine ifK (fun h1 => ?_) (fun h1 => ?_)
 ·have h1 : i < l1.length := by have := oT h1; omega
  have h2 : i < l2.length := by omega
  refine aI (by kernel_rfl) ?_
  refine ifK (fun _ => ?_) (fun h2 => ab h2 (by simp [inI]; omega))
  refine eI l1[i].n (eI l1[i].t (eI l1[i].c (aI (zNs layQ h1) ?_)))
  refine ifK (fun _ => ?_) (fun h2 => ab h2 (by simp [inI]; omega))
  refine eI l2[i].n (eI l2[i].t (eI l2[i].c (aI (zNs layQ h2) ?_)))
  refine aI struct_q ?_
  refine ifK (fun h3 => ?_) (fun h3 => ?_)
  ·have e : decide (l1 = l2) = false := aY (fun e => by
    have he : l1[i] = l2[i] := zOr h1 h2 e
    rw [he] at h3; simp at h3)
   refine aI rfl (zAk (rcq [] (d := 6) (d2 := 0) (lv := [(4, .bool false)]) (bs := []) (W := []) (m := 0) (df := []) ⟨⟨_, rfl, zBh 8 rfl⟩, tv⟩ trivial .nil) (fun f => ?_))
   rw [e]; exact ⟨_, _, _, rfl⟩
  refine ⟨i + 1, ⟨h1, zPp h1 h2 heq ?_⟩, by omega, rcq [] ⟨⟨_, rfl, zAh 8 rfl⟩, ⟨_, rfl, zAh 8 rfl⟩, zAd rfl (by rw [wrapN (by omega) (by omega)]; omega), tv⟩ trivial .nil⟩
  simp only [Bool.not_eq_false', bA, beq_iff_eq, Bool.and_true] at h3
  obtain ⟨q0, q1, q2⟩ := h3
  cases hx : l1[i] with | mk x0 x1 x2 =>
  cases hy : l2[i] with | mk y0 y1 y2 =>
  rw [hx, hy] at q0 q1 q2
  simp only at q0 q1 q2
  rw [zSj q0, q1, q2]
 have h1 : ¬ i < l1.length := by have := oF h1; omega
 have e : decide (l1 = l2) = true := aX (by
  have := heq
  rwa [aD (by omega), aD (by omega)] at this)
 refine aI rfl (zAk (rcq [] (d := 6) (d2 := 0) (lv := []) (bs := []) (W := []) (m := 0) (df := []) trivial trivial .nil) (fun f => ?_))
 rw [e]; exact ⟨_, _, _, rfl⟩
theorem sameRs_tr (l1 l2 : List RcX) (hl : l1.length <= 9223372036854775807) : ∃ r, FnS Try.prog 0 58 [trR l1, trR l2] .e 0 r /\ ∃ H m wr, r = .ret (.bool (decide (l1 = l2))) H m wr := by
 refine zAu mixed tbTk [] Try.func58 (c := bodyOf Try.f58) (by kernel_rfl) ?_
 refine ifK (fun g => ?_) (fun g => ?_)
 ·have e : decide (l1 = l2) = false := aY (fun e => by subst e; simp at g)
  rw [e]; exact ⟨_, _, _, rfl⟩
 have hlen : l1.length = l2.length := by
  have hz : (l1.length : Int) = l2.length := by simpa using g
  omega
 refine zAv (fun (i : Nat) f => ⟨slots 6 [(0, trR l1), (1, trR l2), (5, .int .i64 (i : Nat))] f, heap 0 [], 0, [], []⟩) (fun i => l1.length - i) (fun i => i <= l1.length /\ l1.take i = l2.take i) 0 ⟨aH _, rfl⟩ (rcq [] ⟨⟨_, rfl, zAh 8 rfl⟩, ⟨_, rfl, zAh 8 rfl⟩, (sI rfl), tv⟩ trivial .nil) ?_
 rintro i f ⟨hi, heq⟩
 refine zAs tbTk [] 0 _ none mixed _ _ _ ?_
 refine ifK (fun h1 => ?_) (fun h1 => ?_)
 ·have h1 : i < l1.length := by have := oT h1; omega
  have h2 : i < l2.length := by omega
  refine aI (by kernel_rfl) ?_
  refine ifK (fun _ => ?_) (fun h2 => ab h2 (by simp [inI]; omega))
  refine eI l1[i].n (eI l1[i].t (eI l1[i].c (eI l1[i].ttl (eI l1[i].d (aI (zNs layR h1) ?_)))))
  refine ifK (fun _ => ?_) (fun h2 => ab h2 (by simp [inI]; omega))
  refine eI l2[i].n (eI l2[i].t (eI l2[i].c (eI l2[i].ttl (eI l2[i].d (aI (zNs layR h2) ?_)))))
  refine aI struct_r ?_
  refine ifK (fun h3 => ?_) (fun h3 => ?_)
  ·have e : decide (l1 = l2) = false := aY (fun e => by
    have he : l1[i] = l2[i] := zOr h1 h2 e
    rw [he] at h3; simp at h3)
   refine aI rfl (zAk (rcq [] (d := 6) (d2 := 0) (lv := [(4, .bool false)]) (bs := []) (W := []) (m := 0) (df := []) ⟨⟨_, rfl, zBh 8 rfl⟩, tv⟩ trivial .nil) (fun f => ?_))
   rw [e]; exact ⟨_, _, _, rfl⟩
  refine ⟨i + 1, ⟨h1, zPp h1 h2 heq ?_⟩, by omega, rcq [] ⟨⟨_, rfl, zAh 8 rfl⟩, ⟨_, rfl, zAh 8 rfl⟩, zAd rfl (by rw [wrapN (by omega) (by omega)]; omega), tv⟩ trivial .nil⟩
  simp only [Bool.not_eq_false', bA, beq_iff_eq, Bool.and_true] at h3
  obtain ⟨q0, q1, q2, q3, q4⟩ := h3
  cases hx : l1[i] with | mk x0 x1 x2 x3 x4 =>
  cases hy : l2[i] with | mk y0 y1 y2 y3 y4 =>
  rw [hx, hy] at q0 q1 q2 q3 q4
  simp only at q0 q1 q2 q3 q4
  rw [zSj q0, q1, q2, q3, zSj q4]
 have h1 : ¬ i < l1.length := by have := oF h1; omega
 have e : decide (l1 = l2) = true := aX (by
  have := heq
  rwa [aD (by omega), aD (by omega)] at this)
 refine aI rfl (zAk (rcq [] (d := 6) (d2 := 0) (lv := []) (bs := []) (W := []) (m := 0) (df := []) trivial trivial .nil) (fun f => ?_))
 rw [e]; exact ⟨_, _, _, rfl⟩
noncomputable def ct_sameQT : Ct Try.prog 0 := CtR.tree 32 (List QuX × List QuX) (fun x => [trQ x.1, trQ x.2]) (fun x => x.1.length <= 9223372036854775807) (fun x => .bool (decide (x.1 = x.2))) (fun a b h => by simp only [aQ, and_true] at h; exact Prod.ext (zDg layQ h.1) (zDg layQ h.2)) (fun _ => rfl)
 (fun x hl => by obtain ⟨r, hF, H, m, wr, rfl⟩ := sameQ_tr x.1 x.2 hl; exact ⟨_, _, _, _, hF, .one _ _ (.plain _ rfl)⟩)
noncomputable def zUy : Ct Try.prog 0 := CtR.tree 58 (List RcX × List RcX) (fun x => [trR x.1, trR x.2]) (fun x => x.1.length <= 9223372036854775807) (fun x => .bool (decide (x.1 = x.2))) (fun a b h => by simp only [aQ, and_true] at h; exact Prod.ext (zDg layR h.1) (zDg layR h.2)) (fun _ => rfl)
 (fun x hl => by obtain ⟨r, hF, H, m, wr, rfl⟩ := sameRs_tr x.1 x.2 hl; exact ⟨_, _, _, _, hF, .one _ _ (.plain _ rfl)⟩)
structure MsT where
 id : Int
 fl : Int
 q : List QuX
 an : List RcX
 ns : List RcX
 ar : List RcX
def MsT.v (m : MsT) : Value := .agg #[.int .i64 m.id, .int .i64 m.fl, trQ m.q, trR m.an, trR m.ns, trR m.ar]
def MsT.fit (m : MsT) (k : Nat) : Prop := m.q.length <= k /\ m.an.length <= k /\ m.ns.length <= k /\ m.ar.length <= k
end
section
open Go Go.RowKit
structure RR where
 s : Bl
 next : Int
 e : Int
 pos : Int
def rrV (r : RR) : Value := .tuple #[str r.s, .int .i64 r.next, .agg #[.int .i64 r.e, .int .i64 r.pos]]
theorem zPh (r : RR) : plainV 8 (rrV r) = true := rfl
def cB (B : Bl) (i : Nat) : Nat := (B.getD i 0).toNat
def toB (B : Bl) (i : Nat) : Nat := 256 * (cB B i - 192) + cB B (i + 1)
inductive Rd (B : Bl) (a : Nat) : Nat -> Nat -> Bl -> Int -> RR -> Prop
 | over {p i : Nat} {out : Bl} {bh : Int} (h : B.length <= i) : Rd B a p i out bh ⟨[], 0, 4, B.length⟩
 | zero {p i : Nat} {out : Bl} {bh : Int} (h : i < B.length) (hc : cB B i = 0) : Rd B a p i out bh ⟨out ++ [0], if bh < 0 then (i : Int) + 1 else bh, 0, 0⟩
 | pshort {p i : Nat} {out : Bl} {bh : Int} (h : i < B.length) (hc : 192 <= cB B i) (h2 : B.length < i + 2) : Rd B a p i out bh ⟨[], 0, 4, B.length⟩
 | ploop {p i : Nat} {out : Bl} {bh : Int} (h : i < B.length) (hc : 192 <= cB B i) (h2 : i + 2 <= B.length) (h3 : p <= toB B i) : Rd B a p i out bh ⟨[], 0, 150, i⟩
 | ptr {p i : Nat} {out : Bl} {bh : Int} {r : RR} (h : i < B.length) (hc : 192 <= cB B i) (h2 : i + 2 <= B.length) (h3 : toB B i < p) (hr : Rd B a (toB B i) (toB B i) out (if bh < 0 then (i : Int) + 2 else bh) r) : Rd B a p i out bh r
 | bad {p i : Nat} {out : Bl} {bh : Int} (h : i < B.length) (hc : 63 < cB B i) (hc2 : cB B i < 192) : Rd B a p i out bh ⟨[], 0, 4, i⟩
 | short {p i : Nat} {out : Bl} {bh : Int} (h : i < B.length) (hc : 0 < cB B i) (hc2 : cB B i <= 63) (h2 : B.length < i + (cB B i + 1)) : Rd B a p i out bh ⟨[], 0, 4, B.length⟩
 | long {p i : Nat} {out : Bl} {bh : Int} (h : i < B.length) (hc : 0 < cB B i) (hc2 : cB B i <= 63) (h2 : i + (cB B i + 1) <= B.length) (h3 : 254 < out.length + (cB B i + 1)) : Rd B a p i out bh ⟨[], 0, 3, a⟩
 | lab {p i : Nat} {out : Bl} {bh : Int} {r : RR} (h : i < B.length) (hc : 0 < cB B i) (hc2 : cB B i <= 63) (h2 : i + (cB B i + 1) <= B.length) (h3 : out.length + (cB B i + 1) <= 254) (hr : Rd B a p (i + (cB B i + 1)) (out ++ (B.drop i).take (cB B i + 1)) bh r) : Rd B a p i out bh r
theorem Rd.det {B : Bl} {a : Nat} {p i : Nat} {out : Bl} {bh : Int} {r r' : RR} (h : Rd B a p i out bh r) (k : Rd B a p i out bh r') : r = r' := by
 induction h generalizing r' with
 | ptr h hc h2 h3 hr ih => cases k <;> first | exact ih (by assumption) | (exfalso; omega)
 | lab h hc hc2 h2 h3 hr ih => cases k <;> first | exact ih (by assumption) | (exfalso; omega)
 | _ => cases k <;> first | rfl | (exfalso; omega)
def rdOk (B : Bl) (x : Int) (r : RR) : Prop := (x < 0 \/ (B.length : Int) < x) /\ r = ⟨[], 0, 5, 0⟩ \/ ∃ a : Nat, x = (a : Int) /\ a <= B.length /\ Rd B a a a [] (-1) r
theorem zAn {B : Bl} {x : Int} {r r' : RR} (h : rdOk B x r) (k : rdOk B x r') : r = r' := by
 rcases h with ⟨h1, rfl⟩ | ⟨a, rfl, h2, h3⟩ <;> rcases k with ⟨k1, rfl⟩ | ⟨b, k0, k2, k3⟩
 ·rfl
 ·omega
 ·omega
 have : a = b := by omega
 subst this
 exact h3.det k3
theorem cB_lt (B : Bl) (i : Nat) : cB B i < 256 := UInt8.toNat_lt _
theorem and_low (N : Nat) (h : N < 65536) : bitsI .and .i64 (N : Int) 16383 = ((N % 16384 : Nat) : Int) := by
 unfold bitsI
 simp only []
 have e : (BitVec.ofInt IntKind.i64.bits (N : Int) &&& BitVec.ofInt IntKind.i64.bits 16383).toNat = N % 16384 := by
  rw [BitVec.toNat_and, bvN _ (by omega), show (BitVec.ofInt IntKind.i64.bits 16383).toNat = 2 ^ 14 - 1 from rfl, Nat.and_two_pow_sub_one_eq_mod]
 rw [e, wrapM (by omega) (by omega)]
theorem two_eq (B : Bl) (i : Nat) (h : i + 2 <= B.length) (hc : 192 <= cB B i) : bitsI .and .i64 (beN ((B.drop i).take 2) : Int) 16383 = (toB B i : Int) := by
 have e : (B.drop i).take 2 = [B.getD i 0, B.getD (i + 1) 0] := by
  have g1 : B.getD i 0 = B[i]'(by omega) := by simp [List.getD_eq_getElem?_getD, gG (show i < B.length by omega)]
  have g2 : B.getD (i + 1) 0 = B[i + 1]'(by omega) := by simp [List.getD_eq_getElem?_getD, gG (show i + 1 < B.length by omega)]
  rw [g1, g2, bD (show i < B.length by omega), List.take_succ_cons, bD (show i + 1 < B.length by omega), List.take_succ_cons, List.take_zero]
 have h1 := cB_lt B i
 have h2 := cB_lt B (i + 1)
 have e2 : beN [B.getD i 0, B.getD (i + 1) 0] = 256 * cB B i + cB B (i + 1) := by
  show (0 * 256 + cB B i) * 256 + cB B (i + 1) = _; omega
 rw [e, e2, and_low _ (by omega)]
 unfold toB
 congr 1; omega
def wrS (o n c : Nat) (l : Bl) (a : Nat) (x : Nat × Nat × Bl × Int) (f : Nat -> Option Value) : Fs :=
 match x with
 | (p, i, out, bh) =>
  match out with
  | [] => ⟨slots 7 [(0, .slice (some ⟨0, o, none⟩) n c), (1, .int .i64 a), (6, .pointer (some ⟨1, 0, none⟩)), (7, .slice none 0 0), (8, .int .i64 p), (9, .int .i64 i), (10, .int .i64 bh)] f,
    heap 2 [(0, .win (l.map byV) 1), (1, .cells [.int .i64 0, .int .i64 0] 48)], 2, [], []⟩
  | u :: us => ⟨slots 7 [(0, .slice (some ⟨0, o, none⟩) n c), (1, .int .i64 a), (6, .pointer (some ⟨1, 0, none⟩)), (7, .slice (some ⟨2, 0, none⟩) (us.length + 1) U), (8, .int .i64 p), (9, .int .i64 i), (10, .int .i64 bh)] f,
    heap 3 [(0, .win (l.map byV) 1), (1, .cells [.int .i64 0, .int .i64 0] 48), (2, .cells ((u :: us).map byV) 5)], 3, [], []⟩
def muR (n : Nat) (x : Nat × Nat × Bl × Int) : Nat := x.1 * (n + 2) + (n + 1 - x.2.1)
end
section
open Go Go.RowKit
theorem lenB {l : Bl} {o n : Nat} (h : o + n <= l.length) : ((l.drop o).take n).length = n := by rw [aU, aM]; omega
theorem cellB {l : Bl} {o n i : Nat} (h : o + n <= l.length) (hi : i < n) : (l.map byV)[o + i * 1]? = some (.int .u8 (cB ((l.drop o).take n) i : Int)) := by
 have h1 : o + i < l.length := by omega
 have e : ((l.drop o).take n).getD i 0 = l[o + i] := by
  rw [List.getD_eq_getElem?_getD, List.getElem?_take_of_lt hi, List.getElem?_drop, gG h1]; rfl
 unfold cB
 rw [e, aR]
 simp [gG h1, byV]
theorem takeB {l : Bl} {o n i k : Nat} (hi : i + k <= n) : (l.drop (o + i)).take k = ((((l.drop o).take n)).drop i).take k := by
 rw [List.drop_take, List.take_take, List.drop_drop, Nat.min_eq_left (by omega)]
noncomputable def tbW3 : Tb Try.prog 0 := tbOf mixed [ct_bytes, zSv]
def wrP (B : Bl) (x : Int) (r : Res) : Prop := ∃ res, rdOk B x res /\ ∃ H m wr, r = .ret (rrV res) H m wr /\ ∀ k ∈ wr, 1 <= k
theorem read_loop (l : Bl) (o n c a : Nat) (h : o + n <= l.length) (hn : n <= 1000000000) (hcap : c = U \/ n <= c /\ c <= 9223372036854775807) (ha : a <= n) {s0 : Fs} {K : Ex -> Fs -> Prop}
  (h0 : ∃ f, RcM Try.prog 0 1 (2 + (Try.f99.ntmps - 2)) none s0 (wrS o n c l a (a, a, [], -1) f))
  (hret : ∀ e pos f, Rd ((l.drop o).take n) a a a [] (-1) ⟨[], 0, e, pos⟩ -> K .ret ⟨slots 7 [(4, .string ⟨#[]⟩), (5, .int .i64 0), (6, .pointer (some ⟨1, 0, none⟩))] f, heap 2 [(1, .cells [.int .i64 e, .int .i64 pos] 48)], 2, [], []⟩)
  (hex0 : ∀ bh f, Rd ((l.drop o).take n) a a a [] (-1) ⟨[0], bh, 0, 0⟩ -> K (.exit 0) ⟨slots 7 [(6, .pointer (some ⟨1, 0, none⟩)), (7, .slice none 0 0), (10, .int .i64 bh)] f, heap 2 [(1, .cells [.int .i64 0, .int .i64 0] 48)], 2, [], []⟩)
  (hex1 : ∀ u us bh f, (u :: us).length <= 254 -> Rd ((l.drop o).take n) a a a [] (-1) ⟨(u :: us) ++ [0], bh, 0, 0⟩ -> K (.exit 0) ⟨slots 7 [(6, .pointer (some ⟨1, 0, none⟩)), (7, .slice (some ⟨2, 0, none⟩) (us.length + 1) U), (10, .int .i64 bh)] f, heap 3 [(1, .cells [.int .i64 0, .int .i64 0] 48), (2, .cells ((u :: us).map byV) 5)], 3, [], []⟩) :
  LW Try.prog 0 1 (2 + (Try.f99.ntmps - 2)) none (loopAt Try.f99 0) s0 K := by
 obtain ⟨B, hB⟩ : ∃ B, B = (l.drop o).take n := ⟨_, rfl⟩
 have hlB : B.length = n := by rw [hB]; exact lenB h
 have hcell : ∀ i, i < n -> (l.map byV)[o + i * 1]? = some (.int .u8 (cB B i : Int)) := fun i hi => by rw [hB]; exact cellB h hi
 have htake : ∀ i k, i + k <= n -> (l.drop (o + i)).take k = (B.drop i).take k := fun i k hik => by rw [hB]; exact takeB hik
 rw [<- hB] at hret hex0 hex1
 refine zAv (wrS o n c l a) (muR n) (fun x => x.1 <= n /\ x.2.1 <= n /\ x.2.2.1.length <= 254 /\ (-1 <= x.2.2.2 /\ x.2.2.2 <= n) /\ ∀ r, Rd B a x.1 x.2.1 x.2.2.1 x.2.2.2 r -> Rd B a a a [] (-1) r) (a, a, [], -1) ⟨ha, ha, by simp, ⟨by simp, by show (-1 : Int) <= n; omega⟩, fun r hr => hr⟩ h0 ?_
 rintro ⟨p, i, out, bh⟩ f ⟨hp, hi, hout, ⟨hb1, hb2⟩, hinv⟩
 have hp : p <= n := hp
 have hi : i <= n := hi
 have hout : out.length <= 254 := hout
 have hb1 : -1 <= bh := hb1
 have hb2 : bh <= n := hb2
 have hinv : ∀ r, Rd B a p i out bh r -> Rd B a a a [] (-1) r := hinv
 have hb := cB_lt B i
 have hsz0 : (Try.prog.types[48]).size = 2 := by kernel_rfl
 have h1s : (Try.prog.types[5]).size = 1 := by kernel_rfl
 have hby : (Try.prog.types[5]).bytes = 1 := by kernel_rfl
 have hsz : 0 + (Try.prog.types[48]).size <= 2 := by rw [hsz0]; decide
 cases out with
 | nil =>
  refine zAs tbW3 [0, 2] 1 _ none mixed _ _ _ ?_
  refine ifK (fun h1 => ?_) (fun h1 => ?_)
  ·have h1 : n <= i := by have := oT h1; omega
   refine aI rfl (zAk (rcq [1] (d := 7) (d2 := 2) (lv := [(4, .string ⟨#[]⟩), (5, .int .i64 0), (6, .pointer (some ⟨1, 0, none⟩))]) (bs := [(1, .cells [.int .i64 (4), .int .i64 ((n : Int))] 48)]) (W := []) (m := 2) (df := []) ⟨⟨_, rfl, .string _⟩, (sI rfl), (sP rfl rfl), tv⟩ ⟨bpo rfl, tv⟩ .nil) (fun f => hret (4) ((n : Int)) f (hinv _ ?_)))
   rw [<- hlB]; exact .over (by omega)
  have h1 : i < n := by have := oF h1; omega
  refine ifK (fun _ => ?_) (fun h2 => ab h2 (by simp [inI]; omega))
  refine eI (cB B i : Int) (aI (by rw [aO]; exact hcell i h1) ?_)
  have ec : IntKind.i64.wrap (cB B i : Int) = (cB B i : Int) := wrapM (by omega) (by omega)
  refine ifK (fun h2 => ?_) (fun h2 => ?_)
  ·have h2 : cB B i = 0 := by rw [ec] at h2; have h9 : (cB B i : Int) = 0 := (by simpa using h2); omega
   have hz := hinv _ (Rd.zero (B := B) (a := a) (p := p) (i := i) (out := []) (bh := bh) (by omega) h2)
   refine ifK (fun h3 => ?_) (fun h3 => ?_)
   ·have h3 : bh < 0 := oT h3
    rw [if_pos h3] at hz
    rw [show (i : Int) + 1 = IntKind.i64.wrap ((i : Int) + 1) by rw [wrapM (by omega) (by omega)]] at hz
    exact aI rfl (zAk (rcq [1] (d := 7) (d2 := 2) (lv := [(6, .pointer (some ⟨1, 0, none⟩)), (7, .slice none 0 0), (10, .int .i64 (IntKind.i64.wrap ((i : Int) + 1)))]) (bs := [(1, .cells [.int .i64 0, .int .i64 0] 48)]) (W := []) (m := 2) (df := []) ⟨(sP rfl rfl), ⟨_, rfl, zBh 8 rfl⟩, (sI rfl), tv⟩ ⟨bpo rfl, tv⟩ .nil) (fun f => hex0 _ f hz))
   have h3 : ¬ bh < 0 := oF h3
   rw [if_neg h3] at hz
   exact aI rfl (zAk (rcq [1] (d := 7) (d2 := 2) (lv := [(6, .pointer (some ⟨1, 0, none⟩)), (7, .slice none 0 0), (10, .int .i64 (bh))]) (bs := [(1, .cells [.int .i64 0, .int .i64 0] 48)]) (W := []) (m := 2) (df := []) ⟨(sP rfl rfl), ⟨_, rfl, zBh 8 rfl⟩, (sI rfl), tv⟩ ⟨bpo rfl, tv⟩ .nil) (fun f => hex0 _ f hz))
  have h2 : 0 < cB B i := by rw [ec] at h2; have h9 : (cB B i : Int) ≠ 0 := (by simpa using h2); omega
  refine ifK (fun h3 => ?_) (fun h3 => ?_)
  ·have h3 : 192 <= cB B i := by rw [ec] at h3; have := oT h3; omega
   refine eI (⟨0, o, n, c, l⟩, (i : Int)) (aI ⟨rfl, ⟨rfl, h⟩, hn⟩ ?_)
   refine ifK (fun h4 => ab h4 (by simp; omega)) (fun _ => ?_)
   refine ifK (fun h4 => ?_) (fun h4 => ?_)
   ·have h4 : i + 2 <= n := aE (show Nat.ble (i + 2) n = true from h4)
    refine eI (0 : Int) (aI rfl ?_)
    have et : bitsI .and .i64 (beN ((l.drop (o + ((i : Nat) : Int).toNat)).take 2) : Int) 16383 = (toB B i : Int) := by rw [aO, htake i 2 h4, two_eq B i (by omega) h3]
    refine ifK (fun h5 => ?_) (fun h5 => ?_)
    ·have h5 : p <= toB B i := by have := oT h5; rw [et] at this; omega
     refine aI rfl (zAk (rcq [1] (d := 7) (d2 := 2) (lv := [(4, .string ⟨#[]⟩), (5, .int .i64 0), (6, .pointer (some ⟨1, 0, none⟩))]) (bs := [(1, .cells [.int .i64 (150), .int .i64 ((i : Int))] 48)]) (W := []) (m := 2) (df := []) ⟨⟨_, rfl, .string _⟩, (sI rfl), (sP rfl rfl), tv⟩ ⟨bpo rfl, tv⟩ .nil) (fun f => hret (150) ((i : Int)) f (hinv _ ?_)))
     exact .ploop (by omega) h3 (by omega) h5
    have h5 : toB B i < p := by have := oF h5; rw [et] at this; omega
    have hst : ∀ r, Rd B a (toB B i) (toB B i) [] (if bh < 0 then (i : Int) + 2 else bh) r -> Rd B a a a [] (-1) r := fun r hr => hinv r (.ptr (by omega) h3 (by omega) h5 hr)
    have hmu : (toB B i) * (n + 2) + (n + 1 - toB B i) < p * (n + 2) + (n + 1 - i) := by
     have := Nat.mul_le_mul_right (n + 2) (show toB B i + 1 <= p from h5)
     rw [Nat.add_mul, Nat.one_mul] at this; omega
    refine ifK (fun h6 => ?_) (fun h6 => ?_)
    ·have h6 : bh < 0 := oT h6
     simp only [if_pos h6] at hst
     refine ⟨(toB B i, toB B i, [], ((i + 2 : Nat) : Int)), ⟨by show toB B i <= n; omega, by show toB B i <= n; omega, hout, ⟨by show -1 <= ((i + 2 : Nat) : Int); omega, by show ((i + 2 : Nat) : Int) <= _; omega⟩, fun r hr => hst r (by have e : ((i + 2 : Nat) : Int) = (i : Int) + 2 := (by omega); rw [<- e]; exact hr)⟩, hmu, ?_⟩
     exact rcq [1] ⟨(sL rfl rfl), (sI rfl), (sP rfl rfl), ⟨_, rfl, zBh 8 rfl⟩, ⟨_, rfl, by rw [<- et]; exact .int _ _⟩, ⟨_, rfl, by rw [<- et]; exact .int _ _⟩, (sI rfl), tv⟩ ⟨bpo (zAb _), bpo rfl, tv⟩ .nil
    have h6 : ¬ bh < 0 := oF h6
    simp only [if_neg h6] at hst
    refine ⟨(toB B i, toB B i, [], bh), ⟨by show toB B i <= n; omega, by show toB B i <= n; omega, hout, ⟨by show -1 <= bh; omega, by show bh <= _; omega⟩, fun r hr => hst r hr⟩, hmu, ?_⟩
    exact rcq [1] ⟨(sL rfl rfl), (sI rfl), (sP rfl rfl), ⟨_, rfl, zBh 8 rfl⟩, ⟨_, rfl, by rw [<- et]; exact .int _ _⟩, ⟨_, rfl, by rw [<- et]; exact .int _ _⟩, (sI rfl), tv⟩ ⟨bpo (zAb _), bpo rfl, tv⟩ .nil
   have h4 : n < i + 2 := by have h9 : ¬ i + 2 <= n := fun e => (by have h8 := bL e; have h4 : Nat.ble (i + 2) n = false := h4; rw [h8] at h4; cases h4); omega
   refine eI (4 : Int) (aI rfl ?_)
   refine aI ?_ ?_
   ·kernel_rfl
   refine eI (4 : Int) (eI (n : Int) (aI ⟨hsz, rfl⟩ ?_))
   refine aI rfl (zAk (rcq [1] (d := 7) (d2 := 2) (lv := [(4, .string ⟨#[]⟩), (5, .int .i64 0), (6, .pointer (some ⟨1, 0, none⟩))]) (bs := [(1, .cells [.int .i64 (4), .int .i64 ((n : Int))] 48)]) (W := []) (m := 2) (df := []) ⟨⟨_, rfl, .string _⟩, (sI rfl), (sP rfl rfl), tv⟩ ⟨bpo rfl, tv⟩ .nil) (fun f => hret (4) ((n : Int)) f (hinv _ ?_)))
   rw [<- hlB]; exact .pshort (by omega) h3 (by omega)
  have h3 : cB B i < 192 := by rw [ec] at h3; have := oF h3; omega
  refine ifK (fun h4 => ?_) (fun h4 => ?_)
  ·have h4 : 63 < cB B i := by rw [ec] at h4; have := oT h4; omega
   refine aI rfl (zAk (rcq [1] (d := 7) (d2 := 2) (lv := [(4, .string ⟨#[]⟩), (5, .int .i64 0), (6, .pointer (some ⟨1, 0, none⟩))]) (bs := [(1, .cells [.int .i64 (4), .int .i64 ((i : Int))] 48)]) (W := []) (m := 2) (df := []) ⟨⟨_, rfl, .string _⟩, (sI rfl), (sP rfl rfl), tv⟩ ⟨bpo rfl, tv⟩ .nil) (fun f => hret (4) ((i : Int)) f (hinv _ ?_)))
   exact .bad (by omega) h4 h3
  have h4 : cB B i <= 63 := by rw [ec] at h4; have := oF h4; omega
  have ez : IntKind.i64.wrap (IntKind.i64.wrap (cB B i : Int) + 1) = ((cB B i + 1 : Nat) : Int) := by rw [ec, wrapM (by omega) (by omega)]; omega
  refine eI (⟨0, o, n, c, l⟩, ((i : Int), ((cB B i + 1 : Nat) : Int))) (aI ⟨by rw [ez]; rfl, ⟨rfl, h⟩, hn, hcap⟩ ?_)
  refine ifK (fun h5 => ab h5 (by simp; omega)) (fun _ => ?_)
  refine ifK (fun h5 => ?_) (fun h5 => ?_)
  ·have h5 : n < i + (cB B i + 1) := by have h5 : (n : Int) - (i : Int) < ((cB B i + 1 : Nat) : Int) := (oT h5); omega
   refine eI (4 : Int) (aI rfl ?_)
   refine aI ?_ ?_
   ·kernel_rfl
   refine eI (4 : Int) (eI (n : Int) (aI ⟨hsz, rfl⟩ ?_))
   refine aI rfl (zAk (rcq [1] (d := 7) (d2 := 2) (lv := [(4, .string ⟨#[]⟩), (5, .int .i64 0), (6, .pointer (some ⟨1, 0, none⟩))]) (bs := [(1, .cells [.int .i64 (4), .int .i64 ((n : Int))] 48)]) (W := []) (m := 2) (df := []) ⟨⟨_, rfl, .string _⟩, (sI rfl), (sP rfl rfl), tv⟩ ⟨bpo rfl, tv⟩ .nil) (fun f => hret (4) ((n : Int)) f (hinv _ ?_)))
   rw [<- hlB]; exact .short (by omega) h2 h4 (by omega)
  have h5 : i + (cB B i + 1) <= n := by have h5 : ¬ (n : Int) - (i : Int) < ((cB B i + 1 : Nat) : Int) := (oF h5); omega
  have hst : ∀ r, Rd B a p (i + (cB B i + 1)) ([] ++ (B.drop i).take (cB B i + 1)) bh r -> [].length + (cB B i + 1) <= 254 -> Rd B a a a [] (-1) r := fun r hr hl => hinv r (.lab (by omega) h2 h4 (by omega) hl hr)
  have htl : ((B.drop i).take (cB B i + 1)).length = cB B i + 1 := by rw [aU, aM]; omega
  have hsrc : ∀ G : Gh, G 2 = some (.cells (((l.drop (o + i)).take (cB B i + 1)).map byV) 5) -> zAj G 1 (.slice (some ⟨2, 0, none⟩) (cB B i + 1) U) = some (cB B i + 1, ((B.drop i).take (cB B i + 1)).map byV) := fun G hG => by
   unfold zAj
   simp only [hG, Option.bind_some, AObj.look, show (cB B i + 1).beq 0 = false from rfl, cF]
   rw [htake i _ h5, bL (by rw [aT, htl]; omega)]
   simp only [cT, List.drop_zero, aR]
   rw [aD (by rw [aT, htl]; omega)]
  refine eI (((B.drop i).take (cB B i + 1)).map byV) (aI (by rw [h1s]; exact hsrc _ rfl) ?_)
  refine aI (by rw [aO, hby]; simp; omega) ?_
  refine ifK (fun h6 => ab (oT h6) (by rw [aO]; omega)) (fun _ => ?_)
  obtain ⟨u, us, hu⟩ : ∃ u us, (B.drop i).take (cB B i + 1) = u :: us := by
   cases hq : (B.drop i).take (cB B i + 1) with
   | nil => rw [hq] at htl; cases htl
   | cons u us => exact ⟨u, us, rfl⟩
  have hul : us.length + 1 = cB B i + 1 := by rw [<- htl, hu]; rfl
  refine ⟨(p, i + (cB B i + 1), u :: us, bh), ⟨hp, h5, by show us.length + 1 <= 254; omega, ⟨hb1, hb2⟩, fun r hr => hst r (by rw [hu]; exact hr) (by simp; omega)⟩, ?_, ?_⟩
  ·show p * (n + 2) + (n + 1 - (i + (cB B i + 1))) < p * (n + 2) + (n + 1 - i); omega
  exact rcq [1, 4] ⟨(sL rfl rfl), (sI rfl), (sP rfl rfl), ⟨_, rfl, by rw [hul]; exact .sl _ _ _ _ _ rfl⟩, (sI rfl), ⟨_, rfl, by rw [show ((i + (cB B i + 1) : Nat) : Int) = (i : Int) + ((cB B i + 1 : Nat) : Int) by omega]; exact .int _ _⟩, (sI rfl), tv⟩ ⟨bpo (zAb _), bpo rfl, ⟨by decide, _, rfl, zBm (by rw [hu]) (zAb _)⟩, tv⟩ .nil
 | cons u us =>
  refine zAs tbW3 [0, 3] 1 _ none mixed _ _ _ ?_
  refine ifK (fun h1 => ?_) (fun h1 => ?_)
  ·have h1 : n <= i := by have := oT h1; omega
   refine aI rfl (zAk (rcq [1] (d := 7) (d2 := 2) (lv := [(4, .string ⟨#[]⟩), (5, .int .i64 0), (6, .pointer (some ⟨1, 0, none⟩))]) (bs := [(1, .cells [.int .i64 (4), .int .i64 ((n : Int))] 48)]) (W := []) (m := 2) (df := []) ⟨⟨_, rfl, .string _⟩, (sI rfl), (sP rfl rfl), tv⟩ ⟨bpo rfl, tv⟩ .nil) (fun f => hret (4) ((n : Int)) f (hinv _ ?_)))
   rw [<- hlB]; exact .over (by omega)
  have h1 : i < n := by have := oF h1; omega
  refine ifK (fun _ => ?_) (fun h2 => ab h2 (by simp [inI]; omega))
  refine eI (cB B i : Int) (aI (by rw [aO]; exact hcell i h1) ?_)
  have ec : IntKind.i64.wrap (cB B i : Int) = (cB B i : Int) := wrapM (by omega) (by omega)
  refine ifK (fun h2 => ?_) (fun h2 => ?_)
  ·have h2 : cB B i = 0 := by rw [ec] at h2; have h9 : (cB B i : Int) = 0 := (by simpa using h2); omega
   have hz := hinv _ (Rd.zero (B := B) (a := a) (p := p) (i := i) (out := (u :: us)) (bh := bh) (by omega) h2)
   refine ifK (fun h3 => ?_) (fun h3 => ?_)
   ·have h3 : bh < 0 := oT h3
    rw [if_pos h3] at hz
    rw [show (i : Int) + 1 = IntKind.i64.wrap ((i : Int) + 1) by rw [wrapM (by omega) (by omega)]] at hz
    exact aI rfl (zAk (rcq [1, 2] (d := 7) (d2 := 3) (lv := [(6, .pointer (some ⟨1, 0, none⟩)), (7, .slice (some ⟨2, 0, none⟩) (us.length + 1) U), (10, .int .i64 (IntKind.i64.wrap ((i : Int) + 1)))]) (bs := [(1, .cells [.int .i64 0, .int .i64 0] 48), (2, .cells ((u :: us).map byV) 5)]) (W := []) (m := 3) (df := []) ⟨(sP rfl rfl), (sL rfl rfl), (sI rfl), tv⟩ ⟨bpo rfl, bpo (zAb _), tv⟩ .nil) (fun f => hex1 _ _ _ f hout hz))
   have h3 : ¬ bh < 0 := oF h3
   rw [if_neg h3] at hz
   exact aI rfl (zAk (rcq [1, 2] (d := 7) (d2 := 3) (lv := [(6, .pointer (some ⟨1, 0, none⟩)), (7, .slice (some ⟨2, 0, none⟩) (us.length + 1) U), (10, .int .i64 (bh))]) (bs := [(1, .cells [.int .i64 0, .int .i64 0] 48), (2, .cells ((u :: us).map byV) 5)]) (W := []) (m := 3) (df := []) ⟨(sP rfl rfl), (sL rfl rfl), (sI rfl), tv⟩ ⟨bpo rfl, bpo (zAb _), tv⟩ .nil) (fun f => hex1 _ _ _ f hout hz))
  have h2 : 0 < cB B i := by rw [ec] at h2; have h9 : (cB B i : Int) ≠ 0 := (by simpa using h2); omega
  refine ifK (fun h3 => ?_) (fun h3 => ?_)
  ·have h3 : 192 <= cB B i := by rw [ec] at h3; have := oT h3; omega
   refine eI (⟨0, o, n, c, l⟩, (i : Int)) (aI ⟨rfl, ⟨rfl, h⟩, hn⟩ ?_)
   refine ifK (fun h4 => ab h4 (by simp; omega)) (fun _ => ?_)
   refine ifK (fun h4 => ?_) (fun h4 => ?_)
   ·have h4 : i + 2 <= n := aE (show Nat.ble (i + 2) n = true from h4)
    refine eI (0 : Int) (aI rfl ?_)
    have et : bitsI .and .i64 (beN ((l.drop (o + ((i : Nat) : Int).toNat)).take 2) : Int) 16383 = (toB B i : Int) := by rw [aO, htake i 2 h4, two_eq B i (by omega) h3]
    refine ifK (fun h5 => ?_) (fun h5 => ?_)
    ·have h5 : p <= toB B i := by have := oT h5; rw [et] at this; omega
     refine aI rfl (zAk (rcq [1] (d := 7) (d2 := 2) (lv := [(4, .string ⟨#[]⟩), (5, .int .i64 0), (6, .pointer (some ⟨1, 0, none⟩))]) (bs := [(1, .cells [.int .i64 (150), .int .i64 ((i : Int))] 48)]) (W := []) (m := 2) (df := []) ⟨⟨_, rfl, .string _⟩, (sI rfl), (sP rfl rfl), tv⟩ ⟨bpo rfl, tv⟩ .nil) (fun f => hret (150) ((i : Int)) f (hinv _ ?_)))
     exact .ploop (by omega) h3 (by omega) h5
    have h5 : toB B i < p := by have := oF h5; rw [et] at this; omega
    have hst : ∀ r, Rd B a (toB B i) (toB B i) (u :: us) (if bh < 0 then (i : Int) + 2 else bh) r -> Rd B a a a [] (-1) r := fun r hr => hinv r (.ptr (by omega) h3 (by omega) h5 hr)
    have hmu : (toB B i) * (n + 2) + (n + 1 - toB B i) < p * (n + 2) + (n + 1 - i) := by
     have := Nat.mul_le_mul_right (n + 2) (show toB B i + 1 <= p from h5)
     rw [Nat.add_mul, Nat.one_mul] at this; omega
    refine ifK (fun h6 => ?_) (fun h6 => ?_)
    ·have h6 : bh < 0 := oT h6
     simp only [if_pos h6] at hst
     refine ⟨(toB B i, toB B i, (u :: us), ((i + 2 : Nat) : Int)), ⟨by show toB B i <= n; omega, by show toB B i <= n; omega, hout, ⟨by show -1 <= ((i + 2 : Nat) : Int); omega, by show ((i + 2 : Nat) : Int) <= _; omega⟩, fun r hr => hst r (by have e : ((i + 2 : Nat) : Int) = (i : Int) + 2 := (by omega); rw [<- e]; exact hr)⟩, hmu, ?_⟩
     exact rcq [1, 2] ⟨(sL rfl rfl), (sI rfl), (sP rfl rfl), (sL rfl rfl), ⟨_, rfl, by rw [<- et]; exact .int _ _⟩, ⟨_, rfl, by rw [<- et]; exact .int _ _⟩, (sI rfl), tv⟩ ⟨bpo (zAb _), bpo rfl, bpo (zAb _), tv⟩ .nil
    have h6 : ¬ bh < 0 := oF h6
    simp only [if_neg h6] at hst
    refine ⟨(toB B i, toB B i, (u :: us), bh), ⟨by show toB B i <= n; omega, by show toB B i <= n; omega, hout, ⟨by show -1 <= bh; omega, by show bh <= _; omega⟩, fun r hr => hst r hr⟩, hmu, ?_⟩
    exact rcq [1, 2] ⟨(sL rfl rfl), (sI rfl), (sP rfl rfl), (sL rfl rfl), ⟨_, rfl, by rw [<- et]; exact .int _ _⟩, ⟨_, rfl, by rw [<- et]; exact .int _ _⟩, (sI rfl), tv⟩ ⟨bpo (zAb _), bpo rfl, bpo (zAb _), tv⟩ .nil
   have h4 : n < i + 2 := by have h9 : ¬ i + 2 <= n := fun e => (by have h8 := bL e; have h4 : Nat.ble (i + 2) n = false := h4; rw [h8] at h4; cases h4); omega
   refine eI (4 : Int) (aI rfl ?_)
   refine aI ?_ ?_
   ·kernel_rfl
   refine eI (4 : Int) (eI (n : Int) (aI ⟨hsz, rfl⟩ ?_))
   refine aI rfl (zAk (rcq [1] (d := 7) (d2 := 2) (lv := [(4, .string ⟨#[]⟩), (5, .int .i64 0), (6, .pointer (some ⟨1, 0, none⟩))]) (bs := [(1, .cells [.int .i64 (4), .int .i64 ((n : Int))] 48)]) (W := []) (m := 2) (df := []) ⟨⟨_, rfl, .string _⟩, (sI rfl), (sP rfl rfl), tv⟩ ⟨bpo rfl, tv⟩ .nil) (fun f => hret (4) ((n : Int)) f (hinv _ ?_)))
   rw [<- hlB]; exact .pshort (by omega) h3 (by omega)
  have h3 : cB B i < 192 := by rw [ec] at h3; have := oF h3; omega
  refine ifK (fun h4 => ?_) (fun h4 => ?_)
  ·have h4 : 63 < cB B i := by rw [ec] at h4; have := oT h4; omega
   refine aI rfl (zAk (rcq [1] (d := 7) (d2 := 2) (lv := [(4, .string ⟨#[]⟩), (5, .int .i64 0), (6, .pointer (some ⟨1, 0, none⟩))]) (bs := [(1, .cells [.int .i64 (4), .int .i64 ((i : Int))] 48)]) (W := []) (m := 2) (df := []) ⟨⟨_, rfl, .string _⟩, (sI rfl), (sP rfl rfl), tv⟩ ⟨bpo rfl, tv⟩ .nil) (fun f => hret (4) ((i : Int)) f (hinv _ ?_)))
   exact .bad (by omega) h4 h3
  have h4 : cB B i <= 63 := by rw [ec] at h4; have := oF h4; omega
  have ez : IntKind.i64.wrap (IntKind.i64.wrap (cB B i : Int) + 1) = ((cB B i + 1 : Nat) : Int) := by rw [ec, wrapM (by omega) (by omega)]; omega
  refine eI (⟨0, o, n, c, l⟩, ((i : Int), ((cB B i + 1 : Nat) : Int))) (aI ⟨by rw [ez]; rfl, ⟨rfl, h⟩, hn, hcap⟩ ?_)
  refine ifK (fun h5 => ab h5 (by simp; omega)) (fun _ => ?_)
  refine ifK (fun h5 => ?_) (fun h5 => ?_)
  ·have h5 : n < i + (cB B i + 1) := by have h5 : (n : Int) - (i : Int) < ((cB B i + 1 : Nat) : Int) := (oT h5); omega
   refine eI (4 : Int) (aI rfl ?_)
   refine aI ?_ ?_
   ·kernel_rfl
   refine eI (4 : Int) (eI (n : Int) (aI ⟨hsz, rfl⟩ ?_))
   refine aI rfl (zAk (rcq [1] (d := 7) (d2 := 2) (lv := [(4, .string ⟨#[]⟩), (5, .int .i64 0), (6, .pointer (some ⟨1, 0, none⟩))]) (bs := [(1, .cells [.int .i64 (4), .int .i64 ((n : Int))] 48)]) (W := []) (m := 2) (df := []) ⟨⟨_, rfl, .string _⟩, (sI rfl), (sP rfl rfl), tv⟩ ⟨bpo rfl, tv⟩ .nil) (fun f => hret (4) ((n : Int)) f (hinv _ ?_)))
   rw [<- hlB]; exact .short (by omega) h2 h4 (by omega)
  have h5 : i + (cB B i + 1) <= n := by have h5 : ¬ (n : Int) - (i : Int) < ((cB B i + 1 : Nat) : Int) := (oF h5); omega
  have hst : ∀ r, Rd B a p (i + (cB B i + 1)) ((u :: us) ++ (B.drop i).take (cB B i + 1)) bh r -> (u :: us).length + (cB B i + 1) <= 254 -> Rd B a a a [] (-1) r := fun r hr hl => hinv r (.lab (by omega) h2 h4 (by omega) hl hr)
  have htl : ((B.drop i).take (cB B i + 1)).length = cB B i + 1 := by rw [aU, aM]; omega
  have hsrc : ∀ G : Gh, G 3 = some (.cells (((l.drop (o + i)).take (cB B i + 1)).map byV) 5) -> zAj G 1 (.slice (some ⟨3, 0, none⟩) (cB B i + 1) U) = some (cB B i + 1, ((B.drop i).take (cB B i + 1)).map byV) := fun G hG => by
   unfold zAj
   simp only [hG, Option.bind_some, AObj.look, show (cB B i + 1).beq 0 = false from rfl, cF]
   rw [htake i _ h5, bL (by rw [aT, htl]; omega)]
   simp only [cT, List.drop_zero, aR]
   rw [aD (by rw [aT, htl]; omega)]
  refine eI (((B.drop i).take (cB B i + 1)).map byV) (aI (by rw [h1s]; exact hsrc _ rfl) ?_)
  have hul0 : us.length + 1 <= 254 := hout
  have hone : oneL (((B.drop i).take (cB B i + 1)).map byV) = true := by unfold oneL; exact aG.2 (fun v hv => by obtain ⟨b, _, rfl⟩ := List.mem_map.1 hv; rfl)
  refine aI (by rw [aO, hby, h1s]; simp only [bA, dT]; exact ⟨⟨⟨⟨⟨⟨rfl, rfl⟩, bL (by simp)⟩, hone⟩, (by omega)⟩, (by omega)⟩, bL (by rw [aT, aT, htl, aC]; omega)⟩) ?_
  refine ifK (fun h6 => ?_) (fun h6 => ?_)
  ·have h6 : 254 < (u :: us).length + (cB B i + 1) := by have h6 : (((us.length + 1 + (cB B i + 1) : Nat)) : Int) > 254 := (oT h6); simp only [aC]; omega
   refine aI rfl (zAk (rcq [1] (d := 7) (d2 := 2) (lv := [(4, .string ⟨#[]⟩), (5, .int .i64 0), (6, .pointer (some ⟨1, 0, none⟩))]) (bs := [(1, .cells [.int .i64 (3), .int .i64 ((a : Int))] 48)]) (W := []) (m := 2) (df := []) ⟨⟨_, rfl, .string _⟩, (sI rfl), (sP rfl rfl), tv⟩ ⟨bpo rfl, tv⟩ .nil) (fun f => hret (3) ((a : Int)) f (hinv _ ?_)))
   exact .long (by omega) h2 h4 (by omega) h6
  have h6 : (u :: us).length + (cB B i + 1) <= 254 := by have h6 : ¬ (((us.length + 1 + (cB B i + 1) : Nat)) : Int) > 254 := (oF h6); simp only [aC]; omega
  refine ⟨(p, i + (cB B i + 1), u :: (us ++ (B.drop i).take (cB B i + 1)), bh), ⟨hp, h5, by show (us ++ (B.drop i).take (cB B i + 1)).length + 1 <= 254; rw [aB, htl]; simp only [aC] at h6; omega, ⟨hb1, hb2⟩, fun r hr => hst r hr h6⟩, ?_, ?_⟩
  ·show p * (n + 2) + (n + 1 - (i + (cB B i + 1))) < p * (n + 2) + (n + 1 - i); omega
  refine rcq [1, 5] ⟨(sL rfl rfl), (sI rfl), (sP rfl rfl), ⟨_, rfl, ?_⟩, (sI rfl), ⟨_, rfl, by rw [show ((i + (cB B i + 1) : Nat) : Int) = (i : Int) + ((cB B i + 1 : Nat) : Int) by omega]; exact .int _ _⟩, (sI rfl), tv⟩ ⟨bpo (zAb _), bpo rfl, ⟨by decide, _, rfl, zBm ?_ (zAb _)⟩, tv⟩ .nil
  ·rw [show (us ++ (B.drop i).take (cB B i + 1)).length + 1 = us.length + 1 + (cB B i + 1) by rw [aB, htl]; omega]; exact .sl _ _ _ _ _ rfl
  rw [h1s, aR, aD (by simp)]; simp
end
section
open Go Go.RowKit
def wrQ (B : Bl) (x : Int) (r : Res) : Prop := ∃ res, rdOk B x res /\ ∃ H m wr, r = .ret (rrV res) H m wr /\ ∀ k ∈ wr, 1 <= k
theorem read_fn (l : Bl) (o n c : Nat) (x : Int) (h : o + n <= l.length) (hn : n <= 1000000000) (hcap : c = U \/ n <= c /\ c <= 9223372036854775807) : ∃ r, FnS Try.prog 0 99 [.slice (some ⟨0, o, none⟩) n c, .int .i64 x] (heap 1 [(0, .win (l.map byV) 1)]) 1 r /\ wrQ ((l.drop o).take n) x r := by
 have hlB := lenB h
 refine zAu mixed tbW3 [0, 4] Try.func99 (c := bodyOf Try.f99) (by kernel_rfl) ?_
 refine ifK (fun h1 => ?_) (fun h1 => ?_)
 ·have h1 := oT h1
  exact ⟨⟨[], 0, 5, 0⟩, .inl ⟨.inl h1, rfl⟩, _, _, _, rfl, zAl rfl⟩
 have h1 := oF h1
 refine ifK (fun h2 => ?_) (fun h2 => ?_)
 ·have h2 := oT h2
  exact ⟨⟨[], 0, 5, 0⟩, .inl ⟨.inr (by rw [hlB]; omega), rfl⟩, _, _, _, rfl, zAl rfl⟩
 have h2 := oF h2
 obtain ⟨a, rfl⟩ : ∃ a : Nat, x = (a : Int) := ⟨x.toNat, by omega⟩
 have ha : a <= n := by omega
 refine read_loop l o n c a h hn hcap ha (rcq [1] ⟨(sL rfl rfl), (sI rfl), (sP rfl rfl), ⟨_, rfl, zBh 8 rfl⟩, (sI rfl), (sI rfl), (sI rfl), tv⟩ ⟨bpo (zAb l), bpo rfl, tv⟩ .nil) (fun e pos f hr => ?_) (fun bh f hr => ?_) (fun u us bh f hl hr => ?_)
 ·exact ⟨⟨[], 0, e, pos⟩, .inr ⟨a, rfl, by omega, hr⟩, _, _, _, rfl, zAl rfl⟩
 ·exact ⟨⟨[0], bh, 0, 0⟩, .inr ⟨a, rfl, by omega, hr⟩, _, _, _, rfl, zAl rfl⟩
 have h1s : (Try.prog.types[5]).size = 1 := by kernel_rfl
 have hby : (Try.prog.types[5]).bytes = 1 := by kernel_rfl
 have hl0 : us.length + 1 <= 254 := hl
 refine aI (by rw [hby, h1s]; simp only [bA, dT]; exact ⟨⟨⟨⟨⟨⟨rfl, rfl⟩, bL (by simp)⟩, rfl⟩, (by omega)⟩, (by omega)⟩, bL (by simp)⟩) ?_
 refine eI ((u :: us) ++ [0]) (aI ?_ ?_)
 ·have hsrc : ∀ G : Gh, G 4 = some (.cells ((((u :: us).map byV).take ((us.length + 1) * (Try.prog.types[5]).size)) ++ [.int .u8 0]) 5) -> zAj G 1 (.slice (some ⟨4, 0, none⟩) (us.length + 1 + 1) U) = some (us.length + 1 + 1, ((u :: us) ++ [0]).map fun b : UInt8 => Value.int .u8 (b.toNat : Int)) := fun G hG => by
   rw [h1s, aR, aD (by simp)] at hG
   unfold zAj
   simp only [hG, Option.bind_some, AObj.look, show (us.length + 1 + 1).beq 0 = false from rfl, cF]
   rw [bL (by simp)]
   simp only [cT, List.drop_zero, aR]
   rw [aD (by simp), List.map_append]; rfl
  exact hsrc _ rfl
 exact ⟨⟨(u :: us) ++ [0], bh, 0, 0⟩, .inr ⟨a, rfl, by omega, hr⟩, _, _, _, rfl, zAl rfl⟩
end
section
open Go Go.RowKit
def RdB.B (x : RdB) : Bl := (x.l.drop x.o).take x.n
def RdB.small (x : RdB) : Prop := x.n <= 1000000000 /\ (x.c = U \/ x.n <= x.c /\ x.c <= 9223372036854775807)
noncomputable def zSu : CtQ Try.prog :=
 { f := 99, X := RdB × Int, pre := fun x a H _ => a = [x.1.sl, .int .i64 x.2] /\ x.1.at H /\ x.1.small, Q := fun x v => ∃ r : RR, v = rrV r /\ rdOk x.1.B x.2 r,
   ok := fun ⟨⟨b, o, n, c, l⟩, i⟩ a H m ⟨h1, h2, h3⟩ => by
    subst h1
    obtain ⟨r, hF, res, hr, H', m', wr, rfl, hw⟩ := read_fn l o n c i h2.2 h3.1 h3.2
    exact ⟨rrV res, zCn [b] hF hw zGh (.cons _ _ _ _ (.sl _ _ _ _ _ rfl) (zCg rfl)) (zDe h2.1 (zAb l)) (zPh res), res, rfl, hr⟩,
   uniq := fun ⟨x, i⟩ ⟨y, j⟩ a H m ⟨h1, h2, _⟩ ⟨k1, k2, _⟩ => by
    rw [h1] at k1
    simp only [aQ, Value.int.injEq, true_and, and_true] at k1
    rw [RdB.uniq k1.1 h2 k2, k1.2] }
noncomputable def ct_wread : Ct Try.prog 0 := zSu.ct
theorem Rd.name {B : Bl} {a p i : Nat} {out : Bl} {bh : Int} {r : RR} (h : Rd B a p i out bh r) (ha : a <= B.length) (hi : i <= B.length) (hp : p <= B.length) (hbh : bh <= B.length) : (r.e = 0 \/ r.s = []) /\ (r.e ≠ 0 -> 0 <= r.pos /\ r.pos <= B.length) /\ (r.e = 0 -> r.next <= B.length) := by
 have z : ∀ k : Nat, (0 : Int) <= (k : Int) := fun k => Int.natCast_nonneg k
 have le : ∀ k m : Nat, k <= m -> (k : Int) <= (m : Int) := fun k m h => Int.ofNat_le.2 h
 induction h with
 | over h => exact ⟨.inr rfl, fun _ => ⟨z _, Int.le_refl _⟩, fun e => by cases e⟩
 | zero h hc =>
  refine ⟨.inl rfl, fun e => ab rfl e, fun _ => ?_⟩
  dsimp only
  split
  ·exact le (_ + 1) _ h
  exact hbh
 | pshort h hc h2 => exact ⟨.inr rfl, fun _ => ⟨z _, Int.le_refl _⟩, fun e => by cases e⟩
 | ploop h hc h2 h3 => exact ⟨.inr rfl, fun _ => ⟨z _, le _ _ (by omega)⟩, fun e => by cases e⟩
 | ptr h hc h2 h3 hr ih =>
  refine ih (by omega) (by omega) ?_
  split
  ·exact le (_ + 2) _ h2
  exact hbh
 | bad h hc hc2 => exact ⟨.inr rfl, fun _ => ⟨z _, le _ _ (by omega)⟩, fun e => by cases e⟩
 | short h hc hc2 h2 => exact ⟨.inr rfl, fun _ => ⟨z _, Int.le_refl _⟩, fun e => by cases e⟩
 | long h hc hc2 h2 h3 => exact ⟨.inr rfl, fun _ => ⟨z _, le _ _ ha⟩, fun e => by cases e⟩
 | lab h hc hc2 h2 h3 hr ih => exact ih h2 hp hbh
end
section
open Go Go.RowKit
noncomputable def tbD7 (t : Int) (ps : List Pt) (ht : ∀ H n, partsGo t H n partsTab = partsOut ps.length (ps.flatMap Pt.cell) H n) : Tb Try.prog 0 := tbOf mixed [zFg t ps ht, ct_wread, zUv]
noncomputable def tbD7n (t : Int) (ht : ∀ H n, partsGo t H n partsTab = .ret (.tuple #[.slice none 0 0, .bool false]) H n []) : Tb Try.prog 0 := tbOf mixed [zLj t ht]
theorem Rd.fine {B : Bl} {a p i : Nat} {out : Bl} {bh : Int} {r : RR} (h : Rd B a p i out bh r) (hb : bh = -1 \/ 0 <= bh) (ho : out.length <= 254) : r.e = 0 -> 0 <= r.next /\ r.s.length <= 255 := by
 have z : ∀ k : Nat, (0 : Int) <= (k : Int) := fun k => Int.natCast_nonneg k
 induction h with
 | zero h hc =>
  intro _
  dsimp only
  refine ⟨?_, by rw [aB, List.length_singleton]; omega⟩
  split
  ·exact z (_ + 1)
  omega
 | ptr h hc h2 h3 hr ih =>
  refine ih ?_ ho
  split
  ·exact .inr (z (_ + 2))
  exact hb
 | lab h hc hc2 h2 h3 hr ih =>
  refine ih hb ?_
  rw [aB, aU, aM]; omega
 | _ => intro e; cases e
theorem rdOk.fine {B : Bl} {x : Int} {r : RR} (h : rdOk B x r) : (r.e ≠ 0 -> 0 <= r.pos /\ r.pos <= B.length) /\ (r.e = 0 -> 0 <= r.next /\ r.next <= B.length /\ r.s.length <= 255) := by
 rcases h with ⟨_, rfl⟩ | ⟨a, rfl, h1, h2⟩
 ·exact ⟨fun _ => ⟨Int.le_refl _, Int.natCast_nonneg _⟩, fun e => by cases e⟩
 obtain ⟨_, q1, q2⟩ := h2.name h1 h1 h1 (by omega)
 have q3 := h2.fine (.inl rfl) (by simp)
 exact ⟨q1, fun e => ⟨(q3 e).1, q2 e, (q3 e).2⟩⟩
inductive RdP (B : Bl) (a e t : Int) : List Pt -> Int -> Bs -> Bs × Int × Int -> Prop
 | fin {i : Int} {out : Bs} (h1 : i = e) (h2 : checkD t out = 0) : RdP B a e t [] i out (out, 0, 0)
 | off {i : Int} {out : Bs} (h : ¬ (i = e /\ checkD t out = 0)) : RdP B a e t [] i out ([], 4, a)
 | nmb {ps : List Pt} {i : Int} {out : Bs} {r : RR} (h : rdOk B i r) (he : r.e ≠ 0) : RdP B a e t (.nm :: ps) i out ([], r.e, r.pos)
 | nmo {ps : List Pt} {i : Int} {out : Bs} {r : RR} (h : rdOk B i r) (he : r.e = 0) (h2 : r.next > e) : RdP B a e t (.nm :: ps) i out ([], 4, a)
 | nmc {ps : List Pt} {i : Int} {out : Bs} {r : RR} {y : Bs × Int × Int} (h : rdOk B i r) (he : r.e = 0) (h2 : ¬ r.next > e) (k : RdP B a e t ps r.next (out ++ r.s) y) : RdP B a e t (.nm :: ps) i out y
 | rest {ps : List Pt} {i : Int} {out : Bs} {y : Bs × Int × Int} (k : RdP B a e t ps e (out ++ (B.drop i.toNat).take (e.toNat - i.toNat)) y) : RdP B a e t (.rest :: ps) i out y
 | szb {ps : List Pt} {z : Nat} {i : Int} {out : Bs} (h : e - i < z) : RdP B a e t (.sz z :: ps) i out ([], 4, a)
 | szc {ps : List Pt} {z : Nat} {i : Int} {out : Bs} {y : Bs × Int × Int} (h : ¬ e - i < z) (k : RdP B a e t ps (i + z) (out ++ (B.drop i.toNat).take ((i + z).toNat - i.toNat)) y) : RdP B a e t (.sz z :: ps) i out y
theorem RdP.det {B : Bl} {a e t : Int} {ps : List Pt} {i : Int} {out : Bs} {y y' : Bs × Int × Int} (h : RdP B a e t ps i out y) (k : RdP B a e t ps i out y') : y = y' := by
 induction h generalizing y' with
 | fin h1 h2 => cases k with | fin => rfl | off h => exact ab ⟨h1, h2⟩ h
 | off h => cases k with | fin h1 h2 => exact ab ⟨h1, h2⟩ h | off => rfl
 | nmb h he => cases k with | nmb h' => rw [zAn h h'] | nmo h' he' => rw [zAn h h'] at he; exact ab he' he | nmc h' he' => rw [zAn h h'] at he; exact ab he' he
 | nmo h he h2 => cases k with | nmb h' he' => rw [zAn h h'] at he; exact ab he he' | nmo => rfl | nmc h' he' h2' => rw [zAn h h'] at h2; exact ab h2 h2'
 | nmc h he h2 _ ih => cases k with | nmb h' he' => rw [zAn h h'] at he; exact ab he he' | nmo h' he' h2' => rw [zAn h h'] at h2; exact ab h2' h2 | nmc h' _ _ k' => rw [<- zAn h h'] at k'; exact ih k'
 | rest _ ih => cases k with | rest k' => exact ih k'
 | szb h => cases k with | szb => rfl | szc h' => exact ab h h'
 | szc h _ ih => cases k with | szb h' => exact ab h' h | szc _ k' => exact ih k'
def rrS (l : Bl) (o n c : Nat) (t a e : Int) (ps : List Pt) (x : Nat × Int × ByteArray) (f : Nat -> Option Value) : Fs :=
 ⟨slots 8 [(0, .slice (some ⟨0, o, none⟩) n c), (3, .int .i64 t), (9, pt 1), (10, .int .i64 e), (13, pt 3), (14, .string x.2.2), (15, .int .i64 x.2.1), (76, sq 2 ps.length ps.length), (77, .int .i64 ps.length), (78, .int .i64 x.1)] f,
  heap 3 [(0, .win (l.map byV) 1), (1, .cells [.int .i64 0, .int .i64 0] 48), (2, .cells (ps.flatMap Pt.cell) 144), (3, .cells [.int .i64 4, .int .i64 a] 48)], 4, [], []⟩
theorem rr_loop (l : Bl) (o n c : Nat) (t a e : Int) (ps : List Pt) (ht : ∀ H n, partsGo t H n partsTab = partsOut ps.length (ps.flatMap Pt.cell) H n) (hps : ps.length < 900) (h : o + n <= l.length) (hn : n <= 1000000) (hcap : c = U \/ n <= c /\ c <= 9223372036854775807) (ha : 0 <= a /\ a <= e /\ e <= n) {s0 : Fs} {K : Ex -> Fs -> Prop}
  (h0 : ∃ f, RcM Try.prog 0 1 (4 + (Try.f86.ntmps - 4)) none s0 (rrS l o n c t a e ps (0, a, ⟨#[]⟩) f))
  (hret : ∀ er pos f, er ≠ 0 -> 0 <= pos -> pos <= (n : Int) -> RdP ((l.drop o).take n) a e t ps a [] ([], er, pos) -> K .ret ⟨slots 8 [(8, .string ⟨#[]⟩), (9, pt 1)] f, heap 2 [(1, .cells [.int .i64 er, .int .i64 pos] 48)], 2, [], []⟩)
  (hex : ∀ i out f, (bs out).length <= 1000000000 -> (∀ y, RdP ((l.drop o).take n) a e t [] i (bs out) y -> RdP ((l.drop o).take n) a e t ps a [] y) -> K (.exit 1) ⟨slots 8 [(3, .int .i64 t), (9, pt 1), (10, .int .i64 e), (13, pt 3), (14, .string out), (15, .int .i64 i)] f, heap 3 [(1, .cells [.int .i64 0, .int .i64 0] 48), (3, .cells [.int .i64 4, .int .i64 a] 48)], 4, [], []⟩) :
  LW Try.prog 0 1 (4 + (Try.f86.ntmps - 4)) none (loopAt Try.f86 0) s0 K := by
 refine zAv (rrS l o n c t a e ps) (fun x => ps.length - x.1) (fun x => x.1 <= ps.length /\ (0 <= x.2.1 /\ x.2.1 <= e) /\ (bs x.2.2).length <= x.1 * 1001000 /\ ∀ y, RdP ((l.drop o).take n) a e t (ps.drop x.1) x.2.1 (bs x.2.2) y -> RdP ((l.drop o).take n) a e t ps a [] y) (0, a, ⟨#[]⟩) ⟨aH _, ⟨ha.1, ha.2.1⟩, by simp [bs], fun y hy => hy⟩ h0 ?_
 rintro ⟨k, i, out⟩ f ⟨hk, ⟨hi1, hi2⟩, hout, hinv⟩
 have hk : k <= ps.length := hk
 have hi1 : 0 <= i := hi1
 have hi2 : i <= e := hi2
 have hout : (bs out).length <= k * 1001000 := hout
 have hinv : ∀ y, RdP ((l.drop o).take n) a e t (ps.drop k) i (bs out) y -> RdP ((l.drop o).take n) a e t ps a [] y := hinv
 have htake : ∀ j m : Nat, j + m <= n -> (l.drop (o + j)).take m = (((l.drop o).take n).drop j).take m := fun j m hjm => by rw [List.drop_take, List.take_take, List.drop_drop, Nat.min_eq_left (by omega)]
 obtain ⟨ha1, ha2, ha3⟩ := ha
 have h1s : (Try.prog.types[5]).size = 1 := by kernel_rfl
 have lenB' : ((l.drop o).take n).length = n := lenB h
 have hmulk : k * 1001000 <= 900 * 1001000 := Nat.mul_le_mul_right _ (by omega)
 have side : ∀ (h1 : k < ps.length), (0 + ((k : Nat) : Int).toNat * 3 + 3 <= (ps.flatMap Pt.cell).length /\ List.take 3 (List.drop (0 + ((k : Nat) : Int).toNat * 3) (ps.flatMap Pt.cell)) = ps[k].cell) := fun h1 => by
  have := zJs Pt.cell 3 Pt.cell_len ps k h1
  rw [aO, aS]; exact this
 have srcs : ∀ (x y : Int) (o' c' : Nat) (G : Gh), 0 <= x -> x <= y -> y <= n -> (o' = o + x.toNat \/ y.toNat - x.toNat = 0) -> G 0 = some (.win (l.map byV) 1) -> zAj G 1 (.slice (some ⟨0, o', none⟩) (y.toNat - x.toNat) c') = some (y.toNat - x.toNat, (((l.drop (o + x.toNat)).take (y.toNat - x.toNat)).map fun b : UInt8 => Value.int .u8 (b.toNat : Int))) := fun x y o' c' G h1 h2 h3 ho hG => by
  unfold zAj
  by_cases hz : y.toNat - x.toNat = 0
  ·rw [hz]; simp
  have ho := ho.resolve_right hz
  subst ho
  have : (y.toNat - x.toNat).beq 0 = false := by cases hb : (y.toNat - x.toNat).beq 0; rfl; exact ab (aA hb) hz
  simp only [this, cF, hG, Option.bind_some, AObj.look]
  rw [bL (by simp; omega)]
  simp only [cT, aR, List.map_take, List.map_drop]; rfl
 refine zAs (tbD7 t ps ht) [0, 2] 1 _ none mixed _ _ _ ?_
 refine ifK (fun h1 => ?_) (fun h1 => ?_)
 ·have h1 : k < ps.length := by have := oT h1; omega
  have hsd := side h1
  have hst : ps.drop k = ps[k] :: ps.drop (k + 1) := bD h1
  have hmul1 : (k + 1) * 1001000 = k * 1001000 + 1001000 := by rw [Nat.add_mul, Nat.one_mul]
  refine ifK (fun _ => ?_) (fun h2 => ab h2 (by simp [inI]; omega))
  cases hp : ps[k] with
  | nm =>
   rw [hp] at hsd
   refine eI 0 (eI true (eI false (aI hsd ?_)))
   refine eI (⟨0, o, n, c, l⟩, i) (aI ⟨rfl, ⟨rfl, h⟩, by show n <= _; omega, hcap⟩ ?_)
   rintro v ⟨r, rfl, hr⟩
   obtain ⟨s, nx, er, pos⟩ := r
   obtain ⟨q1, q2⟩ := hr.fine
   have q1 : er ≠ 0 -> 0 <= pos /\ pos <= (((l.drop o).take n).length : Int) := q1
   have q2 : er = 0 -> 0 <= nx /\ nx <= (((l.drop o).take n).length : Int) /\ s.length <= 255 := q2
   rw [lenB'] at q1 q2
   refine ifK (fun h3 => ?_) (fun h3 => ?_)
   ·have h3 : er ≠ 0 := by simpa using h3
    refine aI ?_ ?_
    ·kernel_rfl
    exact aI rfl (zAk (rcq [1] (d := 8) (d2 := 2) (lv := [(8, .string ⟨#[]⟩), (9, pt 1)]) (bs := [(1, .cells [.int .i64 er, .int .i64 pos] 48)]) (W := []) (m := 2) (df := []) ⟨⟨_, rfl, .string _⟩, (sP rfl rfl), tv⟩ ⟨bpo rfl, tv⟩ .nil) (fun f => hret _ _ f h3 (q1 h3).1 (q1 h3).2 (hinv _ (by rw [hst, hp]; exact .nmb hr h3))))
   have h3 : er = 0 := by simpa using h3
   obtain ⟨q3, q4, q5⟩ := q2 h3
   refine ifK (fun h4 => ?_) (fun h4 => ?_)
   ·refine aI ?_ ?_
    ·kernel_rfl
    exact aI rfl (zAk (rcq [1] (d := 8) (d2 := 2) (lv := [(8, .string ⟨#[]⟩), (9, pt 1)]) (bs := [(1, .cells [.int .i64 4, .int .i64 a] 48)]) (W := []) (m := 2) (df := []) ⟨⟨_, rfl, .string _⟩, (sP rfl rfl), tv⟩ ⟨bpo rfl, tv⟩ .nil) (fun f => hret _ _ f (by decide) ha1 (by omega) (hinv _ (by rw [hst, hp]; exact .nmo hr h3 (oT h4)))))
   have h4 : ¬ nx > e := oF h4
   have eS : bs ⟨s.toArray⟩ = s := zEq s
   refine aI (zBe (by rw [eS]; have e9 : (bs (k, i, out).2.2).length = (bs out).length := rfl; omega)) ?_
   refine ⟨(k + 1, nx, catS out ⟨s.toArray⟩), ⟨h1, ⟨q3, by show nx <= e; omega⟩, ?_, fun y hy => hinv y (by rw [hst, hp]; exact .nmc hr h3 h4 (by have hy : RdP _ a e t (ps.drop (k + 1)) nx (bs (catS out ⟨s.toArray⟩)) y := hy; rw [zBl, eS] at hy; exact hy))⟩, ?_, ?_⟩
   ·show (bs (catS _ _)).length <= (k + 1) * 1001000
    rw [zBl, eS, aB]; omega
   ·show ps.length - (k + 1) < ps.length - k; omega
   exact rcq [1, 2, 3] ⟨(sL rfl rfl), (sI rfl), (sP rfl rfl), (sI rfl), (sP rfl rfl), ⟨_, rfl, .string _⟩, (sI rfl), (sL rfl rfl), (sI rfl), zAd rfl (by rw [wrapN (by omega) (by omega)]; omega), tv⟩ ⟨bpo (zAb l), bpo rfl, bpo (zAf _ Pt.cell_plain ps), bpo rfl, tv⟩ .nil
  | rest =>
   rw [hp] at hsd
   refine eI 0 (eI false (eI true (aI hsd ?_)))
   refine ifK (fun hcu => ?_) (fun hcu => ?_)
   ·refine aI (by simp only [inLH, bA, dT]; omega) ?_
    refine eI ((l.drop (o + i.toNat)).take ((e).toNat - i.toNat)) (aI (by rw [h1s]; exact srcs i (e) (o + i.toNat * (Try.prog.types[5]).size) _ _ hi1 (by omega) (by omega) (.inl (by rw [h1s]; omega)) rfl) ?_)
    have eS : bs ⟨((l.drop (o + i.toNat)).take ((e).toNat - i.toNat)).toArray⟩ = (l.drop (o + i.toNat)).take ((e).toNat - i.toNat) := zEq _
    have eL : ((l.drop (o + i.toNat)).take ((e).toNat - i.toNat)).length <= 1000000 := by rw [aU]; omega
    refine aI (zBe (by rw [eS]; have e9 : (bs (k, i, out).2.2).length = (bs out).length := rfl; omega)) ?_
    refine ⟨(k + 1, e, catS out ⟨((l.drop (o + i.toNat)).take ((e).toNat - i.toNat)).toArray⟩), ⟨h1, ⟨by show 0 <= e; omega, by show e <= e; omega⟩, ?_, fun y hy => hinv y (by rw [hst, hp]; refine .rest ?_; have hy : RdP _ a e t (ps.drop (k + 1)) e (bs (catS out ⟨((l.drop (o + i.toNat)).take ((e).toNat - i.toNat)).toArray⟩)) y := hy; rw [zBl, eS, htake _ _ (by omega)] at hy; exact hy)⟩, ?_, ?_⟩
    ·show (bs (catS _ _)).length <= (k + 1) * 1001000
     rw [zBl, eS, aB]; omega
    ·show ps.length - (k + 1) < ps.length - k; omega
    exact rcq [1, 2, 3] ⟨(sL rfl rfl), (sI rfl), (sP rfl rfl), (sI rfl), (sP rfl rfl), ⟨_, rfl, .string _⟩, (sI rfl), (sL rfl rfl), (sI rfl), zAd rfl (by rw [wrapN (by omega) (by omega)]; omega), tv⟩ ⟨bpo (zAb l), bpo rfl, bpo (zAf _ Pt.cell_plain ps), bpo rfl, tv⟩ .nil
   have hcU : c ≠ U := fun e0 => (by subst e0; cases hcu)
   obtain ⟨hc1, hc2⟩ := hcap.resolve_left hcU
   refine aI (by simp only [inLH, bA, dT]; exact ⟨⟨⟨⟨by omega, by omega⟩, by omega⟩, bL hc1⟩, bL (by omega)⟩) ?_
   refine eI ((l.drop (o + i.toNat)).take ((e).toNat - i.toNat)) (aI (by rw [h1s]; exact srcs i (e) (bif c.beq i.toNat then o else o + i.toNat * (Try.prog.types[5]).size) _ _ hi1 (by omega) (by omega) ((by cases hb : c.beq i.toNat with | true => (have hb2 := aA hb; exact .inr (by omega)) | false => exact .inl (by rw [cF, h1s]; omega))) rfl) ?_)
   have eS : bs ⟨((l.drop (o + i.toNat)).take ((e).toNat - i.toNat)).toArray⟩ = (l.drop (o + i.toNat)).take ((e).toNat - i.toNat) := zEq _
   have eL : ((l.drop (o + i.toNat)).take ((e).toNat - i.toNat)).length <= 1000000 := by rw [aU]; omega
   refine aI (zBe (by rw [eS]; have e9 : (bs (k, i, out).2.2).length = (bs out).length := rfl; omega)) ?_
   refine ⟨(k + 1, e, catS out ⟨((l.drop (o + i.toNat)).take ((e).toNat - i.toNat)).toArray⟩), ⟨h1, ⟨by show 0 <= e; omega, by show e <= e; omega⟩, ?_, fun y hy => hinv y (by rw [hst, hp]; refine .rest ?_; have hy : RdP _ a e t (ps.drop (k + 1)) e (bs (catS out ⟨((l.drop (o + i.toNat)).take ((e).toNat - i.toNat)).toArray⟩)) y := hy; rw [zBl, eS, htake _ _ (by omega)] at hy; exact hy)⟩, ?_, ?_⟩
   ·show (bs (catS _ _)).length <= (k + 1) * 1001000
    rw [zBl, eS, aB]; omega
   ·show ps.length - (k + 1) < ps.length - k; omega
   exact rcq [1, 2, 3] ⟨(sL rfl rfl), (sI rfl), (sP rfl rfl), (sI rfl), (sP rfl rfl), ⟨_, rfl, .string _⟩, (sI rfl), (sL rfl rfl), (sI rfl), zAd rfl (by rw [wrapN (by omega) (by omega)]; omega), tv⟩ ⟨bpo (zAb l), bpo rfl, bpo (zAf _ Pt.cell_plain ps), bpo rfl, tv⟩ .nil
  | sz z =>
   rw [hp] at hsd
   refine eI (z : Int) (eI false (eI false (aI hsd ?_)))
   have ew : IntKind.i64.wrap (e - i) = e - i := wrapN (by omega) (by omega)
   refine ifK (fun h3 => ?_) (fun h3 => ?_)
   ·refine aI ?_ ?_
    ·kernel_rfl
    exact aI rfl (zAk (rcq [1] (d := 8) (d2 := 2) (lv := [(8, .string ⟨#[]⟩), (9, pt 1)]) (bs := [(1, .cells [.int .i64 4, .int .i64 a] 48)]) (W := []) (m := 2) (df := []) ⟨⟨_, rfl, .string _⟩, (sP rfl rfl), tv⟩ ⟨bpo rfl, tv⟩ .nil) (fun f => hret _ _ f (by decide) ha1 (by omega) (hinv _ (by rw [hst, hp]; exact .szb (by have h3 := oT h3; rw [ew] at h3; exact h3)))))
   have h3 : ¬ e - i < z := by have h3 := oF h3; rw [ew] at h3; exact h3
   have ey : IntKind.i64.wrap (i + (z : Int)) = i + z := wrapN (by omega) (by omega)
   refine aI ?_ ?_
   ·kernel_rfl
   refine ifK (fun hcu => ?_) (fun hcu => ?_)
   ·refine aI (by simp only [inLH, bA, dT]; omega) ?_
    refine eI ((l.drop (o + i.toNat)).take ((IntKind.i64.wrap (i + (z : Int))).toNat - i.toNat)) (aI (by rw [h1s]; exact srcs i (IntKind.i64.wrap (i + (z : Int))) (o + i.toNat * (Try.prog.types[5]).size) _ _ hi1 (by omega) (by omega) (.inl (by rw [h1s]; omega)) rfl) ?_)
    have eS : bs ⟨((l.drop (o + i.toNat)).take ((IntKind.i64.wrap (i + (z : Int))).toNat - i.toNat)).toArray⟩ = (l.drop (o + i.toNat)).take ((IntKind.i64.wrap (i + (z : Int))).toNat - i.toNat) := zEq _
    have eL : ((l.drop (o + i.toNat)).take ((IntKind.i64.wrap (i + (z : Int))).toNat - i.toNat)).length <= 1000000 := by rw [aU]; omega
    refine aI (zBe (by rw [eS]; have e9 : (bs (k, i, out).2.2).length = (bs out).length := rfl; omega)) ?_
    refine ⟨(k + 1, IntKind.i64.wrap (i + (z : Int)), catS out ⟨((l.drop (o + i.toNat)).take ((IntKind.i64.wrap (i + (z : Int))).toNat - i.toNat)).toArray⟩), ⟨h1, ⟨by show 0 <= IntKind.i64.wrap (i + (z : Int)); omega, by show IntKind.i64.wrap (i + (z : Int)) <= e; omega⟩, ?_, fun y hy => hinv y (by rw [hst, hp]; refine .szc h3 ?_; have hy : RdP _ a e t (ps.drop (k + 1)) (IntKind.i64.wrap (i + (z : Int))) (bs (catS out ⟨((l.drop (o + i.toNat)).take ((IntKind.i64.wrap (i + (z : Int))).toNat - i.toNat)).toArray⟩)) y := hy; rw [zBl, eS, htake _ _ (by omega), ey] at hy; exact hy)⟩, ?_, ?_⟩
    ·show (bs (catS _ _)).length <= (k + 1) * 1001000
     rw [zBl, eS, aB]; omega
    ·show ps.length - (k + 1) < ps.length - k; omega
    exact rcq [1, 2, 3] ⟨(sL rfl rfl), (sI rfl), (sP rfl rfl), (sI rfl), (sP rfl rfl), ⟨_, rfl, .string _⟩, (sI rfl), (sL rfl rfl), (sI rfl), zAd rfl (by rw [wrapN (by omega) (by omega)]; omega), tv⟩ ⟨bpo (zAb l), bpo rfl, bpo (zAf _ Pt.cell_plain ps), bpo rfl, tv⟩ .nil
   have hcU : c ≠ U := fun e0 => (by subst e0; cases hcu)
   obtain ⟨hc1, hc2⟩ := hcap.resolve_left hcU
   refine aI (by simp only [inLH, bA, dT]; exact ⟨⟨⟨⟨by omega, by omega⟩, by omega⟩, bL hc1⟩, bL (by omega)⟩) ?_
   refine eI ((l.drop (o + i.toNat)).take ((IntKind.i64.wrap (i + (z : Int))).toNat - i.toNat)) (aI (by rw [h1s]; exact srcs i (IntKind.i64.wrap (i + (z : Int))) (bif c.beq i.toNat then o else o + i.toNat * (Try.prog.types[5]).size) _ _ hi1 (by omega) (by omega) ((by cases hb : c.beq i.toNat with | true => (have hb2 := aA hb; exact .inr (by omega)) | false => exact .inl (by rw [cF, h1s]; omega))) rfl) ?_)
   have eS : bs ⟨((l.drop (o + i.toNat)).take ((IntKind.i64.wrap (i + (z : Int))).toNat - i.toNat)).toArray⟩ = (l.drop (o + i.toNat)).take ((IntKind.i64.wrap (i + (z : Int))).toNat - i.toNat) := zEq _
   have eL : ((l.drop (o + i.toNat)).take ((IntKind.i64.wrap (i + (z : Int))).toNat - i.toNat)).length <= 1000000 := by rw [aU]; omega
   refine aI (zBe (by rw [eS]; have e9 : (bs (k, i, out).2.2).length = (bs out).length := rfl; omega)) ?_
   refine ⟨(k + 1, IntKind.i64.wrap (i + (z : Int)), catS out ⟨((l.drop (o + i.toNat)).take ((IntKind.i64.wrap (i + (z : Int))).toNat - i.toNat)).toArray⟩), ⟨h1, ⟨by show 0 <= IntKind.i64.wrap (i + (z : Int)); omega, by show IntKind.i64.wrap (i + (z : Int)) <= e; omega⟩, ?_, fun y hy => hinv y (by rw [hst, hp]; refine .szc h3 ?_; have hy : RdP _ a e t (ps.drop (k + 1)) (IntKind.i64.wrap (i + (z : Int))) (bs (catS out ⟨((l.drop (o + i.toNat)).take ((IntKind.i64.wrap (i + (z : Int))).toNat - i.toNat)).toArray⟩)) y := hy; rw [zBl, eS, htake _ _ (by omega), ey] at hy; exact hy)⟩, ?_, ?_⟩
   ·show (bs (catS _ _)).length <= (k + 1) * 1001000
    rw [zBl, eS, aB]; omega
   ·show ps.length - (k + 1) < ps.length - k; omega
   exact rcq [1, 2, 3] ⟨(sL rfl rfl), (sI rfl), (sP rfl rfl), (sI rfl), (sP rfl rfl), ⟨_, rfl, .string _⟩, (sI rfl), (sL rfl rfl), (sI rfl), zAd rfl (by rw [wrapN (by omega) (by omega)]; omega), tv⟩ ⟨bpo (zAb l), bpo rfl, bpo (zAf _ Pt.cell_plain ps), bpo rfl, tv⟩ .nil
 have h1 : ¬ k < ps.length := by have := oF h1; omega
 exact aI rfl (zAk (rcq [1, 99, 3] (d := 8) (d2 := 3) (lv := [(3, .int .i64 t), (9, pt 1), (10, .int .i64 e), (13, pt 3), (14, .string out), (15, .int .i64 i)]) (bs := [(1, .cells [.int .i64 0, .int .i64 0] 48), (3, .cells [.int .i64 4, .int .i64 a] 48)]) (W := []) (m := 4) (df := []) ⟨(sI rfl), (sP rfl rfl), (sI rfl), (sP rfl rfl), ⟨_, rfl, .string _⟩, (sI rfl), tv⟩ ⟨bpo rfl, bpo rfl, tv⟩ .nil) (fun f => hex _ _ f (by omega) (fun y hy => hinv y (by rw [show ps.drop k = [] from bE (by omega)]; exact hy))))
end
section
open Go Go.RowKit
def rdV (y : Bs × Int × Int) : Value := .tuple #[str y.1, .agg #[.int .i64 y.2.1, .int .i64 y.2.2]]
def rdQ (B : Bl) (a z t : Int) (y : Bs × Int × Int) : Prop :=
 if t < 0 \/ t > 65535 \/ z < 0 \/ z > 65535 then y = ([], 2, 0) else if a < 0 \/ a > B.length then y = ([], 5, 0) else if (B.length : Int) - a < z then y = ([], 4, (B.length : Int)) else
 match ptsT t with | none => y = ((B.drop a.toNat).take z.toNat, 0, 0) | some ps => RdP B a (a + z) t ps a [] y
theorem zNe {B : Bl} {a z t : Int} {y y' : Bs × Int × Int} (h : rdQ B a z t y) (k : rdQ B a z t y') : y = y' := by
 unfold rdQ at h k
 split at h
 ·rename_i c; rw [if_pos c] at k; rw [h, k]
 rename_i c; rw [if_neg c] at k
 split at h
 ·rename_i c; rw [if_pos c] at k; rw [h, k]
 rename_i c; rw [if_neg c] at k
 split at h
 ·rename_i c; rw [if_pos c] at k; rw [h, k]
 rename_i c; rw [if_neg c] at k
 cases hp : ptsT t with
 | none => rw [hp] at h k; rw [h, k]
 | some ps => rw [hp] at h k; exact h.det k
def rrR (B : Bl) (a z t : Int) (r : Res) : Prop := ∃ y H m wr, r = .ret (rdV y) H m wr /\ (∀ k ∈ wr, 1 <= k) /\ rdQ B a z t y
theorem zDa {B : Bl} {a z t : Int} (h : t < 0 \/ t > 65535 \/ z < 0 \/ z > 65535) : rdQ B a z t ([], 2, 0) := by unfold rdQ; rw [if_pos h]
theorem zEy {B : Bl} {a z t : Int} (h1 : ¬ (t < 0 \/ t > 65535 \/ z < 0 \/ z > 65535)) (h : a < 0 \/ a > B.length) : rdQ B a z t ([], 5, 0) := by unfold rdQ; rw [if_neg h1, if_pos h]
theorem zKf {B : Bl} {a z t : Int} {n : Nat} (h1 : ¬ (t < 0 \/ t > 65535 \/ z < 0 \/ z > 65535)) (h2 : ¬ (a < 0 \/ a > B.length)) (hn : B.length = n) (h : (n : Int) - a < z) : rdQ B a z t ([], 4, (n : Int)) := by subst hn; unfold rdQ; rw [if_neg h1, if_neg h2, if_pos h]
theorem zFo {B : Bl} {a z t : Int} {ps : List Pt} {y : Bs × Int × Int} (h1 : ¬ (t < 0 \/ t > 65535 \/ z < 0 \/ z > 65535)) (h2 : ¬ (a < 0 \/ a > B.length)) (h3 : ¬ (B.length : Int) - a < z) (hp : ptsT t = some ps) (h : RdP B a (a + z) t ps a [] y) : rdQ B a z t y := by
 unfold rdQ; rw [if_neg h1, if_neg h2, if_neg h3, hp]; exact h
theorem zTy {B : Bl} {a z t : Int} (h1 : ¬ (t < 0 \/ t > 65535 \/ z < 0 \/ z > 65535)) (h2 : ¬ (a < 0 \/ a > B.length)) (h3 : ¬ (B.length : Int) - a < z) (hp : ptsT t = none) : rdQ B a z t ((B.drop a.toNat).take z.toNat, 0, 0) := by
 unfold rdQ; rw [if_neg h1, if_neg h2, if_neg h3, hp]
theorem zUr {t : Int} {s : Bs} (hp : ptsT t = none) (h : 0 <= t /\ t <= 65535) (hs : s.length <= 65535) : checkD t s = 0 := by
 unfold checkD fitsD
 rw [hp, if_neg (by omega), if_neg (by omega)]; rfl
theorem rdread_fn (l : Bl) (o n c : Nat) (a z t : Int) (h : o + n <= l.length) (hn : n <= 1000000) (hcap : c = U \/ n <= c /\ c <= 9223372036854775807) : ∃ r, FnS Try.prog 0 86 [.slice (some ⟨0, o, none⟩) n c, .int .i64 a, .int .i64 z, .int .i64 t] (heap 1 [(0, .win (l.map byV) 1)]) 1 r /\ rrR ((l.drop o).take n) a z t r := by
 have h1s : (Try.prog.types[5]).size = 1 := by kernel_rfl
 cases hp : ptsT t with
 | some ps =>
  obtain ⟨p1, _, p3⟩ := zKc hp
  have p2 : ps.length < 900 := by rcases (ptsT_case hp).2 with ⟨_, q⟩ | q
                                  ·omega
                                  rw [q]; decide
  refine zAu mixed (tbD7 t ps p3) [0] Try.func86 (c := bodyOf Try.f86) (by kernel_rfl) ?_
  refine ifK (fun g => ?_) (fun h1 => ?_)
  ·exact ⟨([], 2, 0), _, _, _, rfl, zAl rfl, zDa (.inl (oT g))⟩
  refine ifK (fun g => ?_) (fun h2 => ?_)
  ·exact ⟨([], 2, 0), _, _, _, rfl, zAl rfl, zDa (.inr (.inl (oT g)))⟩
  refine ifK (fun g => ?_) (fun h3 => ?_)
  ·exact ⟨([], 2, 0), _, _, _, rfl, zAl rfl, zDa (.inr (.inr (.inl (oT g))))⟩
  refine ifK (fun g => ?_) (fun h4 => ?_)
  ·exact ⟨([], 2, 0), _, _, _, rfl, zAl rfl, zDa (.inr (.inr (.inr (oT g))))⟩
  have hN1 : ¬ (t < 0 \/ t > 65535 \/ z < 0 \/ z > 65535) := by have q1 := oF h1; have q2 := oF h2; have q3 := oF h3; have q4 := oF h4; omega
  refine ifK (fun g => ?_) (fun h5 => ?_)
  ·exact ⟨([], 5, 0), _, _, _, rfl, zAl rfl, zEy hN1 (.inl (oT g))⟩
  refine ifK (fun g => ?_) (fun h6 => ?_)
  ·exact ⟨([], 5, 0), _, _, _, rfl, zAl rfl, zEy hN1 (.inr (by rw [lenB h]; exact oT g))⟩
  have h3 : ¬ z < 0 := oF h3
  have h5 : ¬ a < 0 := oF h5
  have h6 : ¬ a > (n : Int) := oF h6
  have e1 : IntKind.i64.wrap ((n : Int) - a) = n - a := wrapN (by omega) (by omega)
  have hN2 : ¬ (a < 0 \/ a > (((l.drop o).take n).length : Int)) := by rw [lenB h]; omega
  refine ifK (fun g => ?_) (fun h7 => ?_)
  ·exact ⟨([], 4, (n : Int)), _, _, _, rfl, zAl rfl, zKf hN1 hN2 (lenB h) (by have g := oT g; rw [e1] at g; exact g)⟩
  have h7 : ¬ (n : Int) - a < z := by have h7 := oF h7; rw [e1] at h7; exact h7
  have hN3 : ¬ (((l.drop o).take n).length : Int) - a < z := by rw [lenB h]; exact h7
  have e2 : IntKind.i64.wrap (a + z) = a + z := wrapN (by omega) (by omega)
  refine aI (by simp) ?_
  refine rr_loop l o n c t a (IntKind.i64.wrap (a + z)) ps p3 p2 h hn hcap ⟨by omega, by omega, by omega⟩ (rcq [1, 2, 3] ⟨(sL rfl rfl), (sI rfl), (sP rfl rfl), (sI rfl), (sP rfl rfl), ⟨_, rfl, .string _⟩, (sI rfl), (sL rfl rfl), (sI rfl), (sI rfl), tv⟩ ⟨bpo (zAb l), bpo rfl, bpo (zAf _ Pt.cell_plain ps), bpo rfl, tv⟩ .nil) (fun er pos f w1 w2 w3 w4 => ?_) (fun i out f hl hO => ?_)
  ·exact ⟨_, _, _, _, rfl, zAl rfl, zFo hN1 hN2 hN3 hp (by rw [e2] at w4; exact w4)⟩
  refine ifK (fun g => ?_) (fun h8 => ?_)
  ·refine aI ?_ ?_
   ·kernel_rfl
   exact ⟨([], 4, a), _, _, _, rfl, zAl rfl, zFo hN1 hN2 hN3 hp (by have := hO _ (.off (fun q => by rw [q.1] at g; simp at g)); rw [e2] at this; exact this)⟩
  refine aI (zKm hl) ?_
  refine ifK (fun h9 => ?_) (fun h9 => ?_)
  ·refine aI ?_ ?_
   ·kernel_rfl
   exact ⟨([], 4, a), _, _, _, rfl, zAl rfl, zFo hN1 hN2 hN3 hp (by have := hO _ (.off (fun q => by rw [q.2] at h9; simp at h9)); rw [e2] at this; exact this)⟩
  have h9 : checkD t (bs out) = 0 := by simpa using h9
  have h8 : i = IntKind.i64.wrap (a + z) := by simpa using h8
  exact ⟨(bs out, 0, 0), _, _, _, (by show _ = Res.ret (.tuple #[str (bs out), .agg #[.int .i64 0, .int .i64 0]]) _ _ _; rw [<- str_mk out]; first | done | rfl), zAl rfl, zFo hN1 hN2 hN3 hp (by have := hO _ (.fin h8 h9); rw [e2] at this; exact this)⟩
 | none =>
  refine zAu mixed (tbD7n t (zOz hp)) [0] Try.func86 (c := bodyOf Try.f86) (by kernel_rfl) ?_
  refine ifK (fun g => ?_) (fun h1 => ?_)
  ·exact ⟨([], 2, 0), _, _, _, rfl, zAl rfl, zDa (.inl (oT g))⟩
  refine ifK (fun g => ?_) (fun h2 => ?_)
  ·exact ⟨([], 2, 0), _, _, _, rfl, zAl rfl, zDa (.inr (.inl (oT g)))⟩
  refine ifK (fun g => ?_) (fun h3 => ?_)
  ·exact ⟨([], 2, 0), _, _, _, rfl, zAl rfl, zDa (.inr (.inr (.inl (oT g))))⟩
  refine ifK (fun g => ?_) (fun h4 => ?_)
  ·exact ⟨([], 2, 0), _, _, _, rfl, zAl rfl, zDa (.inr (.inr (.inr (oT g))))⟩
  have hN1 : ¬ (t < 0 \/ t > 65535 \/ z < 0 \/ z > 65535) := by have q1 := oF h1; have q2 := oF h2; have q3 := oF h3; have q4 := oF h4; omega
  refine ifK (fun g => ?_) (fun h5 => ?_)
  ·exact ⟨([], 5, 0), _, _, _, rfl, zAl rfl, zEy hN1 (.inl (oT g))⟩
  refine ifK (fun g => ?_) (fun h6 => ?_)
  ·exact ⟨([], 5, 0), _, _, _, rfl, zAl rfl, zEy hN1 (.inr (by rw [lenB h]; exact oT g))⟩
  have h1 : ¬ t < 0 := oF h1
  have h2 : ¬ t > 65535 := oF h2
  have h3 : ¬ z < 0 := oF h3
  have h4 : ¬ z > 65535 := oF h4
  have h5 : ¬ a < 0 := oF h5
  have h6 : ¬ a > (n : Int) := oF h6
  have e1 : IntKind.i64.wrap ((n : Int) - a) = n - a := wrapN (by omega) (by omega)
  have hN2 : ¬ (a < 0 \/ a > (((l.drop o).take n).length : Int)) := by rw [lenB h]; omega
  refine ifK (fun g => ?_) (fun h7 => ?_)
  ·exact ⟨([], 4, (n : Int)), _, _, _, rfl, zAl rfl, zKf hN1 hN2 (lenB h) (by have g := oT g; rw [e1] at g; exact g)⟩
  have h7 : ¬ (n : Int) - a < z := by have h7 := oF h7; rw [e1] at h7; exact h7
  have hN3 : ¬ (((l.drop o).take n).length : Int) - a < z := by rw [lenB h]; exact h7
  have e2 : IntKind.i64.wrap (a + z) = a + z := wrapN (by omega) (by omega)
  have eS : bs ⟨((l.drop (o + a.toNat)).take ((IntKind.i64.wrap (a + z)).toNat - a.toNat)).toArray⟩ = (l.drop (o + a.toNat)).take ((IntKind.i64.wrap (a + z)).toNat - a.toNat) := zEq _
  have eL : ((l.drop (o + a.toNat)).take ((IntKind.i64.wrap (a + z)).toNat - a.toNat)).length <= 65535 := by rw [aU, e2]; omega
  have fin : rdQ ((l.drop o).take n) a z t ((l.drop (o + a.toNat)).take ((IntKind.i64.wrap (a + z)).toNat - a.toNat), 0, 0) := by
   have := zTy hN1 hN2 hN3 hp
   rw [List.drop_take, List.take_take, List.drop_drop, Nat.min_eq_left (by omega)] at this
   rw [e2, show (a + z).toNat - a.toNat = z.toNat by omega]; exact this
  have srcs : ∀ (o' c' : Nat) (G : Gh), (o' = o + a.toNat \/ (IntKind.i64.wrap (a + z)).toNat - a.toNat = 0) -> G 0 = some (.win (l.map byV) 1) -> zAj G 1 (.slice (some ⟨0, o', none⟩) ((IntKind.i64.wrap (a + z)).toNat - a.toNat) c') = some ((IntKind.i64.wrap (a + z)).toNat - a.toNat, (((l.drop (o + a.toNat)).take ((IntKind.i64.wrap (a + z)).toNat - a.toNat)).map fun b : UInt8 => Value.int .u8 (b.toNat : Int))) := fun o' c' G ho hG => by
   rw [e2]
   rw [e2] at ho
   unfold zAj
   by_cases hz : (a + z).toNat - a.toNat = 0
   ·rw [hz]; simp
   have ho := ho.resolve_right hz
   subst ho
   have : ((a + z).toNat - a.toNat).beq 0 = false := by cases hb : ((a + z).toNat - a.toNat).beq 0; rfl; exact ab (aA hb) hz
   simp only [this, cF, hG, Option.bind_some, AObj.look]
   rw [bL (by simp; omega)]
   simp only [cT, aR, List.map_take, List.map_drop]; rfl
  refine aI (by simp) ?_
  refine ifK (fun hcu => ?_) (fun hcu => ?_)
  ·refine aI (by rw [e2]; simp only [inLH, bA, dT]; omega) ?_
   refine eI ((l.drop (o + a.toNat)).take ((IntKind.i64.wrap (a + z)).toNat - a.toNat)) (aI (by rw [h1s]; exact srcs _ _ _ (.inl (by rw [aR])) rfl) ?_)
   exact ⟨((l.drop (o + a.toNat)).take ((IntKind.i64.wrap (a + z)).toNat - a.toNat), 0, 0), _, _, _, rfl, zAl rfl, fin⟩
  have hcU : c ≠ U := fun e0 => (by subst e0; cases hcu)
  obtain ⟨hc1, hc2⟩ := hcap.resolve_left hcU
  refine aI (by rw [e2]; simp only [inLH, bA, dT]; exact ⟨⟨⟨⟨by omega, by omega⟩, by omega⟩, bL hc1⟩, bL (by omega)⟩) ?_
  refine eI ((l.drop (o + a.toNat)).take ((IntKind.i64.wrap (a + z)).toNat - a.toNat)) (aI (by rw [h1s]; exact srcs _ _ _ (by rw [aR]; cases hb : c.beq a.toNat with | true => (have hb2 := aA hb; rw [e2]; exact .inr (by omega)) | false => exact .inl rfl) rfl) ?_)
  exact ⟨((l.drop (o + a.toNat)).take ((IntKind.i64.wrap (a + z)).toNat - a.toNat), 0, 0), _, _, _, rfl, zAl rfl, fin⟩
end
section
open Go Go.RowKit
noncomputable def cq_rdread : CtQ Try.prog :=
 { f := 86, X := RdB × Int × Int × Int, pre := fun x a H _ => a = [x.1.sl, .int .i64 x.2.1, .int .i64 x.2.2.1, .int .i64 x.2.2.2] /\ x.1.at H /\ x.1.n <= 1000000 /\ (x.1.c = U \/ x.1.n <= x.1.c /\ x.1.c <= 9223372036854775807), Q := fun x v => ∃ y, v = rdV y /\ rdQ x.1.B x.2.1 x.2.2.1 x.2.2.2 y,
   ok := fun ⟨⟨b, o, n, c, l⟩, i, z, t⟩ a H m ⟨h1, h2, h3, h4⟩ => by
    subst h1
    obtain ⟨r, hF, y, H', m', wr, rfl, hw, hq⟩ := rdread_fn l o n c i z t h2.2 h3 h4
    exact ⟨rdV y, zCn [b] hF hw zGh (.cons _ _ _ _ (.sl _ _ _ _ _ rfl) (zCg rfl)) (zDe h2.1 (zAb l)) rfl, y, rfl, hq⟩,
   uniq := fun ⟨x, i, z, t⟩ ⟨y, i', z', t'⟩ a H m ⟨h1, h2, _⟩ ⟨k1, k2, _⟩ => by
    rw [h1] at k1
    simp only [aQ, Value.int.injEq, true_and, and_true] at k1
    obtain ⟨e1, rfl, rfl, rfl⟩ := k1
    rw [RdB.uniq e1 h2 k2] }
noncomputable def zUw : Ct Try.prog 0 := cq_rdread.ctY (Bs × Int × Int) rdV (fun (x : RdB × Int × Int × Int) y => rdQ x.1.B x.2.1 x.2.2.1 x.2.2.2 y) (fun _ _ h => h)
noncomputable def ct_wreadY : Ct Try.prog 0 := zSu.ctY RR rrV (fun (x : RdB × Int) r => rdOk x.1.B x.2 r) (fun _ _ h => h)
theorem RdP.fine {B : Bl} {a e t : Int} {ps : List Pt} {i : Int} {out : Bs} {y : Bs × Int × Int} (h : RdP B a e t ps i out y) (ha : 0 <= a /\ a <= B.length) : (y.2.1 ≠ 0 -> y.1 = [] /\ 0 <= y.2.2 /\ y.2.2 <= B.length) /\ (y.2.1 = 0 -> y.2.2 = 0 /\ checkD t y.1 = 0) := by
 induction h with
 | fin h1 h2 => exact ⟨fun e => ab rfl e, fun _ => ⟨rfl, h2⟩⟩
 | off h => exact ⟨fun _ => ⟨rfl, ha⟩, fun e => by cases e⟩
 | nmb h he => exact ⟨fun _ => ⟨rfl, h.fine.1 he⟩, fun e => ab e he⟩
 | nmo h he h2 => exact ⟨fun _ => ⟨rfl, ha⟩, fun e => by cases e⟩
 | nmc _ _ _ _ ih => exact ih
 | rest _ ih => exact ih
 | szb h => exact ⟨fun _ => ⟨rfl, ha⟩, fun e => by cases e⟩
 | szc _ _ ih => exact ih
theorem rdQ.fine {B : Bl} {a z t : Int} {y : Bs × Int × Int} (h : rdQ B a z t y) : (y.2.1 ≠ 0 -> y.1 = [] /\ 0 <= y.2.2 /\ y.2.2 <= B.length) /\ (y.2.1 = 0 -> y.2.2 = 0 /\ checkD t y.1 = 0 /\ 0 <= z /\ a + z <= B.length) := by
 unfold rdQ at h
 split at h
 ·subst h; exact ⟨fun _ => ⟨rfl, Int.le_refl _, Int.natCast_nonneg _⟩, fun e => by cases e⟩
 split at h
 ·subst h; exact ⟨fun _ => ⟨rfl, Int.le_refl _, Int.natCast_nonneg _⟩, fun e => by cases e⟩
 split at h
 ·subst h; exact ⟨fun _ => ⟨rfl, Int.natCast_nonneg _, Int.le_refl _⟩, fun e => by cases e⟩
 cases hp : ptsT t with
 | none =>
  rw [hp] at h
  subst h
  exact ⟨fun e => ab rfl e, fun _ => ⟨rfl, zUr hp (by omega) (by rw [aU]; omega), by omega, by omega⟩⟩
 | some ps =>
  rw [hp] at h
  obtain ⟨q1, q2⟩ := RdP.fine h (by omega)
  exact ⟨q1, fun e => ⟨(q2 e).1, (q2 e).2, by omega, by omega⟩⟩
end
section
open Go Go.RowKit
noncomputable def baseR8 : List (Ct Try.prog 0) := [ct_wreadY, zSv, ct_get32, zUw]
noncomputable def inl_takes : Ct Try.prog 0 := Ct.inl (tbOf mixed baseR8) mixed [0] 100 Try.f100 Try.func100 (bodyOf Try.f100) (by kernel_rfl)
noncomputable def tbR8a : Tb Try.prog 0 := tbOf mixed (inl_takes :: baseR8)
noncomputable def inl_name : Ct Try.prog 0 := Ct.inl tbR8a mixed [0] 83 Try.f83 Try.func83 (bodyOf Try.f83) (by kernel_rfl)
noncomputable def inl_two : Ct Try.prog 0 := Ct.inl tbR8a mixed [0] 84 Try.f84 Try.func84 (bodyOf Try.f84) (by kernel_rfl)
noncomputable def inl_four : Ct Try.prog 0 := Ct.inl tbR8a mixed [0] 85 Try.f85 Try.func85 (bodyOf Try.f85) (by kernel_rfl)
noncomputable def tbR8 : Tb Try.prog 0 := tbOf mixed (inl_name :: inl_two :: inl_four :: baseR8)
def numAt (B : Bl) (k sz : Nat) : Nat := beN ((B.drop k).take sz)
def recBad (e p : Int) : Value := .tuple #[.agg #[.string ⟨#[]⟩, .int .i64 0, .int .i64 0, .int .i64 0, .string ⟨#[]⟩], .int .i64 0, .agg #[.int .i64 e, .int .i64 p]]
def zRv (s : Bl) (t c ttl : Nat) (d : Bs) (next : Int) : Value := .tuple #[.agg #[str s, .int .i64 t, .int .i64 c, .int .i64 (if ttl > 2147483647 then 0 else (ttl : Int)), str d], .int .i64 next, .agg #[.int .i64 0, .int .i64 0]]
def queBad (e p : Int) : Value := .tuple #[.agg #[.string ⟨#[]⟩, .int .i64 0, .int .i64 0], .int .i64 0, .agg #[.int .i64 e, .int .i64 p]]
def queGood (s : Bl) (t c : Nat) (next : Int) : Value := .tuple #[.agg #[str s, .int .i64 t, .int .i64 c], .int .i64 next, .agg #[.int .i64 0, .int .i64 0]]
inductive recQ (B : Bl) (a : Int) : Value -> Prop
 | name {r : RR} (h : rdOk B a r) (he : r.e ≠ 0) : recQ B a (recBad r.e r.pos)
 | short {r : RR} {k : Nat} (h : rdOk B a r) (he : r.e = 0) (hk : r.next = k) (hl : B.length < k + 10) : recQ B a (recBad 4 (B.length : Int))
 | data {r : RR} {k : Nat} {y : Bs × Int × Int} (h : rdOk B a r) (he : r.e = 0) (hk : r.next = k) (hl : k + 10 <= B.length) (hy : rdQ B (k + 10 : Nat) (numAt B (k + 8) 2) (numAt B k 2) y) (hf : y.2.1 ≠ 0) : recQ B a (recBad y.2.1 y.2.2)
 | fine {r : RR} {k : Nat} {y : Bs × Int × Int} (h : rdOk B a r) (he : r.e = 0) (hk : r.next = k) (hl : k + 10 <= B.length) (hy : rdQ B (k + 10 : Nat) (numAt B (k + 8) 2) (numAt B k 2) y) (hf : y.2.1 = 0) : recQ B a (zRv r.s (numAt B k 2) (numAt B (k + 2) 2) (numAt B (k + 4) 4) y.1 ((k + 10 : Nat) + (numAt B (k + 8) 2 : Int)))
theorem recQ.det {B : Bl} {a : Int} {v v' : Value} (h : recQ B a v) (k : recQ B a v') : v = v' := by
 cases h with
 | name h he => cases k with
  | name h' => rw [zAn h h']
  | short h' he' => rw [zAn h h'] at he; exact ab he' he
  | data h' he' => rw [zAn h h'] at he; exact ab he' he
  | fine h' he' => rw [zAn h h'] at he; exact ab he' he
 | short h he hk hl => cases k with
  | name h' he' => rw [zAn h h'] at he; exact ab he he'
  | short => rfl
  | data h' _ hk' hl' => rw [zAn h h', hk'] at hk; omega
  | fine h' _ hk' hl' => rw [zAn h h', hk'] at hk; omega
 | data h he hk hl hy hf => cases k with
  | name h' he' => rw [zAn h h'] at he; exact ab he he'
  | short h' _ hk' hl' => rw [zAn h h', hk'] at hk; omega
  | data h' _ hk' _ hy' => rw [zAn h h', hk'] at hk; have hk := Int.ofNat.inj hk; subst hk; rw [zNe hy hy']
  | fine h' _ hk' _ hy' hf' => rw [zAn h h', hk'] at hk; have hk := Int.ofNat.inj hk; subst hk; rw [zNe hy hy'] at hf; exact ab hf' hf
 | fine h he hk hl hy hf => cases k with
  | name h' he' => rw [zAn h h'] at he; exact ab he he'
  | short h' _ hk' hl' => rw [zAn h h', hk'] at hk; omega
  | data h' _ hk' _ hy' hf' => rw [zAn h h', hk'] at hk; have hk := Int.ofNat.inj hk; subst hk; rw [zNe hy hy'] at hf; exact ab hf hf'
  | fine h' _ hk' _ hy' => have e := zAn h h'; subst e; rw [hk'] at hk; have hk := Int.ofNat.inj hk; subst hk; rw [zNe hy hy']
inductive queQ (B : Bl) (a : Int) : Value -> Prop
 | name {r : RR} (h : rdOk B a r) (he : r.e ≠ 0) : queQ B a (queBad r.e r.pos)
 | short {r : RR} {k : Nat} (h : rdOk B a r) (he : r.e = 0) (hk : r.next = k) (hl : B.length < k + 4) : queQ B a (queBad 4 (B.length : Int))
 | fine {r : RR} {k : Nat} (h : rdOk B a r) (he : r.e = 0) (hk : r.next = k) (hl : k + 4 <= B.length) : queQ B a (queGood r.s (numAt B k 2) (numAt B (k + 2) 2) ((k + 4 : Nat) : Int))
theorem queQ.det {B : Bl} {a : Int} {v v' : Value} (h : queQ B a v) (k : queQ B a v') : v = v' := by
 cases h with
 | name h he => cases k with
  | name h' => rw [zAn h h']
  | short h' he' => rw [zAn h h'] at he; exact ab he' he
  | fine h' he' => rw [zAn h h'] at he; exact ab he' he
 | short h he hk hl => cases k with
  | name h' he' => rw [zAn h h'] at he; exact ab he he'
  | short => rfl
  | fine h' _ hk' hl' => rw [zAn h h', hk'] at hk; omega
 | fine h he hk hl => cases k with
  | name h' he' => rw [zAn h h'] at he; exact ab he he'
  | short h' _ hk' hl' => rw [zAn h h', hk'] at hk; omega
  | fine h' _ hk' => have e := zAn h h'; subst e; rw [hk'] at hk; have hk := Int.ofNat.inj hk; subst hk; rfl
theorem zRu (l : Bl) (o n c : Nat) (i : Int) (h : o + n <= l.length) (hn : n <= 1000000) (hcap : c = U \/ n <= c /\ c <= 9223372036854775807) : ∃ r, FnS Try.prog 0 62 [.slice (some ⟨0, o, none⟩) n c, .int .i64 i] (heap 1 [(0, .win (l.map byV) 1)]) 1 r /\ ∃ v H m wr, r = .ret v H m wr /\ (∀ k ∈ wr, 1 <= k) /\ plainV 8 v = true /\ queQ ((l.drop o).take n) i v := by
 have hB := lenB h
 have htake : ∀ j m : Nat, j + m <= n -> numAt ((l.drop o).take n) j m = beN ((l.drop (o + j)).take m) := fun j m hjm => by unfold numAt; rw [List.drop_take, List.take_take, List.drop_drop, Nat.min_eq_left (by omega)]
 refine zAu mixed tbR8 [0] Try.func62 (c := bodyOf Try.f62) (by kernel_rfl) ?_
 refine aI ?_ ?_
 ·kernel_rfl
 refine eI (⟨0, o, n, c, l⟩, i) (aI ⟨rfl, ⟨rfl, h⟩, (by show n <= _; omega), hcap⟩ ?_)
 intro r hr
 obtain ⟨s, nx, e, pos⟩ := r
 have hr : rdOk ((l.drop o).take n) i ⟨s, nx, e, pos⟩ := hr
 refine ifK (fun g => ?_) (fun g => ?_)
 ·have g : e ≠ 0 := by simpa using g
  have gz : (e == 0) = true -> False := fun q => g (by simpa using q)
  refine ifK (fun q => (gz q).elim) (fun _ => ?_)
  refine ifK (fun q => (gz q).elim) (fun _ => ?_)
  refine ifK (fun _ => ?_) (fun q => ab q (by simpa using g))
  refine aI ?_ ?_
  ·kernel_rfl
  exact ⟨queBad e pos, _, _, _, rfl, zAl rfl, rfl, .name hr g⟩
 have g : e = 0 := by simpa using g
 subst g
 obtain ⟨q1, q2, _⟩ := hr.fine.2 rfl
 have q1 : 0 <= nx := q1
 have q2 : nx <= (((l.drop o).take n).length : Int) := q2
 rw [hB] at q2
 obtain ⟨k, rfl⟩ := Int.eq_ofNat_of_zero_le q1
 refine aI ?_ ?_
 ·kernel_rfl
 refine eI (⟨0, o, n, c, l⟩, ((k + 0 : Nat) : Int)) (aI ⟨rfl, ⟨rfl, h⟩, (by show n <= _; omega)⟩ ?_)
 refine ifK (fun q => ab q (by simp only [Bool.or_eq_true, dT]; omega)) (fun _ => ?_)
 refine ifK (fun s0 => ?_) (fun s0 => ?_)
 rotate_left
 ·have s0 : ¬ k + 2 <= n := fun e => by rw [show Nat.ble (((k + 0 : Nat) : Int).toNat + 2) n = true from bL e] at s0; cases s0
  refine aI ?_ ?_
  ·kernel_rfl
  exact ⟨queBad 4 (n : Int), _, _, _, rfl, zAl rfl, rfl, by have := queQ.short hr rfl rfl (show ((l.drop o).take n).length < _ by rw [hB]; omega); rw [hB] at this; exact this⟩
 have s0 : k + 2 <= n := aE s0
 refine aI ?_ ?_
 ·kernel_rfl
 refine eI (⟨0, o, n, c, l⟩, ((k + 2 : Nat) : Int)) (aI ⟨rfl, ⟨rfl, h⟩, (by show n <= _; omega)⟩ ?_)
 refine ifK (fun q => ab q (by simp only [Bool.or_eq_true, dT]; omega)) (fun _ => ?_)
 refine ifK (fun s2 => ?_) (fun s2 => ?_)
 rotate_left
 ·have s2 : ¬ k + 4 <= n := fun e => by rw [show Nat.ble (((k + 2 : Nat) : Int).toNat + 2) n = true from bL e] at s2; cases s2
  refine aI ?_ ?_
  ·kernel_rfl
  exact ⟨queBad 4 (n : Int), _, _, _, rfl, zAl rfl, rfl, by have := queQ.short hr rfl rfl (show ((l.drop o).take n).length < _ by rw [hB]; omega); rw [hB] at this; exact this⟩
 have s2 : k + 4 <= n := aE s2
 refine aI ?_ ?_
 ·kernel_rfl
 have fin := queQ.fine hr rfl rfl (show k + 4 <= ((l.drop o).take n).length by rw [hB]; omega)
 rw [htake k 2 (by omega), htake (k + 2) 2 (by omega)] at fin
 exact ⟨_, _, _, _, rfl, zAl rfl, rfl, fin⟩
theorem zVn (l : Bl) (o n c : Nat) (i : Int) (h : o + n <= l.length) (hn : n <= 1000000) (hcap : c = U \/ n <= c /\ c <= 9223372036854775807) : ∃ r, FnS Try.prog 0 63 [.slice (some ⟨0, o, none⟩) n c, .int .i64 i] (heap 1 [(0, .win (l.map byV) 1)]) 1 r /\ ∃ v H m wr, r = .ret v H m wr /\ (∀ k ∈ wr, 1 <= k) /\ plainV 8 v = true /\ recQ ((l.drop o).take n) i v := by
 have hB := lenB h
 have htake : ∀ j m : Nat, j + m <= n -> numAt ((l.drop o).take n) j m = beN ((l.drop (o + j)).take m) := fun j m hjm => by unfold numAt; rw [List.drop_take, List.take_take, List.drop_drop, Nat.min_eq_left (by omega)]
 refine zAu mixed tbR8 [0] Try.func63 (c := bodyOf Try.f63) (by kernel_rfl) ?_
 refine aI ?_ ?_
 ·kernel_rfl
 refine eI (⟨0, o, n, c, l⟩, i) (aI ⟨rfl, ⟨rfl, h⟩, (by show n <= _; omega), hcap⟩ ?_)
 intro r hr
 obtain ⟨s, nx, e, pos⟩ := r
 have hr : rdOk ((l.drop o).take n) i ⟨s, nx, e, pos⟩ := hr
 refine ifK (fun g => ?_) (fun g => ?_)
 ·have g : e ≠ 0 := by simpa using g
  have gz : (e == 0) = true -> False := fun q => g (by simpa using q)
  refine ifK (fun q => (gz q).elim) (fun _ => ?_)
  refine ifK (fun q => (gz q).elim) (fun _ => ?_)
  refine ifK (fun q => (gz q).elim) (fun _ => ?_)
  refine ifK (fun q => (gz q).elim) (fun _ => ?_)
  refine ifK (fun _ => ?_) (fun q => ab q (by simpa using g))
  refine aI ?_ ?_
  ·kernel_rfl
  exact ⟨recBad e pos, _, _, _, rfl, zAl rfl, rfl, .name hr g⟩
 have g : e = 0 := by simpa using g
 subst g
 obtain ⟨q1, q2, _⟩ := hr.fine.2 rfl
 have q1 : 0 <= nx := q1
 have q2 : nx <= (((l.drop o).take n).length : Int) := q2
 rw [hB] at q2
 obtain ⟨k, rfl⟩ := Int.eq_ofNat_of_zero_le q1
 refine aI ?_ ?_
 ·kernel_rfl
 refine eI (⟨0, o, n, c, l⟩, ((k + 0 : Nat) : Int)) (aI ⟨rfl, ⟨rfl, h⟩, (by show n <= _; omega)⟩ ?_)
 refine ifK (fun q => ab q (by simp only [Bool.or_eq_true, dT]; omega)) (fun _ => ?_)
 refine ifK (fun s0 => ?_) (fun s0 => ?_)
 rotate_left
 ·have s0 : ¬ k + 2 <= n := fun e => by rw [show Nat.ble (((k + 0 : Nat) : Int).toNat + 2) n = true from bL e] at s0; cases s0
  refine aI ?_ ?_
  ·kernel_rfl
  exact ⟨recBad 4 (n : Int), _, _, _, rfl, zAl rfl, rfl, by have := recQ.short hr rfl rfl (show ((l.drop o).take n).length < _ by rw [hB]; omega); rw [hB] at this; exact this⟩
 have s0 : k + 2 <= n := aE s0
 refine aI ?_ ?_
 ·kernel_rfl
 refine eI (⟨0, o, n, c, l⟩, ((k + 2 : Nat) : Int)) (aI ⟨rfl, ⟨rfl, h⟩, (by show n <= _; omega)⟩ ?_)
 refine ifK (fun q => ab q (by simp only [Bool.or_eq_true, dT]; omega)) (fun _ => ?_)
 refine ifK (fun s2 => ?_) (fun s2 => ?_)
 rotate_left
 ·have s2 : ¬ k + 4 <= n := fun e => by rw [show Nat.ble (((k + 2 : Nat) : Int).toNat + 2) n = true from bL e] at s2; cases s2
  refine aI ?_ ?_
  ·kernel_rfl
  exact ⟨recBad 4 (n : Int), _, _, _, rfl, zAl rfl, rfl, by have := recQ.short hr rfl rfl (show ((l.drop o).take n).length < _ by rw [hB]; omega); rw [hB] at this; exact this⟩
 have s2 : k + 4 <= n := aE s2
 refine aI ?_ ?_
 ·kernel_rfl
 refine eI (⟨0, o, n, c, l⟩, ((k + 4 : Nat) : Int)) (aI ⟨rfl, ⟨rfl, h⟩, (by show n <= _; omega)⟩ ?_)
 refine ifK (fun q => ab q (by simp only [Bool.or_eq_true, dT]; omega)) (fun _ => ?_)
 refine ifK (fun s4 => ?_) (fun s4 => ?_)
 rotate_left
 ·have s4 : ¬ k + 8 <= n := fun e => by rw [show Nat.ble (((k + 4 : Nat) : Int).toNat + 4) n = true from bL e] at s4; cases s4
  refine aI ?_ ?_
  ·kernel_rfl
  exact ⟨recBad 4 (n : Int), _, _, _, rfl, zAl rfl, rfl, by have := recQ.short hr rfl rfl (show ((l.drop o).take n).length < _ by rw [hB]; omega); rw [hB] at this; exact this⟩
 have s4 : k + 8 <= n := aE s4
 refine aI ?_ ?_
 ·kernel_rfl
 refine eI (⟨0, o, n, c, l⟩, ((k + 8 : Nat) : Int)) (aI ⟨rfl, ⟨rfl, h⟩, (by show n <= _; omega)⟩ ?_)
 refine ifK (fun q => ab q (by simp only [Bool.or_eq_true, dT]; omega)) (fun _ => ?_)
 refine ifK (fun s8 => ?_) (fun s8 => ?_)
 rotate_left
 ·have s8 : ¬ k + 10 <= n := fun e => by rw [show Nat.ble (((k + 8 : Nat) : Int).toNat + 2) n = true from bL e] at s8; cases s8
  refine aI ?_ ?_
  ·kernel_rfl
  exact ⟨recBad 4 (n : Int), _, _, _, rfl, zAl rfl, rfl, by have := recQ.short hr rfl rfl (show ((l.drop o).take n).length < _ by rw [hB]; omega); rw [hB] at this; exact this⟩
 have s8 : k + 10 <= n := aE s8
 refine aI ?_ ?_
 ·kernel_rfl
 refine eI (⟨0, o, n, c, l⟩, ((k + 10 : Nat) : Int), (beN ((l.drop (o + (k + 8))).take 2) : Int), (beN ((l.drop (o + k)).take 2) : Int)) (aI ⟨rfl, ⟨rfl, h⟩, (by show n <= _; omega), hcap⟩ ?_)
 intro y hy
 have hy : rdQ ((l.drop o).take n) ((k + 10 : Nat) : Int) (beN ((l.drop (o + (k + 8))).take 2) : Int) (beN ((l.drop (o + k)).take 2) : Int) y := hy
 have hy2 := hy
 rw [<- htake (k + 8) 2 (by omega), <- htake k 2 (by omega)] at hy2
 have hl : k + 10 <= ((l.drop o).take n).length := by rw [hB]; omega
 refine ifK (fun g => ?_) (fun g => ?_)
 ·have g : y.2.1 ≠ 0 := by simpa using g
  refine aI ?_ ?_
  ·kernel_rfl
  exact ⟨recBad y.2.1 y.2.2, _, _, _, rfl, zAl rfl, rfl, .data hr rfl rfl hl hy2 g⟩
 have g : y.2.1 = 0 := by simpa using g
 have fin := recQ.fine hr rfl rfl hl hy2 g
 have hy3 := (hy.fine.2 g).2.2.2
 rw [hB] at hy3
 rw [htake k 2 (by omega), htake (k + 2) 2 (by omega), htake (k + 4) 4 (by omega), htake (k + 8) 2 (by omega)] at fin
 have ew : IntKind.i64.wrap (((k + 10 : Nat) : Int) + (beN ((l.drop (o + (k + 8))).take 2) : Int)) = ((k + 10 : Nat) : Int) + (beN ((l.drop (o + (k + 8))).take 2) : Int) := wrapM (by omega) (by omega)
 unfold zRv at fin
 refine ifK (fun g2 => ?_) (fun g2 => ?_)
 ·have g2 : (beN ((l.drop (o + (k + 4))).take 4) : Int) > 2147483647 := oT g2
  rw [if_pos (by omega)] at fin
  refine aI ?_ ?_
  ·kernel_rfl
  rw [<- ew] at fin
  exact ⟨_, _, _, _, rfl, zAl rfl, rfl, fin⟩
 have g2 : ¬ (beN ((l.drop (o + (k + 4))).take 4) : Int) > 2147483647 := oF g2
 rw [if_neg (by omega)] at fin
 refine aI ?_ ?_
 ·kernel_rfl
 rw [<- ew] at fin
 exact ⟨_, _, _, _, rfl, zAl rfl, rfl, fin⟩
end
section
open Go Go.RowKit
noncomputable def tbW6 : Tb Try.prog 0 := tbOf mixed []
def wr6 (o n c : Nat) (l : Bl) (a : Nat) (x : Nat × Nat × Bl × Int) (f : Nat -> Option Value) : Fs :=
 match x with
 | (p, i, out, bh) => ⟨slots 7 [(0, .slice (some ⟨0, o, none⟩) n c), (1, .int .i64 a), (6, pt 1), (7, pt 2), (8, .string ⟨out.toArray⟩), (9, .int .i64 bh), (10, .int .i64 p), (11, .int .i64 i)] f,
   heap 2 [(0, .win (l.map byV) 1), (1, .cells [.int .i64 0, .int .i64 0] 48), (2, .cells [.int .i64 4, .int .i64 n] 48)], 3, [], []⟩
theorem zVp (l : Bl) (o n c a : Nat) (h : o + n <= l.length) (hn : n <= 1000000000) (hcap : c = U \/ n <= c /\ c <= 9223372036854775807) (ha : a <= n) {s0 : Fs} {K : Ex -> Fs -> Prop}
  (h0 : ∃ f, RcM Try.prog 0 1 (2 + (Try.f88.ntmps - 2)) none s0 (wr6 o n c l a (a, a, [], -1) f))
  (hret : ∀ s nx e pos f, Rd ((l.drop o).take n) a a a [] (-1) ⟨s, nx, e, pos⟩ -> K .ret ⟨slots 7 [(4, .string ⟨s.toArray⟩), (5, .int .i64 nx), (6, pt 1)] f, heap 2 [(1, .cells [.int .i64 e, .int .i64 pos] 48)], 2, [], []⟩) :
  LW Try.prog 0 1 (2 + (Try.f88.ntmps - 2)) none (loopAt Try.f88 0) s0 K := by
 obtain ⟨B, hB⟩ : ∃ B, B = (l.drop o).take n := ⟨_, rfl⟩
 have hlB : B.length = n := by rw [hB]; exact lenB h
 have hcell : ∀ i, i < n -> (l.map byV)[o + i * 1]? = some (.int .u8 (cB B i : Int)) := fun i hi => by rw [hB]; exact cellB h hi
 have htake : ∀ i k, i + k <= n -> (l.drop (o + i)).take k = (B.drop i).take k := fun i k hik => by rw [hB]; exact takeB hik
 rw [<- hB] at hret
 refine zAv (wr6 o n c l a) (muR n) (fun x => x.1 <= n /\ x.2.1 <= n /\ x.2.2.1.length <= 254 /\ (-1 <= x.2.2.2 /\ x.2.2.2 <= n) /\ ∀ r, Rd B a x.1 x.2.1 x.2.2.1 x.2.2.2 r -> Rd B a a a [] (-1) r) (a, a, [], -1) ⟨ha, ha, by simp, ⟨by simp, by show (-1 : Int) <= n; omega⟩, fun r hr => hr⟩ h0 ?_
 rintro ⟨p, i, out, bh⟩ f ⟨hp, hi, hout, ⟨hb1, hb2⟩, hinv⟩
 have hp : p <= n := hp
 have hi : i <= n := hi
 have hout : out.length <= 254 := hout
 have hb1 : -1 <= bh := hb1
 have hb2 : bh <= n := hb2
 have hinv : ∀ r, Rd B a p i out bh r -> Rd B a a a [] (-1) r := hinv
 have hb := cB_lt B i
 have h1s : (Try.prog.types[5]).size = 1 := by kernel_rfl
 refine zAs tbW6 [0] 1 _ none mixed _ _ _ ?_
 refine ifK (fun h1 => ?_) (fun h1 => ?_)
 ·have h1 : n <= i := by have := oT h1; omega
  refine aI ?_ ?_
  ·kernel_rfl
  have fin := hinv _ (.over (by omega))
  rw [hlB] at fin
  exact aI rfl (zAk (rcq [1] (d := 7) (d2 := 2) (lv := [(4, .string ⟨([]).toArray⟩), (5, .int .i64 (0)), (6, pt 1)]) (bs := [(1, .cells [.int .i64 (4), .int .i64 ((n : Int))] 48)]) (W := []) (m := 2) (df := []) ⟨⟨_, rfl, .string _⟩, (sI rfl), (sP rfl rfl), tv⟩ ⟨bpo rfl, tv⟩ .nil) (fun f => hret _ _ _ _ f fin))
 have h1 : i < n := by have := oF h1; omega
 refine ifK (fun _ => ?_) (fun h2 => ab h2 (by simp [inI]; omega))
 refine eI (cB B i : Int) (aI (by rw [h1s, aO]; exact hcell i h1) ?_)
 have ec : IntKind.i64.wrap (cB B i : Int) = (cB B i : Int) := wrapM (by omega) (by omega)
 refine ifK (fun h2 => ?_) (fun h2 => ?_)
 ·have h2 : cB B i = 0 := by rw [ec] at h2; have h9 : (cB B i : Int) = 0 := (by simpa using h2); omega
  refine ifK (fun h3 => ?_) (fun h3 => ?_)
  ·have h3 : bh < 0 := oT h3
   refine aI (zBe (by show out.length + 1 <= _; omega)) ?_
   have fin := hinv _ (.zero (by omega) h2)
   rw [if_pos h3, show (i : Int) + 1 = IntKind.i64.wrap ((i : Int) + 1) by rw [wrapM (by omega) (by omega)]] at fin
   exact aI rfl (zAk (rcq [1] (d := 7) (d2 := 2) (lv := [(4, .string ⟨(out ++ [0]).toArray⟩), (5, .int .i64 (IntKind.i64.wrap ((i : Int) + 1))), (6, pt 1)]) (bs := [(1, .cells [.int .i64 (0), .int .i64 (0)] 48)]) (W := []) (m := 2) (df := []) ⟨⟨_, rfl, .string _⟩, (sI rfl), (sP rfl rfl), tv⟩ ⟨bpo rfl, tv⟩ .nil) (fun f => hret _ _ _ _ f fin))
  have h3 : ¬ bh < 0 := oF h3
  refine aI (zBe (by show out.length + 1 <= _; omega)) ?_
  have fin := hinv _ (.zero (by omega) h2)
  rw [if_neg h3] at fin
  exact aI rfl (zAk (rcq [1] (d := 7) (d2 := 2) (lv := [(4, .string ⟨(out ++ [0]).toArray⟩), (5, .int .i64 (bh)), (6, pt 1)]) (bs := [(1, .cells [.int .i64 (0), .int .i64 (0)] 48)]) (W := []) (m := 2) (df := []) ⟨⟨_, rfl, .string _⟩, (sI rfl), (sP rfl rfl), tv⟩ ⟨bpo rfl, tv⟩ .nil) (fun f => hret _ _ _ _ f fin))
 have h2 : 0 < cB B i := by rw [ec] at h2; have h9 : (cB B i : Int) ≠ 0 := (by simpa using h2); omega
 have e1 : IntKind.i64.wrap ((i : Int) + 1) = (i : Int) + 1 := wrapM (by omega) (by omega)
 refine ifK (fun h3 => ?_) (fun h3 => ?_)
 ·have h3 : cB B i <= 63 := by rw [ec] at h3; have := oT h3; omega
  have e2 : IntKind.i64.wrap (IntKind.i64.wrap ((i : Int) + 1) + IntKind.i64.wrap (cB B i : Int)) = ((i + (cB B i + 1) : Nat) : Int) := by rw [ec, e1, wrapM (by omega) (by omega)]; omega
  refine ifK (fun h4 => ?_) (fun h4 => ?_)
  ·have h4 : n < i + (cB B i + 1) := by have := oT h4; rw [e2] at this; omega
   refine aI ?_ ?_
   ·kernel_rfl
   have fin := hinv _ (.short (by omega) h2 h3 (by omega))
   rw [hlB] at fin
   exact aI rfl (zAk (rcq [1] (d := 7) (d2 := 2) (lv := [(4, .string ⟨([]).toArray⟩), (5, .int .i64 (0)), (6, pt 1)]) (bs := [(1, .cells [.int .i64 (4), .int .i64 ((n : Int))] 48)]) (W := []) (m := 2) (df := []) ⟨⟨_, rfl, .string _⟩, (sI rfl), (sP rfl rfl), tv⟩ ⟨bpo rfl, tv⟩ .nil) (fun f => hret _ _ _ _ f fin))
  have h4 : i + (cB B i + 1) <= n := by have := oF h4; rw [e2] at this; omega
  have e3 : (IntKind.i64.wrap (IntKind.i64.wrap ((i : Int) + 1) + IntKind.i64.wrap (cB B i : Int))).toNat - (i : Int).toNat = cB B i + 1 := by rw [e2]; omega
  have htl : ((B.drop i).take (cB B i + 1)).length = cB B i + 1 := by rw [aU, aM]; omega
  have srcs : ∀ (o' c' : Nat) (G : Gh), o' = o + i -> G 0 = some (.win (l.map byV) 1) -> zAj G 1 (.slice (some ⟨0, o', none⟩) ((IntKind.i64.wrap (IntKind.i64.wrap ((i : Int) + 1) + IntKind.i64.wrap (cB B i : Int))).toNat - (i : Int).toNat) c') = some ((IntKind.i64.wrap (IntKind.i64.wrap ((i : Int) + 1) + IntKind.i64.wrap (cB B i : Int))).toNat - (i : Int).toNat, ((B.drop i).take (cB B i + 1)).map fun b : UInt8 => Value.int .u8 (b.toNat : Int)) := fun o' c' G ho hG => by
   rw [e3]
   subst ho
   unfold zAj
   simp only [show (cB B i + 1).beq 0 = false from rfl, cF, hG, Option.bind_some, AObj.look]
   rw [bL (by simp; omega)]
   rw [<- htake i _ h4]
   simp only [cT, aR, List.map_take, List.map_drop]; rfl
  refine ifK (fun hcu => ?_) (fun hcu => ?_)
  ·refine aI (by rw [e2]; simp only [inLH, bA, dT]; omega) ?_
   refine eI ((B.drop i).take (cB B i + 1)) (aI (by rw [h1s]; exact srcs (o + (i : Int).toNat * (Try.prog.types[5]).size) _ _ (by rw [h1s]; simp) rfl) ?_)
   refine aI (zBe (by show out.length + ((B.drop i).take (cB B i + 1)).length <= _; omega)) ?_
   have eL : (catS ⟨out.toArray⟩ ⟨((B.drop i).take (cB B i + 1)).toArray⟩).data.size = out.length + (cB B i + 1) := by show (out ++ (B.drop i).take (cB B i + 1)).length = _; rw [aB, htl]
   refine ifK (fun h5 => ?_) (fun h5 => ?_)
   ·have h5 : 254 < out.length + (cB B i + 1) := by have := oT h5; rw [eL] at this; omega
    have fin := hinv _ (.long (by omega) h2 h3 (by omega) h5)
    exact aI rfl (zAk (rcq [1] (d := 7) (d2 := 2) (lv := [(4, .string ⟨([]).toArray⟩), (5, .int .i64 (0)), (6, pt 1)]) (bs := [(1, .cells [.int .i64 (3), .int .i64 ((a : Int))] 48)]) (W := []) (m := 2) (df := []) ⟨⟨_, rfl, .string _⟩, (sI rfl), (sP rfl rfl), tv⟩ ⟨bpo rfl, tv⟩ .nil) (fun f => hret _ _ _ _ f fin))
   have h5 : out.length + (cB B i + 1) <= 254 := by have := oF h5; rw [eL] at this; omega
   refine ⟨(p, i + (cB B i + 1), out ++ (B.drop i).take (cB B i + 1), bh), ⟨hp, h4, by show (out ++ (B.drop i).take (cB B i + 1)).length <= 254; rw [aB, htl]; exact h5, ⟨hb1, hb2⟩, fun r hr => hinv r (.lab (by omega) h2 h3 (by omega) h5 hr)⟩, ?_, ?_⟩
   ·show p * (n + 2) + (n + 1 - (i + (cB B i + 1))) < p * (n + 2) + (n + 1 - i); omega
   exact rcq [1, 2] ⟨(sL rfl rfl), (sI rfl), (sP rfl rfl), (sP rfl rfl), ⟨_, rfl, .string _⟩, (sI rfl), (sI rfl), ⟨_, rfl, by rw [<- e2]; exact .int _ _⟩, tv⟩ ⟨bpo (zAb l), bpo rfl, bpo rfl, tv⟩ .nil
  have hcU : c ≠ U := fun e0 => (by subst e0; cases hcu)
  obtain ⟨hc1, hc2⟩ := hcap.resolve_left hcU
  refine aI (by rw [e2]; simp only [inLH, bA, dT]; exact ⟨⟨⟨⟨by omega, by omega⟩, by omega⟩, bL hc1⟩, bL (by omega)⟩) ?_
  refine eI ((B.drop i).take (cB B i + 1)) (aI (by rw [h1s]; exact srcs (bif c.beq (i : Int).toNat then o else o + (i : Int).toNat * (Try.prog.types[5]).size) _ _ (by cases hb : c.beq (i : Int).toNat with | true => (have hb2 := aA hb; exact ab hb2 (by simp; omega)) | false => (rw [cF, h1s]; simp)) rfl) ?_)
  refine aI (zBe (by show out.length + ((B.drop i).take (cB B i + 1)).length <= _; omega)) ?_
  have eL : (catS ⟨out.toArray⟩ ⟨((B.drop i).take (cB B i + 1)).toArray⟩).data.size = out.length + (cB B i + 1) := by show (out ++ (B.drop i).take (cB B i + 1)).length = _; rw [aB, htl]
  refine ifK (fun h5 => ?_) (fun h5 => ?_)
  ·have h5 : 254 < out.length + (cB B i + 1) := by have := oT h5; rw [eL] at this; omega
   have fin := hinv _ (.long (by omega) h2 h3 (by omega) h5)
   exact aI rfl (zAk (rcq [1] (d := 7) (d2 := 2) (lv := [(4, .string ⟨([]).toArray⟩), (5, .int .i64 (0)), (6, pt 1)]) (bs := [(1, .cells [.int .i64 (3), .int .i64 ((a : Int))] 48)]) (W := []) (m := 2) (df := []) ⟨⟨_, rfl, .string _⟩, (sI rfl), (sP rfl rfl), tv⟩ ⟨bpo rfl, tv⟩ .nil) (fun f => hret _ _ _ _ f fin))
  have h5 : out.length + (cB B i + 1) <= 254 := by have := oF h5; rw [eL] at this; omega
  refine ⟨(p, i + (cB B i + 1), out ++ (B.drop i).take (cB B i + 1), bh), ⟨hp, h4, by show (out ++ (B.drop i).take (cB B i + 1)).length <= 254; rw [aB, htl]; exact h5, ⟨hb1, hb2⟩, fun r hr => hinv r (.lab (by omega) h2 h3 (by omega) h5 hr)⟩, ?_, ?_⟩
  ·show p * (n + 2) + (n + 1 - (i + (cB B i + 1))) < p * (n + 2) + (n + 1 - i); omega
  exact rcq [1, 2] ⟨(sL rfl rfl), (sI rfl), (sP rfl rfl), (sP rfl rfl), ⟨_, rfl, .string _⟩, (sI rfl), (sI rfl), ⟨_, rfl, by rw [<- e2]; exact .int _ _⟩, tv⟩ ⟨bpo (zAb l), bpo rfl, bpo rfl, tv⟩ .nil
 have h3 : 63 < cB B i := by rw [ec] at h3; have := oF h3; omega
 refine ifK (fun h4 => ?_) (fun h4 => ?_)
 ·have h4 : cB B i < 192 := by rw [ec] at h4; have := oT h4; omega
  have fin := hinv _ (.bad (by omega) h3 h4)
  exact aI rfl (zAk (rcq [1] (d := 7) (d2 := 2) (lv := [(4, .string ⟨([]).toArray⟩), (5, .int .i64 (0)), (6, pt 1)]) (bs := [(1, .cells [.int .i64 (4), .int .i64 ((i : Int))] 48)]) (W := []) (m := 2) (df := []) ⟨⟨_, rfl, .string _⟩, (sI rfl), (sP rfl rfl), tv⟩ ⟨bpo rfl, tv⟩ .nil) (fun f => hret _ _ _ _ f fin))
 have h4 : 192 <= cB B i := by rw [ec] at h4; have := oF h4; omega
 refine ifK (fun h5 => ?_) (fun h5 => ?_)
 ·have h5 : n < i + 2 := by have := oT h5; rw [e1] at this; omega
  refine aI ?_ ?_
  ·kernel_rfl
  have fin := hinv _ (.pshort (by omega) h4 (by omega))
  rw [hlB] at fin
  exact aI rfl (zAk (rcq [1] (d := 7) (d2 := 2) (lv := [(4, .string ⟨([]).toArray⟩), (5, .int .i64 (0)), (6, pt 1)]) (bs := [(1, .cells [.int .i64 (4), .int .i64 ((n : Int))] 48)]) (W := []) (m := 2) (df := []) ⟨⟨_, rfl, .string _⟩, (sI rfl), (sP rfl rfl), tv⟩ ⟨bpo rfl, tv⟩ .nil) (fun f => hret _ _ _ _ f fin))
 have h5 : i + 2 <= n := by have := oF h5; rw [e1] at this; omega
 refine ifK (fun _ => ?_) (fun h6 => ab h6 (by rw [e1]; simp [inI]; omega))
 refine eI (cB B (i + 1) : Int) (aI (by rw [h1s, e1, show ((i : Int) + 1).toNat = i + 1 by omega]; exact hcell (i + 1) (by omega)) ?_)
 have hb2' := cB_lt B (i + 1)
 have et : IntKind.i64.wrap (IntKind.i64.wrap (256 * IntKind.i64.wrap (IntKind.i64.wrap (cB B i : Int) - 192)) + IntKind.i64.wrap (cB B (i + 1) : Int)) = (toB B i : Int) := by
  unfold toB
  rw [ec, wrapM (x := (cB B i : Int) - 192) (by omega) (by omega), wrapM (x := 256 * ((cB B i : Int) - 192)) (by omega) (by omega), wrapM (x := (cB B (i + 1) : Int)) (by omega) (by omega), wrapM (by omega) (by omega)]; omega
 refine ifK (fun h6 => ?_) (fun h6 => ?_)
 ·have h6 : p <= toB B i := by have := oT h6; rw [et] at this; omega
  have fin := hinv _ (.ploop (by omega) h4 (by omega) h6)
  exact aI rfl (zAk (rcq [1] (d := 7) (d2 := 2) (lv := [(4, .string ⟨([]).toArray⟩), (5, .int .i64 (0)), (6, pt 1)]) (bs := [(1, .cells [.int .i64 (150), .int .i64 ((i : Int))] 48)]) (W := []) (m := 2) (df := []) ⟨⟨_, rfl, .string _⟩, (sI rfl), (sP rfl rfl), tv⟩ ⟨bpo rfl, tv⟩ .nil) (fun f => hret _ _ _ _ f fin))
 have h6 : toB B i < p := by have := oF h6; rw [et] at this; omega
 have hst : ∀ r, Rd B a (toB B i) (toB B i) out (if bh < 0 then (i : Int) + 2 else bh) r -> Rd B a a a [] (-1) r := fun r hr => hinv r (.ptr (by omega) h4 (by omega) h6 hr)
 have hmu : (toB B i) * (n + 2) + (n + 1 - toB B i) < p * (n + 2) + (n + 1 - i) := by
  have := Nat.mul_le_mul_right (n + 2) (show toB B i + 1 <= p from h6)
  rw [Nat.add_mul, Nat.one_mul] at this; omega
 refine ifK (fun h7 => ?_) (fun h7 => ?_)
 ·have h7 : bh < 0 := oT h7
  simp only [if_pos h7] at hst
  refine ⟨(toB B i, toB B i, out, (i : Int) + 2), ⟨by show toB B i <= n; omega, by show toB B i <= n; omega, hout, ⟨by show -1 <= (i : Int) + 2; omega, by show (i : Int) + 2 <= _; omega⟩, hst⟩, hmu, ?_⟩
  exact rcq [1, 2] ⟨(sL rfl rfl), (sI rfl), (sP rfl rfl), (sP rfl rfl), ⟨_, rfl, .string _⟩, ⟨_, rfl, by rw [show IntKind.i64.wrap ((i : Int) + 2) = (i : Int) + 2 from wrapM (by omega) (by omega)]; exact .int _ _⟩, ⟨_, rfl, by rw [<- et]; exact .int _ _⟩, ⟨_, rfl, by rw [<- et]; exact .int _ _⟩, tv⟩ ⟨bpo (zAb l), bpo rfl, bpo rfl, tv⟩ .nil
 have h7 : ¬ bh < 0 := oF h7
 simp only [if_neg h7] at hst
 refine ⟨(toB B i, toB B i, out, bh), ⟨by show toB B i <= n; omega, by show toB B i <= n; omega, hout, ⟨hb1, hb2⟩, hst⟩, hmu, ?_⟩
 exact rcq [1, 2] ⟨(sL rfl rfl), (sI rfl), (sP rfl rfl), (sP rfl rfl), ⟨_, rfl, .string _⟩, (sI rfl), ⟨_, rfl, by rw [<- et]; exact .int _ _⟩, ⟨_, rfl, by rw [<- et]; exact .int _ _⟩, tv⟩ ⟨bpo (zAb l), bpo rfl, bpo rfl, tv⟩ .nil
theorem rread_fn (l : Bl) (o n c : Nat) (x : Int) (h : o + n <= l.length) (hn : n <= 1000000000) (hcap : c = U \/ n <= c /\ c <= 9223372036854775807) : ∃ r, FnS Try.prog 0 88 [.slice (some ⟨0, o, none⟩) n c, .int .i64 x] (heap 1 [(0, .win (l.map byV) 1)]) 1 r /\ wrP ((l.drop o).take n) x r := by
 have hlB := lenB h
 refine zAu mixed tbW6 [0] Try.func88 (c := bodyOf Try.f88) (by kernel_rfl) ?_
 refine ifK (fun h1 => ?_) (fun h1 => ?_)
 ·exact ⟨⟨[], 0, 5, 0⟩, .inl ⟨.inl (oT h1), rfl⟩, _, _, _, rfl, zAl rfl⟩
 have h1 : ¬ x < 0 := oF h1
 refine ifK (fun h2 => ?_) (fun h2 => ?_)
 ·exact ⟨⟨[], 0, 5, 0⟩, .inl ⟨.inr (by rw [hlB]; exact oT h2), rfl⟩, _, _, _, rfl, zAl rfl⟩
 have h2 : ¬ x > (n : Int) := oF h2
 obtain ⟨a, rfl⟩ := Int.eq_ofNat_of_zero_le (show 0 <= x by omega)
 refine zVp l o n c a h hn hcap (by omega) (rcq [1, 2] ⟨(sL rfl rfl), (sI rfl), (sP rfl rfl), (sP rfl rfl), ⟨_, rfl, .string _⟩, (sI rfl), (sI rfl), (sI rfl), tv⟩ ⟨bpo (zAb l), bpo rfl, bpo rfl, tv⟩ .nil) (fun s nx e pos f hr => ?_)
 exact ⟨⟨s, nx, e, pos⟩, .inr ⟨a, rfl, by rw [hlB]; omega, hr⟩, _, _, _, rfl, zAl rfl⟩
noncomputable def cq_rread : CtQ Try.prog :=
 { f := 88, X := RdB × Int, pre := fun x a H _ => a = [x.1.sl, .int .i64 x.2] /\ x.1.at H /\ x.1.small, Q := fun x v => ∃ r : RR, v = rrV r /\ rdOk x.1.B x.2 r,
   ok := fun ⟨⟨b, o, n, c, l⟩, i⟩ a H m ⟨h1, h2, h3⟩ => by
    subst h1
    obtain ⟨r, hF, res, hr, H', m', wr, rfl, hw⟩ := rread_fn l o n c i h2.2 h3.1 h3.2
    exact ⟨rrV res, zCn [b] hF hw zGh (.cons _ _ _ _ (.sl _ _ _ _ _ rfl) (zCg rfl)) (zDe h2.1 (zAb l)) (zPh res), res, rfl, hr⟩,
   uniq := fun ⟨x, i⟩ ⟨y, j⟩ a H m ⟨h1, h2, _⟩ ⟨k1, k2, _⟩ => by
    rw [h1] at k1
    simp only [aQ, Value.int.injEq, true_and, and_true] at k1
    rw [RdB.uniq k1.1 h2 k2, k1.2] }
noncomputable def zOf : Ct Try.prog 0 := cq_rread.ctY RR rrV (fun (x : RdB × Int) r => rdOk x.1.B x.2 r) (fun _ _ h => h)
end
section
open Go Go.RowKit
end
section
open Go Go.RowKit
inductive Nm : Bs -> Prop
 | root : Nm [0]
 | lab (c : UInt8) (x r : Bs) (h1 : 0 < c.toNat) (h2 : c.toNat <= 63) (hx : x.length = c.toNat) (hr : Nm r) : Nm (c :: (x ++ r))
theorem Nm.pos {l : Bs} (h : Nm l) : 0 < l.length := by cases h <;> simp
theorem zLq : ∀ (f : Nat) (l : Bs), l.length < f -> (none ∉ nameSeq f l ↔ Nm l)
 | f + 1, l, hf => by
  rw [nameSeq]
  by_cases h0 : l = [0]
  ·rw [if_pos h0, h0]; exact ⟨fun _ => .root, fun _ => by simp⟩
  rw [if_neg h0]
  by_cases h1 : l.length = 0 \/ bt l 0 = 0 \/ 63 < bt l 0 \/ l.length <= bt l 0
  ·rw [if_pos h1]
   refine ⟨fun h => ab (by simp) h, fun h => ?_⟩
   exfalso
   cases h with
   | root => exact h0 rfl
   | lab c x r g1 g2 g3 g4 =>
    have hb : bt (c :: (x ++ r)) 0 = c.toNat := rfl
    rw [hb] at h1
    simp only [aC, aB] at h1
    omega
  rw [if_neg h1]
  cases l with
  | nil => exact ab (.inl rfl) h1
  | cons c tl =>
   have hb : bt (c :: tl) 0 = c.toNat := rfl
   rw [hb] at h1 ⊢
   have e1 : (c :: tl).drop (1 + c.toNat) = tl.drop c.toNat := by rw [Nat.add_comm]; rfl
   rw [e1]
   simp only [aC] at h1 hf
   have ih := zLq f (tl.drop c.toNat) (by rw [aM]; omega)
   have e2 : (none ∉ some ((c :: tl).tail.take c.toNat) :: nameSeq f (tl.drop c.toNat)) ↔ none ∉ nameSeq f (tl.drop c.toNat) := by simp
   rw [e2, ih]
   constructor
   ·intro h
    have := Nm.lab c (tl.take c.toNat) (tl.drop c.toNat) (by omega) (by omega) (by rw [aU]; omega) h
    rwa [List.take_append_drop] at this
   intro h
   generalize hq : c :: tl = q at h
   cases h with
   | root => exact ab hq h0
   | lab c' x r g1 g2 g3 g4 =>
    simp only [aQ] at hq
    obtain ⟨rfl, rfl⟩ := hq
    rw [<- g3, List.drop_left]; exact g4
theorem zJy (l : Bs) : (labels l).2 = 0 ↔ Nm l /\ l.length <= 255 := by
 have h := zLq (l.length + 1) l (by omega)
 unfold labels
 by_cases h1 : none ∈ nameSeq (l.length + 1) l
 ·rw [if_pos h1]
  exact ⟨fun e => (by cases e), fun e => ab h1 (h.2 e.1)⟩
 rw [if_neg h1]
 by_cases h2 : 255 < l.length
 ·rw [if_pos h2]; exact ⟨fun e => (by cases e), fun e => by omega⟩
 rw [if_neg h2]; exact ⟨fun _ => ⟨h.1 h1, by omega⟩, fun _ => rfl⟩
theorem zpos_nm {n : Bs} (h : Nm n) (r : Bs) : zpos (n ++ r) = some (n.length - 1) := by
 induction h with
 | root => show zpos (0 :: r) = _; rw [zHm, if_pos (by decide)]; rfl
 | lab c x q h1 h2 hx hr ih =>
  have hp := hr.pos
  show zpos (c :: ((x ++ q) ++ r)) = _
  rw [zHm, if_neg (by omega), aN, <- hx, List.drop_left, ih]
  simp only [Option.map_some, aC, aB, aP]; omega
theorem front_nm {n : Bs} (h : Nm n) (hl : n.length <= 255) (r : Bs) : front (n ++ r) = some n.length := by
 have hp := h.pos
 unfold front
 rw [zpos_nm h]
 have e : n.length - 1 + 1 = n.length := by omega
 simp only [e, List.take_left]
 rw [if_pos ((zJy n).2 ⟨h, hl⟩)]
end
section
open Go Go.RowKit
theorem Rd.nm {B : Bl} {a p i : Nat} {out : Bl} {bh : Int} {r : RR} (h : Rd B a p i out bh r) (he : r.e = 0) : ∃ x, r.s = out ++ x /\ Nm x := by
 induction h with
 | zero h hc => exact ⟨[0], rfl, .root⟩
 | ptr h hc h2 h3 hr ih => exact ih he
 | lab h hc hc2 h2 h3 hr ih =>
  rename_i i out bh r
  obtain ⟨x, e1, e2⟩ := ih he
  refine ⟨(B.drop i).take (cB B i + 1) ++ x, by rw [e1, aN], ?_⟩
  have hg : B.getD i 0 = B[i] := by simp [List.getD_eq_getElem?_getD, gG h]
  have e : (B.drop i).take (cB B i + 1) = B.getD i 0 :: (B.drop (i + 1)).take (cB B i) := by rw [bD h, List.take_succ_cons, hg]
  rw [e, bC]
  exact .lab _ _ _ hc hc2 (by rw [aU, aM]; unfold cB at *; omega) e2
 | _ => cases he
theorem rdOk.nm {B : Bl} {x : Int} {r : RR} (h : rdOk B x r) (he : r.e = 0) : (labels r.s).2 = 0 := by
 have hf := (h.fine.2 he).2.2
 rcases h with ⟨_, rfl⟩ | ⟨a, rfl, h1, h2⟩
 ·cases he
 obtain ⟨x, e1, e2⟩ := h2.nm he
 rw [List.nil_append] at e1
 rw [e1] at hf ⊢
 exact (zJy x).2 ⟨e2, hf⟩
end
section
open Go Go.RowKit
noncomputable def tbD10 : Tb Try.prog 0 := tbOf mixed [zOf, zOe, ct_form, ct_rtexts]
inductive RfP (B : Bl) (a e : Int) : List Pr -> Int -> Bs -> Bs × Int × Int -> Prop
 | fin {i : Int} {out : Bs} (h1 : i = e) : RfP B a e [] i out (out, 0, 0)
 | off {i : Int} {out : Bs} (h : ¬ i = e) : RfP B a e [] i out ([], 4, a)
 | nmb {ps : List Pr} {i : Int} {out : Bs} {r : RR} (h : rdOk B i r) (he : r.e ≠ 0) : RfP B a e (.nm :: ps) i out ([], r.e, r.pos)
 | nmo {ps : List Pr} {i : Int} {out : Bs} {r : RR} (h : rdOk B i r) (he : r.e = 0) (h2 : r.next > e) : RfP B a e (.nm :: ps) i out ([], 4, a)
 | nmc {ps : List Pr} {i : Int} {out : Bs} {r : RR} {y : Bs × Int × Int} (h : rdOk B i r) (he : r.e = 0) (h2 : ¬ r.next > e) (k : RfP B a e ps r.next (out ++ r.s) y) : RfP B a e (.nm :: ps) i out y
 | all {ps : List Pr} {i : Int} {out : Bs} {y : Bs × Int × Int} (k : RfP B a e ps e (out ++ (B.drop i.toNat).take (e.toNat - i.toNat)) y) : RfP B a e (.all :: ps) i out y
 | txb {ps : List Pr} {i : Int} {out : Bs} (h : texts ((B.drop i.toNat).take (e.toNat - i.toNat)) = false) : RfP B a e (.rest :: ps) i out ([], 4, a)
 | txc {ps : List Pr} {i : Int} {out : Bs} {y : Bs × Int × Int} (h : texts ((B.drop i.toNat).take (e.toNat - i.toNat)) = true) (k : RfP B a e ps e (out ++ (B.drop i.toNat).take (e.toNat - i.toNat)) y) : RfP B a e (.rest :: ps) i out y
 | szb {ps : List Pr} {z : Nat} {i : Int} {out : Bs} (h : (z : Int) > e - i) : RfP B a e (.sz z :: ps) i out ([], 4, a)
 | szc {ps : List Pr} {z : Nat} {i : Int} {out : Bs} {y : Bs × Int × Int} (h : ¬ (z : Int) > e - i) (k : RfP B a e ps (i + z) (out ++ (B.drop i.toNat).take ((i + z).toNat - i.toNat)) y) : RfP B a e (.sz z :: ps) i out y
theorem RfP.rd {B : Bl} {a e t : Int} (he : e <= B.length) : ∀ (ps : List Pt) (i : Int) (out : Bs) (y : Bs × Int × Int), ps.all Pt.small = true -> 0 <= i -> RfP B a e (ps.map Pt.pr) i out y ->
  (∀ tail o, cuts ps tail = some (o, []) -> checkD t (out ++ tail) = 0) -> RdP B a e t ps i out y
 | [], i, out, y, _, _, h, hc => by
  cases h with
  | fin h1 => exact .fin h1 (by have := hc [] [] rfl; rwa [aF] at this)
  | off h1 => exact .off (fun q => h1 q.1)
 | p :: ps, i, out, y, hs, hi, h, hc => by
  simp only [List.all_cons, bA] at hs
  cases p with
  | rest => cases hs.1
  | nm =>
   cases h with
   | nmb h1 h2 => exact .nmb h1 h2
   | nmo h1 h2 h3 => exact .nmo h1 h2 h3
   | nmc h1 h2 h3 k =>
    rename_i r
    have hf := h1.fine.2 h2
    have hn := (zJy r.s).1 (h1.nm h2)
    refine .nmc h1 h2 h3 (RfP.rd he ps _ _ _ hs.2 hf.1 k (fun tail o ho => ?_))
    rw [aN]
    refine hc (r.s ++ tail) ((r.s, true) :: o) ?_
    simp only [cuts, Pt.cut, front_nm hn.1 hn.2 tail, List.drop_left, ho, List.take_left]; rfl
  | sz z =>
   cases h with
   | szb h1 => exact .szb (by omega)
   | szc h1 k =>
    refine .szc (by omega) (RfP.rd he ps _ _ _ hs.2 (by omega) k (fun tail o ho => ?_))
    rw [aN]
    have hl : ((B.drop i.toNat).take ((i + z).toNat - i.toNat)).length = z := by rw [aU, aM]; omega
    refine hc _ (((B.drop i.toNat).take ((i + z).toNat - i.toNat), false) :: o) ?_
    simp only [cuts, Pt.cut]
    rw [if_pos (by rw [aB]; omega)]
    have e1 : List.drop z ((B.drop i.toNat).take ((i + z).toNat - i.toNat) ++ tail) = tail := List.drop_left' hl
    have e2 : List.take z ((B.drop i.toNat).take ((i + z).toNat - i.toNat) ++ tail) = (B.drop i.toNat).take ((i + z).toNat - i.toNat) := List.take_left' hl
    simp only [e1, e2, ho]; rfl
theorem fits_of {t : Int} {ps : List Pt} {l : Bs} {o : List (Bs × Bool)} (hp : ptsT t = some ps) (h : cuts ps l = some (o, [])) : fitsD t l = true := by
 unfold fitsD outR outT
 rw [hp]
 simp only [Option.isSome_some, cT, h]; rfl
theorem zOh {l : Bs} (h : texts l = false) : cuts [.rest] l = none := by
 have : Pt.cut .rest l = none := by unfold Pt.cut; dsimp only; rw [h]; rfl
 simp only [cuts, this]
theorem zMp {l : Bs} (h : texts l = true) : cuts [.rest] l = some ([(l.take l.length, false)], []) := by
 have : Pt.cut .rest l = some l.length := by unfold Pt.cut; dsimp only; rw [h]; rfl
 simp only [cuts, this, List.drop_length]; rfl
theorem RfP.q {B : Bl} {a z t : Int} {y : Bs × Int × Int} (h1 : ¬ (t < 0 \/ t > 65535 \/ z < 0 \/ z > 65535)) (h2 : ¬ (a < 0 \/ a > B.length)) (h3 : ¬ (B.length : Int) - a < z) (h : RfP B a (a + z) (prT t) a [] y) : rdQ B a z t y := by
 have small : ∀ ps, ptsT t = some ps -> prT t = ps.map Pt.pr -> ps.all Pt.small = true -> ps.length <= 3 -> rdQ B a z t y := fun ps hp he hs hl =>
  zFo h1 h2 h3 hp (RfP.rd (by omega) ps a [] y hs (by omega) (he ▸ h) (fun tail o ho => by
   rw [List.nil_append]; exact zUq hp hs hl (by omega) (fits_of hp ho)))
 by_cases t1 : t = 1
 ·subst t1; exact small [.sz 4] rfl rfl rfl (by decide)
 by_cases t2 : t = 28
 ·subst t2; exact small [.sz 16] rfl rfl rfl (by decide)
 by_cases t3 : t = 2
 ·subst t3; exact small [.nm] rfl rfl rfl (by decide)
 by_cases t4 : t = 5
 ·subst t4; exact small [.nm] rfl rfl rfl (by decide)
 by_cases t5 : t = 12
 ·subst t5; exact small [.nm] rfl rfl rfl (by decide)
 by_cases t6 : t = 15
 ·subst t6; exact small [.sz 2, .nm] rfl rfl rfl (by decide)
 by_cases t7 : t = 6
 ·subst t7; exact small [.nm, .nm, .sz 20] rfl rfl rfl (by decide)
 have hz : (a + z).toNat - a.toNat = z.toNat := by omega
 by_cases t8 : t = 16
 ·subst t8
  have h : RfP B a (a + z) [.rest] a [] y := h
  refine zFo (ps := [.rest]) h1 h2 h3 rfl (.rest ?_)
  cases h with
  | txb g => refine .off (fun q => ?_); have := (zUs q.2).2.2.2; obtain ⟨o, ho, _⟩ := zTb (ps := [.rest]) rfl this; rw [List.nil_append] at ho; rw [zOh g] at ho; cases ho
  | txc g k =>
   cases k with
   | fin => refine .fin rfl ?_
            rw [List.nil_append]
            have hfit : fitsD 16 ((B.drop a.toNat).take ((a + z).toNat - a.toNat)) = true := fits_of (ps := [.rest]) rfl (zMp g)
            unfold checkD
            rw [if_neg (by omega), if_neg (by rw [aU]; omega), hfit]; rfl
   | off g => exact ab rfl g
 have hp : ptsT t = none := by
  unfold ptsT
  simp only [beq_false_of_ne t1, beq_false_of_ne t2, beq_false_of_ne t3, beq_false_of_ne t4, beq_false_of_ne t5, beq_false_of_ne t6, beq_false_of_ne t7, beq_false_of_ne t8, cF]
 rw [prT_none hp] at h
 cases h with
 | all k =>
  cases k with
  | fin =>
   have := zTy h1 h2 h3 hp
   rw [hz, List.nil_append]; exact this
  | off g => exact ab rfl g
def rfS (l : Bl) (o n c : Nat) (a e : Int) (ps : List Pr) (x : Nat × Int × ByteArray) (f : Nat -> Option Value) : Fs :=
 ⟨slots 8 [(0, .slice (some ⟨0, o, none⟩) n c), (9, pt 1), (11, .int .i64 e), (13, pt 2), (14, sq 3 ps.length ps.length), (15, .int .i64 x.2.1), (16, .string x.2.2), (17, .int .i64 x.1)] f,
  heap 3 [(0, .win (l.map byV) 1), (1, .cells [.int .i64 0, .int .i64 0] 48), (2, .cells [.int .i64 4, .int .i64 a] 48), (3, .cells ((ps.map Pr.i).map intV) 3)], 4, [], []⟩
theorem rf_loop (l : Bl) (o n c : Nat) (a e : Int) (ps : List Pr) (hps : ps.length < 900) (h : o + n <= l.length) (hn : n <= 1000000) (hcap : c = U \/ n <= c /\ c <= 9223372036854775807) (ha : 0 <= a /\ a <= e /\ e <= n) {s0 : Fs} {K : Ex -> Fs -> Prop}
  (h0 : ∃ f, RcM Try.prog 0 1 (4 + (Try.f105.ntmps - 4)) none s0 (rfS l o n c a e ps (0, a, ⟨#[]⟩) f))
  (hret : ∀ er pos f, RfP ((l.drop o).take n) a e ps a [] ([], er, pos) -> K .ret ⟨slots 8 [(8, .string ⟨#[]⟩), (9, pt 1)] f, heap 2 [(1, .cells [.int .i64 er, .int .i64 pos] 48)], 2, [], []⟩)
  (hex : ∀ i out f, (∀ y, RfP ((l.drop o).take n) a e [] i (bs out) y -> RfP ((l.drop o).take n) a e ps a [] y) -> K (.exit 0) ⟨slots 8 [(9, pt 1), (11, .int .i64 e), (13, pt 2), (15, .int .i64 i), (16, .string out)] f, heap 3 [(1, .cells [.int .i64 0, .int .i64 0] 48), (2, .cells [.int .i64 4, .int .i64 a] 48)], 3, [], []⟩) :
  LW Try.prog 0 1 (4 + (Try.f105.ntmps - 4)) none (loopAt Try.f105 0) s0 K := by
 refine zAv (rfS l o n c a e ps) (fun x => ps.length - x.1) (fun x => x.1 <= ps.length /\ (0 <= x.2.1 /\ x.2.1 <= e) /\ (bs x.2.2).length <= x.1 * 1001000 /\ ∀ y, RfP ((l.drop o).take n) a e (ps.drop x.1) x.2.1 (bs x.2.2) y -> RfP ((l.drop o).take n) a e ps a [] y) (0, a, ⟨#[]⟩) ⟨aH _, ⟨ha.1, ha.2.1⟩, by simp [bs], fun y hy => hy⟩ h0 ?_
 rintro ⟨k, i, out⟩ f ⟨hk, ⟨hi1, hi2⟩, hout, hinv⟩
 have hk : k <= ps.length := hk
 have hi1 : 0 <= i := hi1
 have hi2 : i <= e := hi2
 have hout : (bs out).length <= k * 1001000 := hout
 have hinv : ∀ y, RfP ((l.drop o).take n) a e (ps.drop k) i (bs out) y -> RfP ((l.drop o).take n) a e ps a [] y := hinv
 have htake : ∀ j m : Nat, j + m <= n -> (l.drop (o + j)).take m = (((l.drop o).take n).drop j).take m := fun j m hjm => by rw [List.drop_take, List.take_take, List.drop_drop, Nat.min_eq_left (by omega)]
 obtain ⟨ha1, ha2, ha3⟩ := ha
 have h1s : (Try.prog.types[5]).size = 1 := by kernel_rfl
 have lenB' : ((l.drop o).take n).length = n := lenB h
 have hmulk : k * 1001000 <= 900 * 1001000 := Nat.mul_le_mul_right _ (by omega)
 have side : ∀ (h1 : k < ps.length), ((ps.map Pr.i).map intV)[0 + ((k : Nat) : Int).toNat * 1]? = some (.int .i64 ps[k].i) := fun h1 => by
  rw [aO, aS, aR, List.getElem?_map, List.getElem?_map, gG h1]; rfl
 have srcs : ∀ (x y : Int) (o' c' : Nat) (G : Gh), 0 <= x -> x <= y -> y <= n -> (o' = o + x.toNat \/ y.toNat - x.toNat = 0) -> G 0 = some (.win (l.map byV) 1) -> zAj G 1 (.slice (some ⟨0, o', none⟩) (y.toNat - x.toNat) c') = some (y.toNat - x.toNat, (((l.drop (o + x.toNat)).take (y.toNat - x.toNat)).map fun b : UInt8 => Value.int .u8 (b.toNat : Int))) := fun x y o' c' G h1 h2 h3 ho hG => by
  unfold zAj
  by_cases hz : y.toNat - x.toNat = 0
  ·rw [hz]; simp
  have ho := ho.resolve_right hz
  subst ho
  have : (y.toNat - x.toNat).beq 0 = false := by cases hb : (y.toNat - x.toNat).beq 0; rfl; exact ab (aA hb) hz
  simp only [this, cF, hG, Option.bind_some, AObj.look]
  rw [bL (by simp; omega)]
  simp only [cT, aR, List.map_take, List.map_drop]; rfl
 refine zAs tbD10 [0, 3] 1 _ none mixed _ _ _ ?_
 refine ifK (fun h1 => ?_) (fun h1 => ?_)
 ·have h1 : k < ps.length := by have := oT h1; omega
  have hsd := side h1
  have hst : ps.drop k = ps[k] :: ps.drop (k + 1) := bD h1
  have hmul1 : (k + 1) * 1001000 = k * 1001000 + 1001000 := by rw [Nat.add_mul, Nat.one_mul]
  refine ifK (fun _ => ?_) (fun h2 => ab h2 (by simp [inI]; omega))
  cases hp : ps[k] with
  | nm =>
   rw [hp] at hsd
   refine eI (-1) (aI hsd ?_)
   refine eI (⟨0, o, n, c, l⟩, i) (aI ⟨rfl, ⟨rfl, h⟩, by show n <= _; omega, hcap⟩ ?_)
   intro r hr
   have hr : rdOk ((l.drop o).take n) i r := hr
   obtain ⟨s, nx, er, pos⟩ := r
   obtain ⟨q1, q2⟩ := hr.fine
   have q1 : er ≠ 0 -> 0 <= pos /\ pos <= (((l.drop o).take n).length : Int) := q1
   have q2 : er = 0 -> 0 <= nx /\ nx <= (((l.drop o).take n).length : Int) /\ s.length <= 255 := q2
   rw [lenB'] at q1 q2
   refine ifK (fun h3 => ?_) (fun h3 => ?_)
   ·have h3 : er ≠ 0 := by simpa using h3
    refine aI ?_ ?_
    ·kernel_rfl
    exact aI rfl (zAk (rcq [1] (d := 8) (d2 := 2) (lv := [(8, .string ⟨#[]⟩), (9, pt 1)]) (bs := [(1, .cells [.int .i64 er, .int .i64 pos] 48)]) (W := []) (m := 2) (df := []) ⟨⟨_, rfl, .string _⟩, (sP rfl rfl), tv⟩ ⟨bpo rfl, tv⟩ .nil) (fun f => hret _ _ f (hinv _ (by rw [hst, hp]; exact .nmb hr h3))))
   have h3 : er = 0 := by simpa using h3
   obtain ⟨q3, q4, q5⟩ := q2 h3
   refine ifK (fun h4 => ?_) (fun h4 => ?_)
   ·have h4 := oT h4
    refine aI ?_ ?_
    ·kernel_rfl
    exact aI rfl (zAk (rcq [1] (d := 8) (d2 := 2) (lv := [(8, .string ⟨#[]⟩), (9, pt 1)]) (bs := [(1, .cells [.int .i64 4, .int .i64 a] 48)]) (W := []) (m := 2) (df := []) ⟨⟨_, rfl, .string _⟩, (sP rfl rfl), tv⟩ ⟨bpo rfl, tv⟩ .nil) (fun f => hret _ _ f (hinv _ (by rw [hst, hp]; exact .nmo hr h3 h4))))
   have h4 : ¬ nx > e := oF h4
   have eS : bs ⟨s.toArray⟩ = s := zEq s
   refine aI (zBe (by rw [eS]; have e9 : (bs (k, i, out).2.2).length = (bs out).length := rfl; omega)) ?_
   refine ⟨(k + 1, nx, catS out ⟨s.toArray⟩), ⟨h1, ⟨q3, by show nx <= e; omega⟩, ?_, fun y hy => hinv y (by rw [hst, hp]; exact .nmc hr h3 h4 (by have hy : RfP _ a e (ps.drop (k + 1)) nx (bs (catS out ⟨s.toArray⟩)) y := hy; rw [zBl, eS] at hy; exact hy))⟩, ?_, ?_⟩
   ·show (bs (catS _ _)).length <= (k + 1) * 1001000
    rw [zBl, eS, aB]; omega
   ·show ps.length - (k + 1) < ps.length - k; omega
   exact rcq [1, 2, 3] ⟨(sL rfl rfl), (sP rfl rfl), (sI rfl), (sP rfl rfl), (sL rfl rfl), (sI rfl), ⟨_, rfl, .string _⟩, zAd rfl (by rw [wrapN (by omega) (by omega)]; omega), tv⟩ ⟨bpo (zAb l), bpo rfl, bpo rfl, bpo (zBo _), tv⟩ .nil
  | all =>
   rw [hp] at hsd
   refine eI (-3) (aI hsd ?_)
   have ew : IntKind.i64.wrap (e - i) = e - i := wrapN (by omega) (by omega)
   have ey : IntKind.i64.wrap (i + IntKind.i64.wrap (e - i)) = e := by rw [ew, wrapN (by omega) (by omega)]; omega
   refine ifK (fun h3 => ab (oT h3) (Int.lt_irrefl _)) (fun h3 => ?_)
   refine ifK (fun _ => ?_) (fun h2 => ab h2 (by simp [inI]; omega))
   refine eI (-3) (aI hsd ?_)
   refine ifK (fun hcu => ?_) (fun hcu => ?_)
   ·refine aI (by simp only [inLH, bA, dT]; omega) ?_
    refine eI ((l.drop (o + i.toNat)).take ((IntKind.i64.wrap (i + IntKind.i64.wrap (e - i))).toNat - i.toNat)) (aI (by rw [h1s]; exact srcs i (IntKind.i64.wrap (i + IntKind.i64.wrap (e - i))) (o + i.toNat * (Try.prog.types[5]).size) _ _ hi1 (by omega) (by omega) (.inl (by rw [h1s]; omega)) rfl) ?_)
    have eS : bs ⟨((l.drop (o + i.toNat)).take ((IntKind.i64.wrap (i + IntKind.i64.wrap (e - i))).toNat - i.toNat)).toArray⟩ = ((l.drop (o + i.toNat)).take ((IntKind.i64.wrap (i + IntKind.i64.wrap (e - i))).toNat - i.toNat)) := zEq _
    have eL : ((l.drop (o + i.toNat)).take ((IntKind.i64.wrap (i + IntKind.i64.wrap (e - i))).toNat - i.toNat)).length <= 1000000 := by rw [aU]; omega
    refine aI (zBe (by rw [eS]; have e9 : (bs (k, i, out).2.2).length = (bs out).length := rfl; omega)) ?_
    refine ⟨(k + 1, IntKind.i64.wrap (i + IntKind.i64.wrap (e - i)), catS out ⟨((l.drop (o + i.toNat)).take ((IntKind.i64.wrap (i + IntKind.i64.wrap (e - i))).toNat - i.toNat)).toArray⟩), ⟨h1, ⟨by show 0 <= IntKind.i64.wrap (i + IntKind.i64.wrap (e - i)); omega, by show IntKind.i64.wrap (i + IntKind.i64.wrap (e - i)) <= e; omega⟩, ?_, fun y hy => hinv y (by rw [hst, hp]; refine .all ?_; have hy : RfP _ a e (ps.drop (k + 1)) (IntKind.i64.wrap (i + IntKind.i64.wrap (e - i))) (bs (catS out ⟨((l.drop (o + i.toNat)).take ((IntKind.i64.wrap (i + IntKind.i64.wrap (e - i))).toNat - i.toNat)).toArray⟩)) y := hy; rw [zBl, eS, htake _ _ (by omega), ey] at hy; exact hy)⟩, ?_, ?_⟩
    ·show (bs (catS _ _)).length <= (k + 1) * 1001000
     rw [zBl, eS, aB]; omega
    ·show ps.length - (k + 1) < ps.length - k; omega
    exact rcq [1, 2, 3] ⟨(sL rfl rfl), (sP rfl rfl), (sI rfl), (sP rfl rfl), (sL rfl rfl), (sI rfl), ⟨_, rfl, .string _⟩, zAd rfl (by rw [wrapN (by omega) (by omega)]; omega), tv⟩ ⟨bpo (zAb l), bpo rfl, bpo rfl, bpo (zBo _), tv⟩ .nil
   have hcU : c ≠ U := fun e0 => (by subst e0; cases hcu)
   obtain ⟨hc1, hc2⟩ := hcap.resolve_left hcU
   refine aI (by simp only [inLH, bA, dT]; exact ⟨⟨⟨⟨by omega, by omega⟩, by omega⟩, bL hc1⟩, bL (by omega)⟩) ?_
   refine eI ((l.drop (o + i.toNat)).take ((IntKind.i64.wrap (i + IntKind.i64.wrap (e - i))).toNat - i.toNat)) (aI (by rw [h1s]; exact srcs i (IntKind.i64.wrap (i + IntKind.i64.wrap (e - i))) (bif c.beq i.toNat then o else o + i.toNat * (Try.prog.types[5]).size) _ _ hi1 (by omega) (by omega) ((by cases hb : c.beq i.toNat with | true => (have hb2 := aA hb; exact .inr (by omega)) | false => exact .inl (by rw [cF, h1s]; omega))) rfl) ?_)
   have eS : bs ⟨((l.drop (o + i.toNat)).take ((IntKind.i64.wrap (i + IntKind.i64.wrap (e - i))).toNat - i.toNat)).toArray⟩ = ((l.drop (o + i.toNat)).take ((IntKind.i64.wrap (i + IntKind.i64.wrap (e - i))).toNat - i.toNat)) := zEq _
   have eL : ((l.drop (o + i.toNat)).take ((IntKind.i64.wrap (i + IntKind.i64.wrap (e - i))).toNat - i.toNat)).length <= 1000000 := by rw [aU]; omega
   refine aI (zBe (by rw [eS]; have e9 : (bs (k, i, out).2.2).length = (bs out).length := rfl; omega)) ?_
   refine ⟨(k + 1, IntKind.i64.wrap (i + IntKind.i64.wrap (e - i)), catS out ⟨((l.drop (o + i.toNat)).take ((IntKind.i64.wrap (i + IntKind.i64.wrap (e - i))).toNat - i.toNat)).toArray⟩), ⟨h1, ⟨by show 0 <= IntKind.i64.wrap (i + IntKind.i64.wrap (e - i)); omega, by show IntKind.i64.wrap (i + IntKind.i64.wrap (e - i)) <= e; omega⟩, ?_, fun y hy => hinv y (by rw [hst, hp]; refine .all ?_; have hy : RfP _ a e (ps.drop (k + 1)) (IntKind.i64.wrap (i + IntKind.i64.wrap (e - i))) (bs (catS out ⟨((l.drop (o + i.toNat)).take ((IntKind.i64.wrap (i + IntKind.i64.wrap (e - i))).toNat - i.toNat)).toArray⟩)) y := hy; rw [zBl, eS, htake _ _ (by omega), ey] at hy; exact hy)⟩, ?_, ?_⟩
   ·show (bs (catS _ _)).length <= (k + 1) * 1001000
    rw [zBl, eS, aB]; omega
   ·show ps.length - (k + 1) < ps.length - k; omega
   exact rcq [1, 2, 3] ⟨(sL rfl rfl), (sP rfl rfl), (sI rfl), (sP rfl rfl), (sL rfl rfl), (sI rfl), ⟨_, rfl, .string _⟩, zAd rfl (by rw [wrapN (by omega) (by omega)]; omega), tv⟩ ⟨bpo (zAb l), bpo rfl, bpo rfl, bpo (zBo _), tv⟩ .nil
  | rest =>
   rw [hp] at hsd
   refine eI (-2) (aI hsd ?_)
   have ew : IntKind.i64.wrap (e - i) = e - i := wrapN (by omega) (by omega)
   have ey : IntKind.i64.wrap (i + IntKind.i64.wrap (e - i)) = e := by rw [ew, wrapN (by omega) (by omega)]; omega
   refine ifK (fun h3 => ab (oT h3) (Int.lt_irrefl _)) (fun h3 => ?_)
   refine ifK (fun _ => ?_) (fun h2 => ab h2 (by simp [inI]; omega))
   refine eI (-2) (aI hsd ?_)
   refine ifK (fun hcu => ?_) (fun hcu => ?_)
   ·refine aI (by simp only [inLH, bA, dT]; omega) ?_
    refine eI ((l.drop (o + i.toNat)).take ((e).toNat - i.toNat)) (aI (by rw [h1s]; exact srcs i (e) (o + i.toNat * (Try.prog.types[5]).size) _ _ hi1 (by omega) (by omega) (.inl (by rw [h1s]; omega)) rfl) ?_)
    have eS : bs ⟨((l.drop (o + i.toNat)).take ((e).toNat - i.toNat)).toArray⟩ = ((l.drop (o + i.toNat)).take ((e).toNat - i.toNat)) := zEq _
    have eL : ((l.drop (o + i.toNat)).take ((e).toNat - i.toNat)).length <= 1000000 := by rw [aU]; omega
    refine aI (zKm (by rw [eS]; omega)) ?_
    refine ifK (fun h4 => ?_) (fun h4 => ?_)
    ·have h4 : texts ((l.drop (o + i.toNat)).take ((e).toNat - i.toNat)) = false := by rw [eS] at h4; simpa using h4
     rw [htake _ _ (by omega)] at h4
     refine aI ?_ ?_
     ·kernel_rfl
     exact aI rfl (zAk (rcq [1] (d := 8) (d2 := 2) (lv := [(8, .string ⟨#[]⟩), (9, pt 1)]) (bs := [(1, .cells [.int .i64 4, .int .i64 a] 48)]) (W := []) (m := 2) (df := []) ⟨⟨_, rfl, .string _⟩, (sP rfl rfl), tv⟩ ⟨bpo rfl, tv⟩ .nil) (fun f => hret _ _ f (hinv _ (by rw [hst, hp]; exact .txb h4))))
    have h4 : texts ((l.drop (o + i.toNat)).take ((e).toNat - i.toNat)) = true := by rw [eS] at h4; simpa using h4
    rw [htake _ _ (by omega)] at h4
    refine ifK (fun hcu => ?_) (fun hcu => ?_)
    ·refine aI (by simp only [inLH, bA, dT]; omega) ?_
     refine eI ((l.drop (o + i.toNat)).take ((IntKind.i64.wrap (i + IntKind.i64.wrap (e - i))).toNat - i.toNat)) (aI (by rw [h1s]; exact srcs i (IntKind.i64.wrap (i + IntKind.i64.wrap (e - i))) (o + i.toNat * (Try.prog.types[5]).size) _ _ hi1 (by omega) (by omega) (.inl (by rw [h1s]; omega)) rfl) ?_)
     have eS : bs ⟨((l.drop (o + i.toNat)).take ((IntKind.i64.wrap (i + IntKind.i64.wrap (e - i))).toNat - i.toNat)).toArray⟩ = ((l.drop (o + i.toNat)).take ((IntKind.i64.wrap (i + IntKind.i64.wrap (e - i))).toNat - i.toNat)) := zEq _
     have eL : ((l.drop (o + i.toNat)).take ((IntKind.i64.wrap (i + IntKind.i64.wrap (e - i))).toNat - i.toNat)).length <= 1000000 := by rw [aU]; omega
     refine aI (zBe (by rw [eS]; have e9 : (bs (k, i, out).2.2).length = (bs out).length := rfl; omega)) ?_
     refine ⟨(k + 1, IntKind.i64.wrap (i + IntKind.i64.wrap (e - i)), catS out ⟨((l.drop (o + i.toNat)).take ((IntKind.i64.wrap (i + IntKind.i64.wrap (e - i))).toNat - i.toNat)).toArray⟩), ⟨h1, ⟨by show 0 <= IntKind.i64.wrap (i + IntKind.i64.wrap (e - i)); omega, by show IntKind.i64.wrap (i + IntKind.i64.wrap (e - i)) <= e; omega⟩, ?_, fun y hy => hinv y (by rw [hst, hp]; refine .txc h4 ?_; have hy : RfP _ a e (ps.drop (k + 1)) (IntKind.i64.wrap (i + IntKind.i64.wrap (e - i))) (bs (catS out ⟨((l.drop (o + i.toNat)).take ((IntKind.i64.wrap (i + IntKind.i64.wrap (e - i))).toNat - i.toNat)).toArray⟩)) y := hy; rw [zBl, eS, htake _ _ (by omega), ey] at hy; exact hy)⟩, ?_, ?_⟩
     ·show (bs (catS _ _)).length <= (k + 1) * 1001000
      rw [zBl, eS, aB]; omega
     ·show ps.length - (k + 1) < ps.length - k; omega
     exact rcq [1, 2, 3] ⟨(sL rfl rfl), (sP rfl rfl), (sI rfl), (sP rfl rfl), (sL rfl rfl), (sI rfl), ⟨_, rfl, .string _⟩, zAd rfl (by rw [wrapN (by omega) (by omega)]; omega), tv⟩ ⟨bpo (zAb l), bpo rfl, bpo rfl, bpo (zBo _), tv⟩ .nil
    have hcU : c ≠ U := fun e0 => (by subst e0; cases hcu)
    obtain ⟨hc1, hc2⟩ := hcap.resolve_left hcU
    refine aI (by simp only [inLH, bA, dT]; exact ⟨⟨⟨⟨by omega, by omega⟩, by omega⟩, bL hc1⟩, bL (by omega)⟩) ?_
    refine eI ((l.drop (o + i.toNat)).take ((IntKind.i64.wrap (i + IntKind.i64.wrap (e - i))).toNat - i.toNat)) (aI (by rw [h1s]; exact srcs i (IntKind.i64.wrap (i + IntKind.i64.wrap (e - i))) (bif c.beq i.toNat then o else o + i.toNat * (Try.prog.types[5]).size) _ _ hi1 (by omega) (by omega) ((by cases hb : c.beq i.toNat with | true => (have hb2 := aA hb; exact .inr (by omega)) | false => exact .inl (by rw [cF, h1s]; omega))) rfl) ?_)
    have eS : bs ⟨((l.drop (o + i.toNat)).take ((IntKind.i64.wrap (i + IntKind.i64.wrap (e - i))).toNat - i.toNat)).toArray⟩ = ((l.drop (o + i.toNat)).take ((IntKind.i64.wrap (i + IntKind.i64.wrap (e - i))).toNat - i.toNat)) := zEq _
    have eL : ((l.drop (o + i.toNat)).take ((IntKind.i64.wrap (i + IntKind.i64.wrap (e - i))).toNat - i.toNat)).length <= 1000000 := by rw [aU]; omega
    refine aI (zBe (by rw [eS]; have e9 : (bs (k, i, out).2.2).length = (bs out).length := rfl; omega)) ?_
    refine ⟨(k + 1, IntKind.i64.wrap (i + IntKind.i64.wrap (e - i)), catS out ⟨((l.drop (o + i.toNat)).take ((IntKind.i64.wrap (i + IntKind.i64.wrap (e - i))).toNat - i.toNat)).toArray⟩), ⟨h1, ⟨by show 0 <= IntKind.i64.wrap (i + IntKind.i64.wrap (e - i)); omega, by show IntKind.i64.wrap (i + IntKind.i64.wrap (e - i)) <= e; omega⟩, ?_, fun y hy => hinv y (by rw [hst, hp]; refine .txc h4 ?_; have hy : RfP _ a e (ps.drop (k + 1)) (IntKind.i64.wrap (i + IntKind.i64.wrap (e - i))) (bs (catS out ⟨((l.drop (o + i.toNat)).take ((IntKind.i64.wrap (i + IntKind.i64.wrap (e - i))).toNat - i.toNat)).toArray⟩)) y := hy; rw [zBl, eS, htake _ _ (by omega), ey] at hy; exact hy)⟩, ?_, ?_⟩
    ·show (bs (catS _ _)).length <= (k + 1) * 1001000
     rw [zBl, eS, aB]; omega
    ·show ps.length - (k + 1) < ps.length - k; omega
    exact rcq [1, 2, 3] ⟨(sL rfl rfl), (sP rfl rfl), (sI rfl), (sP rfl rfl), (sL rfl rfl), (sI rfl), ⟨_, rfl, .string _⟩, zAd rfl (by rw [wrapN (by omega) (by omega)]; omega), tv⟩ ⟨bpo (zAb l), bpo rfl, bpo rfl, bpo (zBo _), tv⟩ .nil
   have hcU : c ≠ U := fun e0 => (by subst e0; cases hcu)
   obtain ⟨hc1, hc2⟩ := hcap.resolve_left hcU
   refine aI (by simp only [inLH, bA, dT]; exact ⟨⟨⟨⟨by omega, by omega⟩, by omega⟩, bL hc1⟩, bL (by omega)⟩) ?_
   refine eI ((l.drop (o + i.toNat)).take ((e).toNat - i.toNat)) (aI (by rw [h1s]; exact srcs i (e) (bif c.beq i.toNat then o else o + i.toNat * (Try.prog.types[5]).size) _ _ hi1 (by omega) (by omega) ((by cases hb : c.beq i.toNat with | true => (have hb2 := aA hb; exact .inr (by omega)) | false => exact .inl (by rw [cF, h1s]; omega))) rfl) ?_)
   have eS : bs ⟨((l.drop (o + i.toNat)).take ((e).toNat - i.toNat)).toArray⟩ = ((l.drop (o + i.toNat)).take ((e).toNat - i.toNat)) := zEq _
   have eL : ((l.drop (o + i.toNat)).take ((e).toNat - i.toNat)).length <= 1000000 := by rw [aU]; omega
   refine aI (zKm (by rw [eS]; omega)) ?_
   refine ifK (fun h4 => ?_) (fun h4 => ?_)
   ·have h4 : texts ((l.drop (o + i.toNat)).take ((e).toNat - i.toNat)) = false := by rw [eS] at h4; simpa using h4
    rw [htake _ _ (by omega)] at h4
    refine aI ?_ ?_
    ·kernel_rfl
    exact aI rfl (zAk (rcq [1] (d := 8) (d2 := 2) (lv := [(8, .string ⟨#[]⟩), (9, pt 1)]) (bs := [(1, .cells [.int .i64 4, .int .i64 a] 48)]) (W := []) (m := 2) (df := []) ⟨⟨_, rfl, .string _⟩, (sP rfl rfl), tv⟩ ⟨bpo rfl, tv⟩ .nil) (fun f => hret _ _ f (hinv _ (by rw [hst, hp]; exact .txb h4))))
   have h4 : texts ((l.drop (o + i.toNat)).take ((e).toNat - i.toNat)) = true := by rw [eS] at h4; simpa using h4
   rw [htake _ _ (by omega)] at h4
   refine ifK (fun hcu => ?_) (fun hcu => ?_)
   ·refine aI (by simp only [inLH, bA, dT]; omega) ?_
    refine eI ((l.drop (o + i.toNat)).take ((IntKind.i64.wrap (i + IntKind.i64.wrap (e - i))).toNat - i.toNat)) (aI (by rw [h1s]; exact srcs i (IntKind.i64.wrap (i + IntKind.i64.wrap (e - i))) (o + i.toNat * (Try.prog.types[5]).size) _ _ hi1 (by omega) (by omega) (.inl (by rw [h1s]; omega)) rfl) ?_)
    have eS : bs ⟨((l.drop (o + i.toNat)).take ((IntKind.i64.wrap (i + IntKind.i64.wrap (e - i))).toNat - i.toNat)).toArray⟩ = ((l.drop (o + i.toNat)).take ((IntKind.i64.wrap (i + IntKind.i64.wrap (e - i))).toNat - i.toNat)) := zEq _
    have eL : ((l.drop (o + i.toNat)).take ((IntKind.i64.wrap (i + IntKind.i64.wrap (e - i))).toNat - i.toNat)).length <= 1000000 := by rw [aU]; omega
    refine aI (zBe (by rw [eS]; have e9 : (bs (k, i, out).2.2).length = (bs out).length := rfl; omega)) ?_
    refine ⟨(k + 1, IntKind.i64.wrap (i + IntKind.i64.wrap (e - i)), catS out ⟨((l.drop (o + i.toNat)).take ((IntKind.i64.wrap (i + IntKind.i64.wrap (e - i))).toNat - i.toNat)).toArray⟩), ⟨h1, ⟨by show 0 <= IntKind.i64.wrap (i + IntKind.i64.wrap (e - i)); omega, by show IntKind.i64.wrap (i + IntKind.i64.wrap (e - i)) <= e; omega⟩, ?_, fun y hy => hinv y (by rw [hst, hp]; refine .txc h4 ?_; have hy : RfP _ a e (ps.drop (k + 1)) (IntKind.i64.wrap (i + IntKind.i64.wrap (e - i))) (bs (catS out ⟨((l.drop (o + i.toNat)).take ((IntKind.i64.wrap (i + IntKind.i64.wrap (e - i))).toNat - i.toNat)).toArray⟩)) y := hy; rw [zBl, eS, htake _ _ (by omega), ey] at hy; exact hy)⟩, ?_, ?_⟩
    ·show (bs (catS _ _)).length <= (k + 1) * 1001000
     rw [zBl, eS, aB]; omega
    ·show ps.length - (k + 1) < ps.length - k; omega
    exact rcq [1, 2, 3] ⟨(sL rfl rfl), (sP rfl rfl), (sI rfl), (sP rfl rfl), (sL rfl rfl), (sI rfl), ⟨_, rfl, .string _⟩, zAd rfl (by rw [wrapN (by omega) (by omega)]; omega), tv⟩ ⟨bpo (zAb l), bpo rfl, bpo rfl, bpo (zBo _), tv⟩ .nil
   have hcU : c ≠ U := fun e0 => (by subst e0; cases hcu)
   obtain ⟨hc1, hc2⟩ := hcap.resolve_left hcU
   refine aI (by simp only [inLH, bA, dT]; exact ⟨⟨⟨⟨by omega, by omega⟩, by omega⟩, bL hc1⟩, bL (by omega)⟩) ?_
   refine eI ((l.drop (o + i.toNat)).take ((IntKind.i64.wrap (i + IntKind.i64.wrap (e - i))).toNat - i.toNat)) (aI (by rw [h1s]; exact srcs i (IntKind.i64.wrap (i + IntKind.i64.wrap (e - i))) (bif c.beq i.toNat then o else o + i.toNat * (Try.prog.types[5]).size) _ _ hi1 (by omega) (by omega) ((by cases hb : c.beq i.toNat with | true => (have hb2 := aA hb; exact .inr (by omega)) | false => exact .inl (by rw [cF, h1s]; omega))) rfl) ?_)
   have eS : bs ⟨((l.drop (o + i.toNat)).take ((IntKind.i64.wrap (i + IntKind.i64.wrap (e - i))).toNat - i.toNat)).toArray⟩ = ((l.drop (o + i.toNat)).take ((IntKind.i64.wrap (i + IntKind.i64.wrap (e - i))).toNat - i.toNat)) := zEq _
   have eL : ((l.drop (o + i.toNat)).take ((IntKind.i64.wrap (i + IntKind.i64.wrap (e - i))).toNat - i.toNat)).length <= 1000000 := by rw [aU]; omega
   refine aI (zBe (by rw [eS]; have e9 : (bs (k, i, out).2.2).length = (bs out).length := rfl; omega)) ?_
   refine ⟨(k + 1, IntKind.i64.wrap (i + IntKind.i64.wrap (e - i)), catS out ⟨((l.drop (o + i.toNat)).take ((IntKind.i64.wrap (i + IntKind.i64.wrap (e - i))).toNat - i.toNat)).toArray⟩), ⟨h1, ⟨by show 0 <= IntKind.i64.wrap (i + IntKind.i64.wrap (e - i)); omega, by show IntKind.i64.wrap (i + IntKind.i64.wrap (e - i)) <= e; omega⟩, ?_, fun y hy => hinv y (by rw [hst, hp]; refine .txc h4 ?_; have hy : RfP _ a e (ps.drop (k + 1)) (IntKind.i64.wrap (i + IntKind.i64.wrap (e - i))) (bs (catS out ⟨((l.drop (o + i.toNat)).take ((IntKind.i64.wrap (i + IntKind.i64.wrap (e - i))).toNat - i.toNat)).toArray⟩)) y := hy; rw [zBl, eS, htake _ _ (by omega), ey] at hy; exact hy)⟩, ?_, ?_⟩
   ·show (bs (catS _ _)).length <= (k + 1) * 1001000
    rw [zBl, eS, aB]; omega
   ·show ps.length - (k + 1) < ps.length - k; omega
   exact rcq [1, 2, 3] ⟨(sL rfl rfl), (sP rfl rfl), (sI rfl), (sP rfl rfl), (sL rfl rfl), (sI rfl), ⟨_, rfl, .string _⟩, zAd rfl (by rw [wrapN (by omega) (by omega)]; omega), tv⟩ ⟨bpo (zAb l), bpo rfl, bpo rfl, bpo (zBo _), tv⟩ .nil
  | sz z =>
   rw [hp] at hsd
   refine eI (z : Int) (aI hsd ?_)
   have ew : IntKind.i64.wrap (e - i) = e - i := wrapN (by omega) (by omega)
   refine ifK (fun h3 => ?_) (fun h3 => ?_)
   ·have h3 : (z : Int) > e - i := by have h3 := oT h3; rw [ew] at h3; exact h3
    refine aI ?_ ?_
    ·kernel_rfl
    exact aI rfl (zAk (rcq [1] (d := 8) (d2 := 2) (lv := [(8, .string ⟨#[]⟩), (9, pt 1)]) (bs := [(1, .cells [.int .i64 4, .int .i64 a] 48)]) (W := []) (m := 2) (df := []) ⟨⟨_, rfl, .string _⟩, (sP rfl rfl), tv⟩ ⟨bpo rfl, tv⟩ .nil) (fun f => hret _ _ f (hinv _ (by rw [hst, hp]; exact .szb h3))))
   have h3 : ¬ (z : Int) > e - i := by have h3 := oF h3; rw [ew] at h3; exact h3
   have ey : IntKind.i64.wrap (i + (z : Int)) = i + z := wrapN (by omega) (by omega)
   refine ifK (fun _ => ?_) (fun h2 => ab h2 (by simp [inI]; omega))
   refine eI (z : Int) (aI hsd ?_)
   refine ifK (fun hcu => ?_) (fun hcu => ?_)
   ·refine aI (by simp only [inLH, bA, dT]; omega) ?_
    refine eI ((l.drop (o + i.toNat)).take ((IntKind.i64.wrap (i + (z : Int))).toNat - i.toNat)) (aI (by rw [h1s]; exact srcs i (IntKind.i64.wrap (i + (z : Int))) (o + i.toNat * (Try.prog.types[5]).size) _ _ hi1 (by omega) (by omega) (.inl (by rw [h1s]; omega)) rfl) ?_)
    have eS : bs ⟨((l.drop (o + i.toNat)).take ((IntKind.i64.wrap (i + (z : Int))).toNat - i.toNat)).toArray⟩ = ((l.drop (o + i.toNat)).take ((IntKind.i64.wrap (i + (z : Int))).toNat - i.toNat)) := zEq _
    have eL : ((l.drop (o + i.toNat)).take ((IntKind.i64.wrap (i + (z : Int))).toNat - i.toNat)).length <= 1000000 := by rw [aU]; omega
    refine aI (zBe (by rw [eS]; have e9 : (bs (k, i, out).2.2).length = (bs out).length := rfl; omega)) ?_
    refine ⟨(k + 1, IntKind.i64.wrap (i + (z : Int)), catS out ⟨((l.drop (o + i.toNat)).take ((IntKind.i64.wrap (i + (z : Int))).toNat - i.toNat)).toArray⟩), ⟨h1, ⟨by show 0 <= IntKind.i64.wrap (i + (z : Int)); omega, by show IntKind.i64.wrap (i + (z : Int)) <= e; omega⟩, ?_, fun y hy => hinv y (by rw [hst, hp]; refine .szc h3 ?_; have hy : RfP _ a e (ps.drop (k + 1)) (IntKind.i64.wrap (i + (z : Int))) (bs (catS out ⟨((l.drop (o + i.toNat)).take ((IntKind.i64.wrap (i + (z : Int))).toNat - i.toNat)).toArray⟩)) y := hy; rw [zBl, eS, htake _ _ (by omega), ey] at hy; exact hy)⟩, ?_, ?_⟩
    ·show (bs (catS _ _)).length <= (k + 1) * 1001000
     rw [zBl, eS, aB]; omega
    ·show ps.length - (k + 1) < ps.length - k; omega
    exact rcq [1, 2, 3] ⟨(sL rfl rfl), (sP rfl rfl), (sI rfl), (sP rfl rfl), (sL rfl rfl), (sI rfl), ⟨_, rfl, .string _⟩, zAd rfl (by rw [wrapN (by omega) (by omega)]; omega), tv⟩ ⟨bpo (zAb l), bpo rfl, bpo rfl, bpo (zBo _), tv⟩ .nil
   have hcU : c ≠ U := fun e0 => (by subst e0; cases hcu)
   obtain ⟨hc1, hc2⟩ := hcap.resolve_left hcU
   refine aI (by simp only [inLH, bA, dT]; exact ⟨⟨⟨⟨by omega, by omega⟩, by omega⟩, bL hc1⟩, bL (by omega)⟩) ?_
   refine eI ((l.drop (o + i.toNat)).take ((IntKind.i64.wrap (i + (z : Int))).toNat - i.toNat)) (aI (by rw [h1s]; exact srcs i (IntKind.i64.wrap (i + (z : Int))) (bif c.beq i.toNat then o else o + i.toNat * (Try.prog.types[5]).size) _ _ hi1 (by omega) (by omega) ((by cases hb : c.beq i.toNat with | true => (have hb2 := aA hb; exact .inr (by omega)) | false => exact .inl (by rw [cF, h1s]; omega))) rfl) ?_)
   have eS : bs ⟨((l.drop (o + i.toNat)).take ((IntKind.i64.wrap (i + (z : Int))).toNat - i.toNat)).toArray⟩ = ((l.drop (o + i.toNat)).take ((IntKind.i64.wrap (i + (z : Int))).toNat - i.toNat)) := zEq _
   have eL : ((l.drop (o + i.toNat)).take ((IntKind.i64.wrap (i + (z : Int))).toNat - i.toNat)).length <= 1000000 := by rw [aU]; omega
   refine aI (zBe (by rw [eS]; have e9 : (bs (k, i, out).2.2).length = (bs out).length := rfl; omega)) ?_
   refine ⟨(k + 1, IntKind.i64.wrap (i + (z : Int)), catS out ⟨((l.drop (o + i.toNat)).take ((IntKind.i64.wrap (i + (z : Int))).toNat - i.toNat)).toArray⟩), ⟨h1, ⟨by show 0 <= IntKind.i64.wrap (i + (z : Int)); omega, by show IntKind.i64.wrap (i + (z : Int)) <= e; omega⟩, ?_, fun y hy => hinv y (by rw [hst, hp]; refine .szc h3 ?_; have hy : RfP _ a e (ps.drop (k + 1)) (IntKind.i64.wrap (i + (z : Int))) (bs (catS out ⟨((l.drop (o + i.toNat)).take ((IntKind.i64.wrap (i + (z : Int))).toNat - i.toNat)).toArray⟩)) y := hy; rw [zBl, eS, htake _ _ (by omega), ey] at hy; exact hy)⟩, ?_, ?_⟩
   ·show (bs (catS _ _)).length <= (k + 1) * 1001000
    rw [zBl, eS, aB]; omega
   ·show ps.length - (k + 1) < ps.length - k; omega
   exact rcq [1, 2, 3] ⟨(sL rfl rfl), (sP rfl rfl), (sI rfl), (sP rfl rfl), (sL rfl rfl), (sI rfl), ⟨_, rfl, .string _⟩, zAd rfl (by rw [wrapN (by omega) (by omega)]; omega), tv⟩ ⟨bpo (zAb l), bpo rfl, bpo rfl, bpo (zBo _), tv⟩ .nil
 have h1 : ¬ k < ps.length := by have := oF h1; omega
 exact aI rfl (zAk (rcq [1, 2] (d := 8) (d2 := 3) (lv := [(9, pt 1), (11, .int .i64 e), (13, pt 2), (15, .int .i64 i), (16, .string out)]) (bs := [(1, .cells [.int .i64 0, .int .i64 0] 48), (2, .cells [.int .i64 4, .int .i64 a] 48)]) (W := []) (m := 3) (df := []) ⟨(sP rfl rfl), (sI rfl), (sP rfl rfl), (sI rfl), ⟨_, rfl, .string _⟩, tv⟩ ⟨bpo rfl, bpo rfl, tv⟩ .nil) (fun f => hex _ _ f (fun y hy => hinv y (by rw [show ps.drop k = [] from bE (by omega)]; exact hy))))
end
section
open Go Go.RowKit
theorem rfread_fn (l : Bl) (o n c : Nat) (a z t : Int) (h : o + n <= l.length) (hn : n <= 1000000) (hcap : c = U \/ n <= c /\ c <= 9223372036854775807) : ∃ r, FnS Try.prog 0 105 [.slice (some ⟨0, o, none⟩) n c, .int .i64 a, .int .i64 z, .int .i64 t] (heap 1 [(0, .win (l.map byV) 1)]) 1 r /\ rrR ((l.drop o).take n) a z t r := by
 have h1s : (Try.prog.types[5]).size = 1 := by kernel_rfl
 obtain ⟨p1, p2, _⟩ := prT_form t
 have p3 : (prT t).length < 900 := by unfold prT; repeat' split
                                      all_goals decide
 have p4 : (formL t).length = (prT t).length := by rw [p1, aT]
 refine zAu mixed tbD10 [0] Try.func105 (c := bodyOf Try.f105) (by kernel_rfl) ?_
 refine ifK (fun g => ?_) (fun h1 => ?_)
 ·exact ⟨([], 2, 0), _, _, _, rfl, zAl rfl, zDa (.inl (oT g))⟩
 refine ifK (fun g => ?_) (fun h2 => ?_)
 ·exact ⟨([], 2, 0), _, _, _, rfl, zAl rfl, zDa (.inr (.inl (oT g)))⟩
 refine ifK (fun g => ?_) (fun h3 => ?_)
 ·exact ⟨([], 2, 0), _, _, _, rfl, zAl rfl, zDa (.inr (.inr (.inl (oT g))))⟩
 refine ifK (fun g => ?_) (fun h4 => ?_)
 ·exact ⟨([], 2, 0), _, _, _, rfl, zAl rfl, zDa (.inr (.inr (.inr (oT g))))⟩
 have hN1 : ¬ (t < 0 \/ t > 65535 \/ z < 0 \/ z > 65535) := by have q1 := oF h1; have q2 := oF h2; have q3 := oF h3; have q4 := oF h4; omega
 refine eI (⟨0, o, n, c, l⟩, a, z) (aI ⟨rfl, ⟨rfl, h⟩, (by show n <= 1000000000; omega), hcap⟩ ?_)
 refine ifK (fun g => ab (show z < 0 from oT g) (by omega)) (fun _ => ?_)
 refine ifK (fun g => ?_) (fun h5 => ?_)
 ·refine aI ?_ ?_
  ·kernel_rfl
  exact ⟨([], 5, 0), _, _, _, rfl, zAl rfl, zEy hN1 (by rw [lenB h]; simpa using g)⟩
 have h5 : ¬ (a < 0 \/ a > (n : Int)) := fun q => by have h5 : (decide (a < 0) || decide (a > (n : Int))) = false := h5; simp at h5; omega
 have hN2 : ¬ (a < 0 \/ a > (((l.drop o).take n).length : Int)) := by rw [lenB h]; omega
 refine ifK (fun g => ?_) (fun h7 => ?_)
 ·refine aI ?_ ?_
  ·kernel_rfl
  exact ⟨([], 4, (n : Int)), _, _, _, rfl, zAl rfl, zKf hN1 hN2 (lenB h) (oT g)⟩
 have h7 : ¬ (n : Int) - a < z := oF h7
 have hN3 : ¬ (((l.drop o).take n).length : Int) - a < z := by rw [lenB h]; exact h7
 refine ifK (fun _ => ?_) (fun _ => ?_)
 all_goals
  refine rf_loop l o n c a (a + z) (prT t) (by omega) h hn hcap ⟨by omega, by omega, by omega⟩ (rcq [1, 4, 5] ⟨(sL rfl rfl), (sP rfl rfl), (sI rfl), (sP rfl rfl), ⟨_, rfl, by rw [<- p4]; exact .sl _ _ _ _ _ rfl⟩, (sI rfl), ⟨_, rfl, .string _⟩, (sI rfl), tv⟩ ⟨bpo (zAb l), bpo rfl, bpo rfl, ⟨by decide, _, rfl, by rw [<- p1]; exact .same (zBo _)⟩, tv⟩ .nil) (fun er pos f w4 => ?_) (fun i out f hO => ?_)
  ·exact ⟨_, _, _, _, rfl, zAl rfl, RfP.q hN1 hN2 hN3 w4⟩
  refine ifK (fun g => ?_) (fun h8 => ?_)
  ·refine aI ?_ ?_
   ·kernel_rfl
   exact ⟨([], 4, a), _, _, _, rfl, zAl rfl, RfP.q hN1 hN2 hN3 (hO _ (.off (fun q => by rw [q] at g; simp at g)))⟩
  have h8 : i = a + z := by simpa using h8
  exact ⟨(bs out, 0, 0), _, _, _, (by show _ = Res.ret (.tuple #[str (bs out), .agg #[.int .i64 0, .int .i64 0]]) _ _ _; rw [<- str_mk out]; first | done | rfl), zAl rfl, RfP.q hN1 hN2 hN3 (hO _ (.fin h8))⟩
noncomputable def cq_rfread : CtQ Try.prog :=
 { f := 105, X := RdB × Int × Int × Int, pre := fun x a H _ => a = [x.1.sl, .int .i64 x.2.1, .int .i64 x.2.2.1, .int .i64 x.2.2.2] /\ x.1.at H /\ x.1.n <= 1000000 /\ (x.1.c = U \/ x.1.n <= x.1.c /\ x.1.c <= 9223372036854775807), Q := fun x v => ∃ y, v = rdV y /\ rdQ x.1.B x.2.1 x.2.2.1 x.2.2.2 y,
   ok := fun ⟨⟨b, o, n, c, l⟩, i, z, t⟩ a H m ⟨h1, h2, h3, h4⟩ => by
    subst h1
    obtain ⟨r, hF, y, H', m', wr, rfl, hw, hq⟩ := rfread_fn l o n c i z t h2.2 h3 h4
    exact ⟨rdV y, zCn [b] hF hw zGh (.cons _ _ _ _ (.sl _ _ _ _ _ rfl) (zCg rfl)) (zDe h2.1 (zAb l)) rfl, y, rfl, hq⟩,
   uniq := fun ⟨x, i, z, t⟩ ⟨y, i', z', t'⟩ a H m ⟨h1, h2, _⟩ ⟨k1, k2, _⟩ => by
    rw [h1] at k1
    simp only [aQ, Value.int.injEq, true_and, and_true] at k1
    obtain ⟨e1, rfl, rfl, rfl⟩ := k1
    rw [RdB.uniq e1 h2 k2] }
noncomputable def zUx : Ct Try.prog 0 := cq_rfread.ctY (Bs × Int × Int) rdV (fun (x : RdB × Int × Int × Int) y => rdQ x.1.B x.2.1 x.2.2.1 x.2.2.2 y) (fun _ _ h => h)
end
section
open Go Go.RowKit
noncomputable def baseR10 : List (Ct Try.prog 0) := [zOf, ct_rget16, ct_rget32, zUx]
noncomputable def inl_rq : Ct Try.prog 0 := Ct.inl (tbOf mixed baseR10) mixed [0] 65 Try.f65 Try.func65 (bodyOf Try.f65) (by kernel_rfl)
noncomputable def tbR10 : Tb Try.prog 0 := tbOf mixed (inl_rq :: baseR10)
theorem zPg (l : Bl) (o n c : Nat) (i : Int) (h : o + n <= l.length) (hn : n <= 1000000) (hcap : c = U \/ n <= c /\ c <= 9223372036854775807) : ∃ r, FnS Try.prog 0 65 [.slice (some ⟨0, o, none⟩) n c, .int .i64 i] (heap 1 [(0, .win (l.map byV) 1)]) 1 r /\ ∃ v H m wr, r = .ret v H m wr /\ (∀ k ∈ wr, 1 <= k) /\ plainV 8 v = true /\ queQ ((l.drop o).take n) i v := by
 have hB := lenB h
 have htake : ∀ j m : Nat, j + m <= n -> numAt ((l.drop o).take n) j m = beN ((l.drop (o + j)).take m) := fun j m hjm => by unfold numAt; rw [List.drop_take, List.take_take, List.drop_drop, Nat.min_eq_left (by omega)]
 refine zAu mixed tbR10 [0] Try.func65 (c := bodyOf Try.f65) (by kernel_rfl) ?_
 refine eI (⟨0, o, n, c, l⟩, i) (aI ⟨rfl, ⟨rfl, h⟩, (by show n <= _; omega), hcap⟩ ?_)
 intro r hr
 obtain ⟨s, nx, e, pos⟩ := r
 have hr : rdOk ((l.drop o).take n) i ⟨s, nx, e, pos⟩ := hr
 refine ifK (fun g => ?_) (fun g => ?_)
 ·have g : e ≠ 0 := by simpa using g
  refine aI ?_ ?_
  ·kernel_rfl
  exact ⟨queBad e pos, _, _, _, rfl, zAl rfl, rfl, .name hr g⟩
 have g : e = 0 := by simpa using g
 subst g
 obtain ⟨q1, q2, _⟩ := hr.fine.2 rfl
 have q1 : 0 <= nx := q1
 have q2 : nx <= (((l.drop o).take n).length : Int) := q2
 rw [hB] at q2
 obtain ⟨k, rfl⟩ := Int.eq_ofNat_of_zero_le q1
 refine eI (⟨0, o, n, c, l⟩, ((k + 0 : Nat) : Int)) (aI ⟨rfl, ⟨rfl, h⟩, (by show n <= _; omega), hcap⟩ ?_)
 refine ifK (fun q => ab q (by simp only [Bool.or_eq_true, dT]; omega)) (fun _ => ?_)
 refine ifK (fun s0 => ?_) (fun s0 => ?_)
 rotate_left
 ·have s0 : ¬ k + 2 <= n := fun e => by rw [show Nat.ble (((k + 0 : Nat) : Int).toNat + 2) n = true from bL e] at s0; cases s0
  refine aI ?_ ?_
  ·kernel_rfl
  exact ⟨queBad 4 (n : Int), _, _, _, rfl, zAl rfl, rfl, by have := queQ.short hr rfl rfl (show ((l.drop o).take n).length < _ by rw [hB]; omega); rw [hB] at this; exact this⟩
 have s0 : k + 2 <= n := aE s0
 refine eI (⟨0, o, n, c, l⟩, ((k + 2 : Nat) : Int)) (aI ⟨rfl, ⟨rfl, h⟩, (by show n <= _; omega), hcap⟩ ?_)
 refine ifK (fun q => ab q (by simp only [Bool.or_eq_true, dT]; omega)) (fun _ => ?_)
 refine ifK (fun s2 => ?_) (fun s2 => ?_)
 rotate_left
 ·have s2 : ¬ k + 4 <= n := fun e => by rw [show Nat.ble (((k + 2 : Nat) : Int).toNat + 2) n = true from bL e] at s2; cases s2
  refine aI ?_ ?_
  ·kernel_rfl
  exact ⟨queBad 4 (n : Int), _, _, _, rfl, zAl rfl, rfl, by have := queQ.short hr rfl rfl (show ((l.drop o).take n).length < _ by rw [hB]; omega); rw [hB] at this; exact this⟩
 have s2 : k + 4 <= n := aE s2
 have fin := queQ.fine hr rfl rfl (show k + 4 <= ((l.drop o).take n).length by rw [hB]; omega)
 rw [htake k 2 (by omega), htake (k + 2) 2 (by omega)] at fin
 exact ⟨_, _, _, _, rfl, zAl rfl, rfl, fin⟩
theorem zRx (l : Bl) (o n c : Nat) (i : Int) (h : o + n <= l.length) (hn : n <= 1000000) (hcap : c = U \/ n <= c /\ c <= 9223372036854775807) : ∃ r, FnS Try.prog 0 89 [.slice (some ⟨0, o, none⟩) n c, .int .i64 i] (heap 1 [(0, .win (l.map byV) 1)]) 1 r /\ ∃ v H m wr, r = .ret v H m wr /\ (∀ k ∈ wr, 1 <= k) /\ plainV 8 v = true /\ recQ ((l.drop o).take n) i v := by
 have hB := lenB h
 have htake : ∀ j m : Nat, j + m <= n -> numAt ((l.drop o).take n) j m = beN ((l.drop (o + j)).take m) := fun j m hjm => by unfold numAt; rw [List.drop_take, List.take_take, List.drop_drop, Nat.min_eq_left (by omega)]
 refine zAu mixed tbR10 [0] Try.func89 (c := bodyOf Try.f89) (by kernel_rfl) ?_
 refine eI (⟨0, o, n, c, l⟩, i) (aI ⟨rfl, ⟨rfl, h⟩, (by show n <= _; omega), hcap⟩ ?_)
 intro r hr
 obtain ⟨s, nx, e, pos⟩ := r
 have hr : rdOk ((l.drop o).take n) i ⟨s, nx, e, pos⟩ := hr
 refine ifK (fun g => ?_) (fun g => ?_)
 ·have g : e ≠ 0 := by simpa using g
  refine aI ?_ ?_
  ·kernel_rfl
  refine ifK (fun _ => ?_) (fun q => ab q (by simpa using g))
  refine aI ?_ ?_
  ·kernel_rfl
  exact ⟨recBad e pos, _, _, _, rfl, zAl rfl, rfl, .name hr g⟩
 have g : e = 0 := by simpa using g
 subst g
 obtain ⟨q1, q2, _⟩ := hr.fine.2 rfl
 have q1 : 0 <= nx := q1
 have q2 : nx <= (((l.drop o).take n).length : Int) := q2
 rw [hB] at q2
 obtain ⟨k, rfl⟩ := Int.eq_ofNat_of_zero_le q1
 refine eI (⟨0, o, n, c, l⟩, ((k + 0 : Nat) : Int)) (aI ⟨rfl, ⟨rfl, h⟩, (by show n <= _; omega), hcap⟩ ?_)
 refine ifK (fun q => ab q (by simp only [Bool.or_eq_true, dT]; omega)) (fun _ => ?_)
 refine ifK (fun s0 => ?_) (fun s0 => ?_)
 rotate_left
 ·have s0 : ¬ k + 2 <= n := fun e => by rw [show Nat.ble (((k + 0 : Nat) : Int).toNat + 2) n = true from bL e] at s0; cases s0
  refine aI ?_ ?_
  ·kernel_rfl
  refine aI ?_ ?_
  ·kernel_rfl
  exact ⟨recBad 4 (n : Int), _, _, _, rfl, zAl rfl, rfl, by have := recQ.short hr rfl rfl (show ((l.drop o).take n).length < _ by rw [hB]; omega); rw [hB] at this; exact this⟩
 have s0 : k + 2 <= n := aE s0
 refine eI (⟨0, o, n, c, l⟩, ((k + 2 : Nat) : Int)) (aI ⟨rfl, ⟨rfl, h⟩, (by show n <= _; omega), hcap⟩ ?_)
 refine ifK (fun q => ab q (by simp only [Bool.or_eq_true, dT]; omega)) (fun _ => ?_)
 refine ifK (fun s2 => ?_) (fun s2 => ?_)
 rotate_left
 ·have s2 : ¬ k + 4 <= n := fun e => by rw [show Nat.ble (((k + 2 : Nat) : Int).toNat + 2) n = true from bL e] at s2; cases s2
  refine aI ?_ ?_
  ·kernel_rfl
  refine aI ?_ ?_
  ·kernel_rfl
  exact ⟨recBad 4 (n : Int), _, _, _, rfl, zAl rfl, rfl, by have := recQ.short hr rfl rfl (show ((l.drop o).take n).length < _ by rw [hB]; omega); rw [hB] at this; exact this⟩
 have s2 : k + 4 <= n := aE s2
 refine eI (⟨0, o, n, c, l⟩, ((k + 4 : Nat) : Int)) (aI ⟨rfl, ⟨rfl, h⟩, (by show n <= _; omega), hcap⟩ ?_)
 refine ifK (fun q => ab q (by simp only [Bool.or_eq_true, dT]; omega)) (fun _ => ?_)
 refine ifK (fun s4 => ?_) (fun s4 => ?_)
 rotate_left
 ·have s4 : ¬ k + 8 <= n := fun e => by rw [show Nat.ble (((k + 4 : Nat) : Int).toNat + 4) n = true from bL e] at s4; cases s4
  refine aI ?_ ?_
  ·kernel_rfl
  exact ⟨recBad 4 (n : Int), _, _, _, rfl, zAl rfl, rfl, by have := recQ.short hr rfl rfl (show ((l.drop o).take n).length < _ by rw [hB]; omega); rw [hB] at this; exact this⟩
 have s4 : k + 8 <= n := aE s4
 refine eI (⟨0, o, n, c, l⟩, ((k + 8 : Nat) : Int)) (aI ⟨rfl, ⟨rfl, h⟩, (by show n <= _; omega), hcap⟩ ?_)
 refine ifK (fun q => ab q (by simp only [Bool.or_eq_true, dT]; omega)) (fun _ => ?_)
 refine ifK (fun s8 => ?_) (fun s8 => ?_)
 rotate_left
 ·have s8 : ¬ k + 10 <= n := fun e => by rw [show Nat.ble (((k + 8 : Nat) : Int).toNat + 2) n = true from bL e] at s8; cases s8
  refine aI ?_ ?_
  ·kernel_rfl
  exact ⟨recBad 4 (n : Int), _, _, _, rfl, zAl rfl, rfl, by have := recQ.short hr rfl rfl (show ((l.drop o).take n).length < _ by rw [hB]; omega); rw [hB] at this; exact this⟩
 have s8 : k + 10 <= n := aE s8
 refine eI (⟨0, o, n, c, l⟩, ((k + 10 : Nat) : Int), (beN ((l.drop (o + (k + 8))).take 2) : Int), (beN ((l.drop (o + k)).take 2) : Int)) (aI ⟨rfl, ⟨rfl, h⟩, (by show n <= _; omega), hcap⟩ ?_)
 intro y hy
 have hy : rdQ ((l.drop o).take n) ((k + 10 : Nat) : Int) (beN ((l.drop (o + (k + 8))).take 2) : Int) (beN ((l.drop (o + k)).take 2) : Int) y := hy
 have hy2 := hy
 rw [<- htake (k + 8) 2 (by omega), <- htake k 2 (by omega)] at hy2
 have hl : k + 10 <= ((l.drop o).take n).length := by rw [hB]; omega
 refine ifK (fun g => ?_) (fun g => ?_)
 ·have g : y.2.1 ≠ 0 := by simpa using g
  refine aI ?_ ?_
  ·kernel_rfl
  exact ⟨recBad y.2.1 y.2.2, _, _, _, rfl, zAl rfl, rfl, .data hr rfl rfl hl hy2 g⟩
 have g : y.2.1 = 0 := by simpa using g
 have fin := recQ.fine hr rfl rfl hl hy2 g
 have hy3 := (hy.fine.2 g).2.2.2
 rw [hB] at hy3
 rw [htake k 2 (by omega), htake (k + 2) 2 (by omega), htake (k + 4) 4 (by omega), htake (k + 8) 2 (by omega)] at fin
 have ew : IntKind.i64.wrap (((k + 10 : Nat) : Int) + (beN ((l.drop (o + (k + 8))).take 2) : Int)) = ((k + 10 : Nat) : Int) + (beN ((l.drop (o + (k + 8))).take 2) : Int) := wrapM (by omega) (by omega)
 unfold zRv at fin
 refine ifK (fun g2 => ?_) (fun g2 => ?_)
 ·have g2 : (beN ((l.drop (o + (k + 4))).take 4) : Int) >= 2147483648 := oT g2
  rw [if_pos (by omega)] at fin
  rw [<- ew] at fin
  exact ⟨_, _, _, _, rfl, zAl rfl, rfl, fin⟩
 have g2 : ¬ (beN ((l.drop (o + (k + 4))).take 4) : Int) >= 2147483648 := oF g2
 rw [if_neg (by omega)] at fin
 rw [<- ew] at fin
 exact ⟨_, _, _, _, rfl, zAl rfl, rfl, fin⟩
end
section
open Go Go.RowKit
def mkS (l : Bl) : ByteArray := ⟨l.toArray⟩
end
section
open Go Go.RowKit
section
variable {ev : Operand -> Value} {G : Gh} {n : Nat} {o : Oper}
end
end
section
open Go Go.RowKit
end
section
open Go Go.RowKit
end
section
open Go Go.RowKit
section
variable {P : Program} {g0 nt : Nat}
end
end
section
open Go Go.RowKit
end
section
open Go Go.RowKit
end
section
open Go Go.RowKit
end
section
open Go Go.RowKit
end
section
open Go Go.RowKit
end
section
open Go Go.RowKit
end
section
open Go Go.RowKit
end
section
open Go Go.RowKit
end
section
open Go Go.RowKit
end
section
open Go Go.RowKit
end
section
open Go Go.RowKit
end
section
open Go Go.RowKit
end
section
open Go Go.RowKit
end
section
open Go Go.RowKit
end
section
open Go Go.RowKit
end
section
open Go Go.RowKit
end
section
open Go Go.RowKit
end
section
open Go Go.RowKit
end
section
open Go Go.RowKit
end
section
open Go Go.RowKit
noncomputable def inl_lists : Ct Try.prog 0 := Ct.inl (tbOf mixed []) mixed [] 46 Try.f46 Try.func46 (bodyOf Try.f46) (by kernel_rfl)
end
section
open Go Go.RowKit
abbrev MwI := QuX ⊕ RcX
end
section
open Go Go.RowKit
structure LtM where
 m : MsT
 q : Value
 an : Value
 ns : Value
 ar : Value
def LtM.v (x : LtM) : Value := .agg #[.int .i64 x.m.id, .int .i64 x.m.fl, x.q, x.an, x.ns, x.ar]
def LtM.at (x : LtM) (H : Tr AObj) : Prop := LtL layQ H x.q x.m.q /\ LtL layR H x.an x.m.an /\ LtL layR H x.ns x.m.ns /\ LtL layR H x.ar x.m.ar
theorem LtM.uniq {x y : LtM} {H : Tr AObj} (e : x.v = y.v) (h : x.at H) (k : y.at H) : x = y := by
 obtain ⟨⟨i, f, q, a, n, r⟩, vq, va, vn, vr⟩ := x
 obtain ⟨⟨i', f', q', a', n', r'⟩, vq', va', vn', vr'⟩ := y
 simp only [LtM.v, Value.agg.injEq, Array.mk.injEq, aQ, Value.int.injEq, true_and, and_true] at e
 obtain ⟨rfl, rfl, rfl, rfl, rfl, rfl⟩ := e
 obtain ⟨h1, h2, h3, h4⟩ := h
 obtain ⟨k1, k2, k3, k4⟩ := k
 have e1 : q = q' := h1.uniq k1
 have e2 : a = a' := h2.uniq k2
 have e3 : n = n' := h3.uniq k3
 have e4 : r = r' := h4.uniq k4
 subst e1; subst e2; subst e3; subst e4; rfl
theorem LtM.frz {x : LtM} {H : Tr AObj} (h : x.at H) : FrzP True Try.prog 0 H x.v x.m.v := by
 obtain ⟨h1, h2, h3, h4⟩ := h
 exact .agg _ _ (.cons _ _ _ _ (.one _ _ (.plain _ rfl)) (.cons _ _ _ _ (.one _ _ (.plain _ rfl)) (.cons _ _ _ _ (h1.frz (by kernel_rfl)) (.cons _ _ _ _ (h2.frz (by kernel_rfl)) (.cons _ _ _ _ (h3.frz (by kernel_rfl)) (.cons _ _ _ _ (h4.frz (by kernel_rfl)) .nil))))))
def MsT.lt (m : MsT) : LtM := ⟨m, trQ m.q, trR m.an, trR m.ns, trR m.ar⟩
theorem MsT.lt_at (m : MsT) (H : Tr AObj) : m.lt.at H := ⟨.tree _ _ _, .tree _ _ _, .tree _ _ _, .tree _ _ _⟩
end
section
open Go Go.RowKit
end
section
open Go Go.RowKit
end
section
open Go Go.RowKit
end
section
open Go Go.RowKit
def MsT.items (m : MsT) : List MwI := m.q.map .inl ++ (m.an.map .inr ++ (m.ns.map .inr ++ m.ar.map .inr))
end
section
open Go Go.RowKit
end
section
open Go Go.RowKit
end
section
open Go Go.RowKit
end
section
open Go Go.RowKit
end
section
open Go Go.RowKit Go.Shelf
attribute [local go_sem] Oper.semAt_some
end
section
open Go Go.RowKit
end
section
open Go Go.RowKit
end
section
open Go Go.RowKit
end
section
open Go Go.RowKit
end
section
open Go Go.RowKit
end
section
open Go Go.RowKit
end
section
open Go Go.RowKit
def MsT.same (a b : MsT) : Bool := (a.id == b.id) && ((a.fl == b.fl) && (decide (a.q = b.q) && (decide (a.an = b.an) && (decide (a.ns = b.ns) && decide (a.ar = b.ar)))))
noncomputable def tbEt6 : Tb Try.prog 0 := tbOf mixed [ct_sameQT, zUy]
theorem sameM_tr (a b : MsT) (hf : a.fit 1000000) : ∃ r, FnS Try.prog 0 26 [a.v, b.v] .e 0 r /\ ∃ H k wr, r = .ret (.bool (a.same b)) H k wr := by
 obtain ⟨f1, f2, f3, f4⟩ := hf
 refine zAu mixed tbEt6 [] Try.func26 (c := bodyOf Try.f26) (by kernel_rfl) ?_
 unfold MsT.same
 refine ifK (fun g1 => ?_) (fun g1 => ?_)
 rotate_left
 ·rw [show (a.id == b.id) = false from g1]; exact ⟨_, _, _, rfl⟩
 rw [show (a.id == b.id) = true from g1]
 refine ifK (fun g2 => ?_) (fun g2 => ?_)
 rotate_left
 ·rw [show (a.fl == b.fl) = false from g2]; exact ⟨_, _, _, rfl⟩
 rw [show (a.fl == b.fl) = true from g2]
 refine eI (a.q, b.q) (aI ⟨rfl, by show a.q.length <= _; omega⟩ ?_)
 refine ifK (fun g3 => ?_) (fun g3 => ?_)
 rotate_left
 ·rw [show decide (a.q = b.q) = false from g3]; exact ⟨_, _, _, rfl⟩
 rw [show decide (a.q = b.q) = true from g3]
 refine eI (a.an, b.an) (aI ⟨rfl, by show a.an.length <= _; omega⟩ ?_)
 refine ifK (fun g4 => ?_) (fun g4 => ?_)
 rotate_left
 ·rw [show decide (a.an = b.an) = false from g4]; exact ⟨_, _, _, rfl⟩
 rw [show decide (a.an = b.an) = true from g4]
 refine eI (a.ns, b.ns) (aI ⟨rfl, by show a.ns.length <= _; omega⟩ ?_)
 refine ifK (fun g5 => ?_) (fun g5 => ?_)
 rotate_left
 ·rw [show decide (a.ns = b.ns) = false from g5]; exact ⟨_, _, _, rfl⟩
 rw [show decide (a.ns = b.ns) = true from g5]
 refine eI (a.ar, b.ar) (aI ⟨rfl, by show a.ar.length <= _; omega⟩ ?_)
 exact ⟨_, _, _, rfl⟩
theorem MsT.same_refl (a : MsT) : a.same a = true := by unfold MsT.same; simp
end
section
open Go Go.RowKit
theorem zDn : Try.prog.underlying 25 ≠ some (.int .u8) := by
 have : (match Try.prog.underlying 25 with | some (.int .u8) => false | _ => true) = true := by kernel_rfl
 intro e; rw [e] at this; cases this
end
section
open Go Go.RowKit
end
section
open Go Go.RowKit
def rc0 : RcX := ⟨⟨#[]⟩, 0, 0, 0, ⟨#[]⟩⟩
def rc9 : RcX := ⟨⟨#[]⟩, 9, 0, 0, ⟨#[]⟩⟩
def qu0 : QuX := ⟨⟨#[]⟩, 0, 0⟩
def qu9 : QuX := ⟨⟨#[]⟩, 9, 0⟩
theorem zRw : TyIs Try.prog 69 5 56 rc0.v := zSk (by kernel_rfl)
theorem qus_ty : TyIs Try.prog 57 3 32 qu0.v := zSk (by kernel_rfl)
section
variable {P : Program} {ev : Operand -> Value} {G : Gh} {n : Nat} {o : Oper}
end
end
section
open Go Go.RowKit
end
section
open Go Go.RowKit
def overL {α : Type} (x : α) (l : List α) (i : Nat) : List α := List.replicate i x ++ l.drop i
theorem zHf {α : Type} (x : α) (l : List α) (i : Nat) (h : i < l.length) : (overL x l i).set i x = overL x l (i + 1) := by
 unfold overL
 rw [List.set_append_right _ _ (by simp), List.length_replicate, Nat.sub_self, bD h, List.set_cons_zero, List.replicate_succ', aN]; rfl
theorem zBq {α : Type} (x : α) (l : List α) (i : Nat) (h : i <= l.length) : (overL x l i).length = l.length := by
 unfold overL; rw [aB, List.length_replicate, aM]; omega
theorem zHe {α : Type} (x : α) (l : List α) : overL x l l.length = List.replicate l.length x := by unfold overL; rw [List.drop_length, aF]
theorem plQ (l : List QuX) : plainL (l.flatMap layQ.g) = true := zAf layQ.g layQ.plain l
theorem plR (l : List RcX) : plainL (l.flatMap layR.g) = true := zAf layR.g layR.plain l
noncomputable def tbOv : Tb Try.prog 0 := tbOf mixed []
def ov0 (id fl : Int) (ql : List QuX) (al nl rl : List RcX) (cq ca cn cr : Nat) (eq ea en er : TypeId) (i : Nat) (f : Nat -> Option Value) : Fs := ⟨slots 6 [(1, .pointer (some ⟨4, 0, none⟩)), (2, .int .i64 (i : Nat))] f, heap 4 [(0, .cells ((overL qu9 ql i).flatMap layQ.g) eq), (1, .cells (al.flatMap layR.g) ea), (2, .cells (nl.flatMap layR.g) en), (3, .cells (rl.flatMap layR.g) er), (4, .cells [.int .i64 id, .int .i64 fl, .slice (some ⟨0, 0, none⟩) ql.length cq, .slice (some ⟨1, 0, none⟩) al.length ca, .slice (some ⟨2, 0, none⟩) nl.length cn, .slice (some ⟨3, 0, none⟩) rl.length cr] 25)], 5, [0, 1, 2, 3], []⟩
theorem ov0_in (id fl : Int) (ql : List QuX) (al nl rl : List RcX) (cq ca cn cr : Nat) (eq ea en er : TypeId) (hl : ql.length <= 1000000) {s : Fs} {K : Ex -> Fs -> Prop} (h0 : ∃ f, RcM Try.prog 0 4 (1 + (Try.f27.ntmps - 1)) none s (ov0 id fl ql al nl rl cq ca cn cr eq ea en er 0 f))
  (hK : ∀ f, K (.exit 0) (ov0 id fl ql al nl rl cq ca cn cr eq ea en er ql.length f)) : LW Try.prog 0 4 (1 + (Try.f27.ntmps - 1)) none (loopAt Try.f27 0) s K := by
 have hsz : (Try.prog.types[57]).size = 3 := by kernel_rfl
 refine zAv (ov0 id fl ql al nl rl cq ca cn cr eq ea en er) (fun i => ql.length - i) (fun i => i <= ql.length) 0 (aH _) h0 ?_
 rintro i f hi
 have hi : i <= ql.length := hi
 refine zAs tbOv [0, 1, 2, 3, 900003] 4 _ none mixed _ _ _ ?_
 refine ifK (fun h1 => ?_) (fun h1 => ?_)
 ·have h1 : i < ql.length := by have h1 : ((i : Nat) : Int) < (ql.length : Int) := oT h1; omega
  refine ifK (fun _ => ?_) (fun h2 => ab h2 (by simp [inI]; omega))
  refine eI undef (eI [((0 : Nat), some (AObj.cells ((overL qu9 ql (i + 1)).flatMap layQ.g) eq))] (eI (0 : Nat) (aI ?_ ?_)))
  ·refine zEp (b := 0) (off := 0 + i * 3) (sz := 3) (bytes := 32) (z := qu0.v) (v := qu9.v) (C := (overL qu9 ql i).flatMap layQ.g) rfl ?_ rfl rfl qus_ty rfl rfl ?_ ?_
   ·show Value.pointer _ = _
    rw [hsz]; rfl
   ·rw [zAc layQ.g layQ.k layQ.len, zBq _ _ _ hi]
    have : i * 3 + 3 <= ql.length * 3 := by omega
    show 0 + i * 3 + 3 <= ql.length * 3
    omega
   have := zIz layQ [] [] (overL qu9 ql i) i qu9 (by rw [zBq _ _ _ hi]; exact h1)
   rw [zHf _ _ _ h1] at this
   simp only [List.nil_append, aF, List.length_nil] at this
   exact this
  exact ⟨i + 1, h1, by show ql.length - (i + 1) < ql.length - i; omega, rcq [4] ⟨(sP rfl rfl), zAd rfl (by rw [wrapN (by omega) (by omega)]; omega), tv⟩ ⟨bpo (plQ _), bpo (plR _), bpo (plR _), bpo (plR _), ⟨by decide, _, rfl, RO.cells [.int .i64 id, .int .i64 fl, .slice (some ⟨0, 0, none⟩) ql.length cq, .slice (some ⟨1, 0, none⟩) al.length ca, .slice (some ⟨2, 0, none⟩) nl.length cn, .slice (some ⟨3, 0, none⟩) rl.length cr] [] _ _ (.cons _ _ _ _ (.int _ _) (.cons _ _ _ _ (.int _ _) (.cons _ _ _ _ (.sl _ _ _ _ _ rfl) (.cons _ _ _ _ (.sl _ _ _ _ _ rfl) (.cons _ _ _ _ (.sl _ _ _ _ _ rfl) (.cons _ _ _ _ (.sl _ _ _ _ _ rfl) .nil))))))⟩, tv⟩ .nil⟩
 have h1 : i = ql.length := by have h1 : ¬ ((i : Nat) : Int) < (ql.length : Int) := oF h1; omega
 subst h1
 exact aI rfl (zAk (rcq [4] (d := 6) (d2 := 4) (lv := [(1, .pointer (some ⟨4, 0, none⟩)), (2, .int .i64 ((ql.length : Nat) : Int))]) (bs := [(0, .cells ((overL qu9 ql ql.length).flatMap layQ.g) eq), (1, .cells (al.flatMap layR.g) ea), (2, .cells (nl.flatMap layR.g) en), (3, .cells (rl.flatMap layR.g) er), (4, .cells [.int .i64 id, .int .i64 fl, .slice (some ⟨0, 0, none⟩) ql.length cq, .slice (some ⟨1, 0, none⟩) al.length ca, .slice (some ⟨2, 0, none⟩) nl.length cn, .slice (some ⟨3, 0, none⟩) rl.length cr] 25)]) (W := [0, 1, 2, 3]) (m := 5) (df := []) ⟨(sP rfl rfl), (sI rfl), tv⟩ ⟨bpo (plQ _), bpo (plR _), bpo (plR _), bpo (plR _), ⟨by decide, _, rfl, RO.cells [.int .i64 id, .int .i64 fl, .slice (some ⟨0, 0, none⟩) ql.length cq, .slice (some ⟨1, 0, none⟩) al.length ca, .slice (some ⟨2, 0, none⟩) nl.length cn, .slice (some ⟨3, 0, none⟩) rl.length cr] [] _ _ (.cons _ _ _ _ (.int _ _) (.cons _ _ _ _ (.int _ _) (.cons _ _ _ _ (.sl _ _ _ _ _ rfl) (.cons _ _ _ _ (.sl _ _ _ _ _ rfl) (.cons _ _ _ _ (.sl _ _ _ _ _ rfl) (.cons _ _ _ _ (.sl _ _ _ _ _ rfl) .nil))))))⟩, tv⟩ .nil) hK)
def ov1 (id fl : Int) (ql : List QuX) (al nl rl : List RcX) (cq ca cn cr : Nat) (eq ea en er : TypeId) (i : Nat) (f : Nat -> Option Value) : Fs := ⟨slots 6 [(3, .slice (some ⟨5, 0, none⟩) 3 3), (4, .int .i64 0), (5, .int .i64 (i : Nat))] f, heap 5 [(0, .cells ((List.replicate ql.length qu9).flatMap layQ.g) eq), (1, .cells ((overL rc9 al i).flatMap layR.g) ea), (2, .cells (nl.flatMap layR.g) en), (3, .cells (rl.flatMap layR.g) er), (4, .cells [.int .i64 id, .int .i64 fl, .slice (some ⟨0, 0, none⟩) ql.length cq, .slice (some ⟨1, 0, none⟩) al.length ca, .slice (some ⟨2, 0, none⟩) nl.length cn, .slice (some ⟨3, 0, none⟩) rl.length cr] 25), (5, .cells [.slice (some ⟨1, 0, none⟩) al.length ca, .slice (some ⟨2, 0, none⟩) nl.length cn, .slice (some ⟨3, 0, none⟩) rl.length cr] 23)], 6, [0, 1, 2, 3], []⟩
theorem ov1_in (id fl : Int) (ql : List QuX) (al nl rl : List RcX) (cq ca cn cr : Nat) (eq ea en er : TypeId) (hl : al.length <= 1000000) {s : Fs} {K : Ex -> Fs -> Prop} (h0 : ∃ f, RcM Try.prog 0 4 (1 + (Try.f27.ntmps - 1)) none s (ov1 id fl ql al nl rl cq ca cn cr eq ea en er 0 f))
  (hK : ∀ f, K (.exit 4) (ov1 id fl ql al nl rl cq ca cn cr eq ea en er al.length f)) : LW Try.prog 0 4 (1 + (Try.f27.ntmps - 1)) none (loopAt Try.f27 2) s K := by
 have hsz : (Try.prog.types[69]).size = 5 := by kernel_rfl
 refine zAv (ov1 id fl ql al nl rl cq ca cn cr eq ea en er) (fun i => al.length - i) (fun i => i <= al.length) 0 (aH _) h0 ?_
 rintro i f hi
 have hi : i <= al.length := hi
 refine zAs tbOv [0, 1, 2, 3, 900003] 4 _ none mixed _ _ _ ?_
 refine ifK (fun h1 => ?_) (fun h1 => ?_)
 ·have h1 : i < al.length := by have h1 : ((i : Nat) : Int) < (al.length : Int) := oT h1; omega
  refine ifK (fun _ => ?_) (fun h2 => ab h2 (by simp [inI]; omega))
  refine eI undef (eI [((1 : Nat), some (AObj.cells ((overL rc9 al (i + 1)).flatMap layR.g) ea))] (eI (0 : Nat) (aI ?_ ?_)))
  ·refine zEp (b := 1) (off := 0 + i * 5) (sz := 5) (bytes := 56) (z := rc0.v) (v := rc9.v) (C := (overL rc9 al i).flatMap layR.g) rfl ?_ rfl rfl zRw rfl rfl ?_ ?_
   ·show Value.pointer _ = _
    rw [hsz]; rfl
   ·rw [zAc layR.g layR.k layR.len, zBq _ _ _ hi]
    have : i * 5 + 5 <= al.length * 5 := by omega
    show 0 + i * 5 + 5 <= al.length * 5
    omega
   have := zIz layR [] [] (overL rc9 al i) i rc9 (by rw [zBq _ _ _ hi]; exact h1)
   rw [zHf _ _ _ h1] at this
   simp only [List.nil_append, aF, List.length_nil] at this
   exact this
  exact ⟨i + 1, h1, by show al.length - (i + 1) < al.length - i; omega, rcq [4, 5] ⟨(sL rfl rfl), (sI rfl), zAd rfl (by rw [wrapN (by omega) (by omega)]; omega), tv⟩ ⟨bpo (plQ _), bpo (plR _), bpo (plR _), bpo (plR _), ⟨by decide, _, rfl, RO.cells [.int .i64 id, .int .i64 fl, .slice (some ⟨0, 0, none⟩) ql.length cq, .slice (some ⟨1, 0, none⟩) al.length ca, .slice (some ⟨2, 0, none⟩) nl.length cn, .slice (some ⟨3, 0, none⟩) rl.length cr] [] _ _ (.cons _ _ _ _ (.int _ _) (.cons _ _ _ _ (.int _ _) (.cons _ _ _ _ (.sl _ _ _ _ _ rfl) (.cons _ _ _ _ (.sl _ _ _ _ _ rfl) (.cons _ _ _ _ (.sl _ _ _ _ _ rfl) (.cons _ _ _ _ (.sl _ _ _ _ _ rfl) .nil))))))⟩, ⟨by decide, _, rfl, RO.cells [.slice (some ⟨1, 0, none⟩) al.length ca, .slice (some ⟨2, 0, none⟩) nl.length cn, .slice (some ⟨3, 0, none⟩) rl.length cr] [] _ _ (.cons _ _ _ _ (.sl _ _ _ _ _ rfl) (.cons _ _ _ _ (.sl _ _ _ _ _ rfl) (.cons _ _ _ _ (.sl _ _ _ _ _ rfl) .nil)))⟩, tv⟩ .nil⟩
 have h1 : i = al.length := by have h1 : ¬ ((i : Nat) : Int) < (al.length : Int) := oF h1; omega
 subst h1
 exact aI rfl (zAk (rcq [4, 5] (d := 6) (d2 := 5) (lv := [(3, .slice (some ⟨5, 0, none⟩) 3 3), (4, .int .i64 0), (5, .int .i64 ((al.length : Nat) : Int))]) (bs := [(0, .cells ((List.replicate ql.length qu9).flatMap layQ.g) eq), (1, .cells ((overL rc9 al al.length).flatMap layR.g) ea), (2, .cells (nl.flatMap layR.g) en), (3, .cells (rl.flatMap layR.g) er), (4, .cells [.int .i64 id, .int .i64 fl, .slice (some ⟨0, 0, none⟩) ql.length cq, .slice (some ⟨1, 0, none⟩) al.length ca, .slice (some ⟨2, 0, none⟩) nl.length cn, .slice (some ⟨3, 0, none⟩) rl.length cr] 25), (5, .cells [.slice (some ⟨1, 0, none⟩) al.length ca, .slice (some ⟨2, 0, none⟩) nl.length cn, .slice (some ⟨3, 0, none⟩) rl.length cr] 23)]) (W := [0, 1, 2, 3]) (m := 6) (df := []) ⟨(sL rfl rfl), (sI rfl), (sI rfl), tv⟩ ⟨bpo (plQ _), bpo (plR _), bpo (plR _), bpo (plR _), ⟨by decide, _, rfl, RO.cells [.int .i64 id, .int .i64 fl, .slice (some ⟨0, 0, none⟩) ql.length cq, .slice (some ⟨1, 0, none⟩) al.length ca, .slice (some ⟨2, 0, none⟩) nl.length cn, .slice (some ⟨3, 0, none⟩) rl.length cr] [] _ _ (.cons _ _ _ _ (.int _ _) (.cons _ _ _ _ (.int _ _) (.cons _ _ _ _ (.sl _ _ _ _ _ rfl) (.cons _ _ _ _ (.sl _ _ _ _ _ rfl) (.cons _ _ _ _ (.sl _ _ _ _ _ rfl) (.cons _ _ _ _ (.sl _ _ _ _ _ rfl) .nil))))))⟩, ⟨by decide, _, rfl, RO.cells [.slice (some ⟨1, 0, none⟩) al.length ca, .slice (some ⟨2, 0, none⟩) nl.length cn, .slice (some ⟨3, 0, none⟩) rl.length cr] [] _ _ (.cons _ _ _ _ (.sl _ _ _ _ _ rfl) (.cons _ _ _ _ (.sl _ _ _ _ _ rfl) (.cons _ _ _ _ (.sl _ _ _ _ _ rfl) .nil)))⟩, tv⟩ .nil) hK)
def ov2 (id fl : Int) (ql : List QuX) (al nl rl : List RcX) (cq ca cn cr : Nat) (eq ea en er : TypeId) (i : Nat) (f : Nat -> Option Value) : Fs := ⟨slots 6 [(3, .slice (some ⟨5, 0, none⟩) 3 3), (4, .int .i64 1), (5, .int .i64 (i : Nat))] f, heap 5 [(0, .cells ((List.replicate ql.length qu9).flatMap layQ.g) eq), (1, .cells ((List.replicate al.length rc9).flatMap layR.g) ea), (2, .cells ((overL rc9 nl i).flatMap layR.g) en), (3, .cells (rl.flatMap layR.g) er), (4, .cells [.int .i64 id, .int .i64 fl, .slice (some ⟨0, 0, none⟩) ql.length cq, .slice (some ⟨1, 0, none⟩) al.length ca, .slice (some ⟨2, 0, none⟩) nl.length cn, .slice (some ⟨3, 0, none⟩) rl.length cr] 25), (5, .cells [.slice (some ⟨1, 0, none⟩) al.length ca, .slice (some ⟨2, 0, none⟩) nl.length cn, .slice (some ⟨3, 0, none⟩) rl.length cr] 23)], 6, [0, 1, 2, 3], []⟩
theorem ov2_in (id fl : Int) (ql : List QuX) (al nl rl : List RcX) (cq ca cn cr : Nat) (eq ea en er : TypeId) (hl : nl.length <= 1000000) {s : Fs} {K : Ex -> Fs -> Prop} (h0 : ∃ f, RcM Try.prog 0 4 (1 + (Try.f27.ntmps - 1)) none s (ov2 id fl ql al nl rl cq ca cn cr eq ea en er 0 f))
  (hK : ∀ f, K (.exit 4) (ov2 id fl ql al nl rl cq ca cn cr eq ea en er nl.length f)) : LW Try.prog 0 4 (1 + (Try.f27.ntmps - 1)) none (loopAt Try.f27 2) s K := by
 have hsz : (Try.prog.types[69]).size = 5 := by kernel_rfl
 refine zAv (ov2 id fl ql al nl rl cq ca cn cr eq ea en er) (fun i => nl.length - i) (fun i => i <= nl.length) 0 (aH _) h0 ?_
 rintro i f hi
 have hi : i <= nl.length := hi
 refine zAs tbOv [0, 1, 2, 3, 900003] 4 _ none mixed _ _ _ ?_
 refine ifK (fun h1 => ?_) (fun h1 => ?_)
 ·have h1 : i < nl.length := by have h1 : ((i : Nat) : Int) < (nl.length : Int) := oT h1; omega
  refine ifK (fun _ => ?_) (fun h2 => ab h2 (by simp [inI]; omega))
  refine eI undef (eI [((2 : Nat), some (AObj.cells ((overL rc9 nl (i + 1)).flatMap layR.g) en))] (eI (0 : Nat) (aI ?_ ?_)))
  ·refine zEp (b := 2) (off := 0 + i * 5) (sz := 5) (bytes := 56) (z := rc0.v) (v := rc9.v) (C := (overL rc9 nl i).flatMap layR.g) rfl ?_ rfl rfl zRw rfl rfl ?_ ?_
   ·show Value.pointer _ = _
    rw [hsz]; rfl
   ·rw [zAc layR.g layR.k layR.len, zBq _ _ _ hi]
    have : i * 5 + 5 <= nl.length * 5 := by omega
    show 0 + i * 5 + 5 <= nl.length * 5
    omega
   have := zIz layR [] [] (overL rc9 nl i) i rc9 (by rw [zBq _ _ _ hi]; exact h1)
   rw [zHf _ _ _ h1] at this
   simp only [List.nil_append, aF, List.length_nil] at this
   exact this
  exact ⟨i + 1, h1, by show nl.length - (i + 1) < nl.length - i; omega, rcq [4, 5] ⟨(sL rfl rfl), (sI rfl), zAd rfl (by rw [wrapN (by omega) (by omega)]; omega), tv⟩ ⟨bpo (plQ _), bpo (plR _), bpo (plR _), bpo (plR _), ⟨by decide, _, rfl, RO.cells [.int .i64 id, .int .i64 fl, .slice (some ⟨0, 0, none⟩) ql.length cq, .slice (some ⟨1, 0, none⟩) al.length ca, .slice (some ⟨2, 0, none⟩) nl.length cn, .slice (some ⟨3, 0, none⟩) rl.length cr] [] _ _ (.cons _ _ _ _ (.int _ _) (.cons _ _ _ _ (.int _ _) (.cons _ _ _ _ (.sl _ _ _ _ _ rfl) (.cons _ _ _ _ (.sl _ _ _ _ _ rfl) (.cons _ _ _ _ (.sl _ _ _ _ _ rfl) (.cons _ _ _ _ (.sl _ _ _ _ _ rfl) .nil))))))⟩, ⟨by decide, _, rfl, RO.cells [.slice (some ⟨1, 0, none⟩) al.length ca, .slice (some ⟨2, 0, none⟩) nl.length cn, .slice (some ⟨3, 0, none⟩) rl.length cr] [] _ _ (.cons _ _ _ _ (.sl _ _ _ _ _ rfl) (.cons _ _ _ _ (.sl _ _ _ _ _ rfl) (.cons _ _ _ _ (.sl _ _ _ _ _ rfl) .nil)))⟩, tv⟩ .nil⟩
 have h1 : i = nl.length := by have h1 : ¬ ((i : Nat) : Int) < (nl.length : Int) := oF h1; omega
 subst h1
 exact aI rfl (zAk (rcq [4, 5] (d := 6) (d2 := 5) (lv := [(3, .slice (some ⟨5, 0, none⟩) 3 3), (4, .int .i64 1), (5, .int .i64 ((nl.length : Nat) : Int))]) (bs := [(0, .cells ((List.replicate ql.length qu9).flatMap layQ.g) eq), (1, .cells ((List.replicate al.length rc9).flatMap layR.g) ea), (2, .cells ((overL rc9 nl nl.length).flatMap layR.g) en), (3, .cells (rl.flatMap layR.g) er), (4, .cells [.int .i64 id, .int .i64 fl, .slice (some ⟨0, 0, none⟩) ql.length cq, .slice (some ⟨1, 0, none⟩) al.length ca, .slice (some ⟨2, 0, none⟩) nl.length cn, .slice (some ⟨3, 0, none⟩) rl.length cr] 25), (5, .cells [.slice (some ⟨1, 0, none⟩) al.length ca, .slice (some ⟨2, 0, none⟩) nl.length cn, .slice (some ⟨3, 0, none⟩) rl.length cr] 23)]) (W := [0, 1, 2, 3]) (m := 6) (df := []) ⟨(sL rfl rfl), (sI rfl), (sI rfl), tv⟩ ⟨bpo (plQ _), bpo (plR _), bpo (plR _), bpo (plR _), ⟨by decide, _, rfl, RO.cells [.int .i64 id, .int .i64 fl, .slice (some ⟨0, 0, none⟩) ql.length cq, .slice (some ⟨1, 0, none⟩) al.length ca, .slice (some ⟨2, 0, none⟩) nl.length cn, .slice (some ⟨3, 0, none⟩) rl.length cr] [] _ _ (.cons _ _ _ _ (.int _ _) (.cons _ _ _ _ (.int _ _) (.cons _ _ _ _ (.sl _ _ _ _ _ rfl) (.cons _ _ _ _ (.sl _ _ _ _ _ rfl) (.cons _ _ _ _ (.sl _ _ _ _ _ rfl) (.cons _ _ _ _ (.sl _ _ _ _ _ rfl) .nil))))))⟩, ⟨by decide, _, rfl, RO.cells [.slice (some ⟨1, 0, none⟩) al.length ca, .slice (some ⟨2, 0, none⟩) nl.length cn, .slice (some ⟨3, 0, none⟩) rl.length cr] [] _ _ (.cons _ _ _ _ (.sl _ _ _ _ _ rfl) (.cons _ _ _ _ (.sl _ _ _ _ _ rfl) (.cons _ _ _ _ (.sl _ _ _ _ _ rfl) .nil)))⟩, tv⟩ .nil) hK)
def ov3 (id fl : Int) (ql : List QuX) (al nl rl : List RcX) (cq ca cn cr : Nat) (eq ea en er : TypeId) (i : Nat) (f : Nat -> Option Value) : Fs := ⟨slots 6 [(3, .slice (some ⟨5, 0, none⟩) 3 3), (4, .int .i64 2), (5, .int .i64 (i : Nat))] f, heap 5 [(0, .cells ((List.replicate ql.length qu9).flatMap layQ.g) eq), (1, .cells ((List.replicate al.length rc9).flatMap layR.g) ea), (2, .cells ((List.replicate nl.length rc9).flatMap layR.g) en), (3, .cells ((overL rc9 rl i).flatMap layR.g) er), (4, .cells [.int .i64 id, .int .i64 fl, .slice (some ⟨0, 0, none⟩) ql.length cq, .slice (some ⟨1, 0, none⟩) al.length ca, .slice (some ⟨2, 0, none⟩) nl.length cn, .slice (some ⟨3, 0, none⟩) rl.length cr] 25), (5, .cells [.slice (some ⟨1, 0, none⟩) al.length ca, .slice (some ⟨2, 0, none⟩) nl.length cn, .slice (some ⟨3, 0, none⟩) rl.length cr] 23)], 6, [0, 1, 2, 3], []⟩
theorem ov3_in (id fl : Int) (ql : List QuX) (al nl rl : List RcX) (cq ca cn cr : Nat) (eq ea en er : TypeId) (hl : rl.length <= 1000000) {s : Fs} {K : Ex -> Fs -> Prop} (h0 : ∃ f, RcM Try.prog 0 4 (1 + (Try.f27.ntmps - 1)) none s (ov3 id fl ql al nl rl cq ca cn cr eq ea en er 0 f))
  (hK : ∀ f, K (.exit 4) (ov3 id fl ql al nl rl cq ca cn cr eq ea en er rl.length f)) : LW Try.prog 0 4 (1 + (Try.f27.ntmps - 1)) none (loopAt Try.f27 2) s K := by
 have hsz : (Try.prog.types[69]).size = 5 := by kernel_rfl
 refine zAv (ov3 id fl ql al nl rl cq ca cn cr eq ea en er) (fun i => rl.length - i) (fun i => i <= rl.length) 0 (aH _) h0 ?_
 rintro i f hi
 have hi : i <= rl.length := hi
 refine zAs tbOv [0, 1, 2, 3, 900003] 4 _ none mixed _ _ _ ?_
 refine ifK (fun h1 => ?_) (fun h1 => ?_)
 ·have h1 : i < rl.length := by have h1 : ((i : Nat) : Int) < (rl.length : Int) := oT h1; omega
  refine ifK (fun _ => ?_) (fun h2 => ab h2 (by simp [inI]; omega))
  refine eI undef (eI [((3 : Nat), some (AObj.cells ((overL rc9 rl (i + 1)).flatMap layR.g) er))] (eI (0 : Nat) (aI ?_ ?_)))
  ·refine zEp (b := 3) (off := 0 + i * 5) (sz := 5) (bytes := 56) (z := rc0.v) (v := rc9.v) (C := (overL rc9 rl i).flatMap layR.g) rfl ?_ rfl rfl zRw rfl rfl ?_ ?_
   ·show Value.pointer _ = _
    rw [hsz]; rfl
   ·rw [zAc layR.g layR.k layR.len, zBq _ _ _ hi]
    have : i * 5 + 5 <= rl.length * 5 := by omega
    show 0 + i * 5 + 5 <= rl.length * 5
    omega
   have := zIz layR [] [] (overL rc9 rl i) i rc9 (by rw [zBq _ _ _ hi]; exact h1)
   rw [zHf _ _ _ h1] at this
   simp only [List.nil_append, aF, List.length_nil] at this
   exact this
  exact ⟨i + 1, h1, by show rl.length - (i + 1) < rl.length - i; omega, rcq [4, 5] ⟨(sL rfl rfl), (sI rfl), zAd rfl (by rw [wrapN (by omega) (by omega)]; omega), tv⟩ ⟨bpo (plQ _), bpo (plR _), bpo (plR _), bpo (plR _), ⟨by decide, _, rfl, RO.cells [.int .i64 id, .int .i64 fl, .slice (some ⟨0, 0, none⟩) ql.length cq, .slice (some ⟨1, 0, none⟩) al.length ca, .slice (some ⟨2, 0, none⟩) nl.length cn, .slice (some ⟨3, 0, none⟩) rl.length cr] [] _ _ (.cons _ _ _ _ (.int _ _) (.cons _ _ _ _ (.int _ _) (.cons _ _ _ _ (.sl _ _ _ _ _ rfl) (.cons _ _ _ _ (.sl _ _ _ _ _ rfl) (.cons _ _ _ _ (.sl _ _ _ _ _ rfl) (.cons _ _ _ _ (.sl _ _ _ _ _ rfl) .nil))))))⟩, ⟨by decide, _, rfl, RO.cells [.slice (some ⟨1, 0, none⟩) al.length ca, .slice (some ⟨2, 0, none⟩) nl.length cn, .slice (some ⟨3, 0, none⟩) rl.length cr] [] _ _ (.cons _ _ _ _ (.sl _ _ _ _ _ rfl) (.cons _ _ _ _ (.sl _ _ _ _ _ rfl) (.cons _ _ _ _ (.sl _ _ _ _ _ rfl) .nil)))⟩, tv⟩ .nil⟩
 have h1 : i = rl.length := by have h1 : ¬ ((i : Nat) : Int) < (rl.length : Int) := oF h1; omega
 subst h1
 exact aI rfl (zAk (rcq [4, 5] (d := 6) (d2 := 5) (lv := [(3, .slice (some ⟨5, 0, none⟩) 3 3), (4, .int .i64 2), (5, .int .i64 ((rl.length : Nat) : Int))]) (bs := [(0, .cells ((List.replicate ql.length qu9).flatMap layQ.g) eq), (1, .cells ((List.replicate al.length rc9).flatMap layR.g) ea), (2, .cells ((List.replicate nl.length rc9).flatMap layR.g) en), (3, .cells ((overL rc9 rl rl.length).flatMap layR.g) er), (4, .cells [.int .i64 id, .int .i64 fl, .slice (some ⟨0, 0, none⟩) ql.length cq, .slice (some ⟨1, 0, none⟩) al.length ca, .slice (some ⟨2, 0, none⟩) nl.length cn, .slice (some ⟨3, 0, none⟩) rl.length cr] 25), (5, .cells [.slice (some ⟨1, 0, none⟩) al.length ca, .slice (some ⟨2, 0, none⟩) nl.length cn, .slice (some ⟨3, 0, none⟩) rl.length cr] 23)]) (W := [0, 1, 2, 3]) (m := 6) (df := []) ⟨(sL rfl rfl), (sI rfl), (sI rfl), tv⟩ ⟨bpo (plQ _), bpo (plR _), bpo (plR _), bpo (plR _), ⟨by decide, _, rfl, RO.cells [.int .i64 id, .int .i64 fl, .slice (some ⟨0, 0, none⟩) ql.length cq, .slice (some ⟨1, 0, none⟩) al.length ca, .slice (some ⟨2, 0, none⟩) nl.length cn, .slice (some ⟨3, 0, none⟩) rl.length cr] [] _ _ (.cons _ _ _ _ (.int _ _) (.cons _ _ _ _ (.int _ _) (.cons _ _ _ _ (.sl _ _ _ _ _ rfl) (.cons _ _ _ _ (.sl _ _ _ _ _ rfl) (.cons _ _ _ _ (.sl _ _ _ _ _ rfl) (.cons _ _ _ _ (.sl _ _ _ _ _ rfl) .nil))))))⟩, ⟨by decide, _, rfl, RO.cells [.slice (some ⟨1, 0, none⟩) al.length ca, .slice (some ⟨2, 0, none⟩) nl.length cn, .slice (some ⟨3, 0, none⟩) rl.length cr] [] _ _ (.cons _ _ _ _ (.sl _ _ _ _ _ rfl) (.cons _ _ _ _ (.sl _ _ _ _ _ rfl) (.cons _ _ _ _ (.sl _ _ _ _ _ rfl) .nil)))⟩, tv⟩ .nil) hK)
theorem overM4_fn (id fl : Int) (ql : List QuX) (al nl rl : List RcX) (cq ca cn cr : Nat) (eq ea en er : TypeId) (hq : ql.length <= 1000000) (ha : al.length <= 1000000) (hn : nl.length <= 1000000) (hr : rl.length <= 1000000) :
  ∃ r, FnS Try.prog 0 27 [.agg #[.int .i64 id, .int .i64 fl, .slice (some ⟨0, 0, none⟩) ql.length cq, .slice (some ⟨1, 0, none⟩) al.length ca, .slice (some ⟨2, 0, none⟩) nl.length cn, .slice (some ⟨3, 0, none⟩) rl.length cr]] (heap 3 [(0, .cells (ql.flatMap layQ.g) eq), (1, .cells (al.flatMap layR.g) ea), (2, .cells (nl.flatMap layR.g) en), (3, .cells (rl.flatMap layR.g) er)]) 4 r /\
   ∃ H k wr, r = .ret (.tuple #[]) H k wr /\ (0 ∈ wr /\ 1 ∈ wr /\ 2 ∈ wr /\ 3 ∈ wr) /\ H.get 0 = some (.cells ((List.replicate ql.length qu9).flatMap layQ.g) eq) /\ H.get 1 = some (.cells ((List.replicate al.length rc9).flatMap layR.g) ea) /\ H.get 2 = some (.cells ((List.replicate nl.length rc9).flatMap layR.g) en) /\ H.get 3 = some (.cells ((List.replicate rl.length rc9).flatMap layR.g) er) := by
 refine zAu mixed tbOv [0, 1, 2, 3, 900003] Try.func27 (c := bodyOf Try.f27) (by kernel_rfl) ?_
 refine ov0_in id fl ql al nl rl cq ca cn cr eq ea en er hq ?_ (fun f => ?_)
 ·exact rcq [4] ⟨(sP rfl rfl), (sI rfl), tv⟩ ⟨bpo (plQ _), bpo (plR _), bpo (plR _), bpo (plR _), ⟨by decide, _, rfl, RO.cells [.int .i64 id, .int .i64 fl, .slice (some ⟨0, 0, none⟩) ql.length cq, .slice (some ⟨1, 0, none⟩) al.length ca, .slice (some ⟨2, 0, none⟩) nl.length cn, .slice (some ⟨3, 0, none⟩) rl.length cr] [] _ _ (.cons _ _ _ _ (.int _ _) (.cons _ _ _ _ (.int _ _) (.cons _ _ _ _ (.sl _ _ _ _ _ rfl) (.cons _ _ _ _ (.sl _ _ _ _ _ rfl) (.cons _ _ _ _ (.sl _ _ _ _ _ rfl) (.cons _ _ _ _ (.sl _ _ _ _ _ rfl) .nil))))))⟩, tv⟩ .nil
 rw [show ov0 id fl ql al nl rl cq ca cn cr eq ea en er ql.length f = ⟨slots 6 [(1, .pointer (some ⟨4, 0, none⟩)), (2, .int .i64 ((ql.length : Nat) : Int))] f, heap 4 [(0, .cells ((List.replicate ql.length qu9).flatMap layQ.g) eq), (1, .cells (al.flatMap layR.g) ea), (2, .cells (nl.flatMap layR.g) en), (3, .cells (rl.flatMap layR.g) er), (4, .cells [.int .i64 id, .int .i64 fl, .slice (some ⟨0, 0, none⟩) ql.length cq, .slice (some ⟨1, 0, none⟩) al.length ca, .slice (some ⟨2, 0, none⟩) nl.length cn, .slice (some ⟨3, 0, none⟩) rl.length cr] 25)], 5, [0, 1, 2, 3], []⟩ by unfold ov0; rw [zHe]]
 refine LW.round (zAs tbOv [0, 1, 2, 3, 900003] 4 _ none mixed _ _ _ ?_)
 refine ov1_in id fl ql al nl rl cq ca cn cr eq ea en er ha ?_ (fun f => ?_)
 ·exact rcq [4, 5] ⟨(sL rfl rfl), (sI rfl), (sI rfl), tv⟩ ⟨bpo (plQ _), bpo (plR _), bpo (plR _), bpo (plR _), ⟨by decide, _, rfl, RO.cells [.int .i64 id, .int .i64 fl, .slice (some ⟨0, 0, none⟩) ql.length cq, .slice (some ⟨1, 0, none⟩) al.length ca, .slice (some ⟨2, 0, none⟩) nl.length cn, .slice (some ⟨3, 0, none⟩) rl.length cr] [] _ _ (.cons _ _ _ _ (.int _ _) (.cons _ _ _ _ (.int _ _) (.cons _ _ _ _ (.sl _ _ _ _ _ rfl) (.cons _ _ _ _ (.sl _ _ _ _ _ rfl) (.cons _ _ _ _ (.sl _ _ _ _ _ rfl) (.cons _ _ _ _ (.sl _ _ _ _ _ rfl) .nil))))))⟩, ⟨by decide, _, rfl, RO.cells [.slice (some ⟨1, 0, none⟩) al.length ca, .slice (some ⟨2, 0, none⟩) nl.length cn, .slice (some ⟨3, 0, none⟩) rl.length cr] [] _ _ (.cons _ _ _ _ (.sl _ _ _ _ _ rfl) (.cons _ _ _ _ (.sl _ _ _ _ _ rfl) (.cons _ _ _ _ (.sl _ _ _ _ _ rfl) .nil)))⟩, tv⟩ .nil
 rw [show ov1 id fl ql al nl rl cq ca cn cr eq ea en er al.length f = ⟨slots 6 [(3, .slice (some ⟨5, 0, none⟩) 3 3), (4, .int .i64 0), (5, .int .i64 ((al.length : Nat) : Int))] f, heap 5 [(0, .cells ((List.replicate ql.length qu9).flatMap layQ.g) eq), (1, .cells ((List.replicate al.length rc9).flatMap layR.g) ea), (2, .cells (nl.flatMap layR.g) en), (3, .cells (rl.flatMap layR.g) er), (4, .cells [.int .i64 id, .int .i64 fl, .slice (some ⟨0, 0, none⟩) ql.length cq, .slice (some ⟨1, 0, none⟩) al.length ca, .slice (some ⟨2, 0, none⟩) nl.length cn, .slice (some ⟨3, 0, none⟩) rl.length cr] 25), (5, .cells [.slice (some ⟨1, 0, none⟩) al.length ca, .slice (some ⟨2, 0, none⟩) nl.length cn, .slice (some ⟨3, 0, none⟩) rl.length cr] 23)], 6, [0, 1, 2, 3], []⟩ by unfold ov1; rw [zHe]]
 refine LW.round (zAs tbOv [0, 1, 2, 3, 900003] 4 _ none mixed _ _ _ ?_)
 refine ov2_in id fl ql al nl rl cq ca cn cr eq ea en er hn ?_ (fun f => ?_)
 ·exact rcq [4, 5] ⟨(sL rfl rfl), (sI rfl), (sI rfl), tv⟩ ⟨bpo (plQ _), bpo (plR _), bpo (plR _), bpo (plR _), ⟨by decide, _, rfl, RO.cells [.int .i64 id, .int .i64 fl, .slice (some ⟨0, 0, none⟩) ql.length cq, .slice (some ⟨1, 0, none⟩) al.length ca, .slice (some ⟨2, 0, none⟩) nl.length cn, .slice (some ⟨3, 0, none⟩) rl.length cr] [] _ _ (.cons _ _ _ _ (.int _ _) (.cons _ _ _ _ (.int _ _) (.cons _ _ _ _ (.sl _ _ _ _ _ rfl) (.cons _ _ _ _ (.sl _ _ _ _ _ rfl) (.cons _ _ _ _ (.sl _ _ _ _ _ rfl) (.cons _ _ _ _ (.sl _ _ _ _ _ rfl) .nil))))))⟩, ⟨by decide, _, rfl, RO.cells [.slice (some ⟨1, 0, none⟩) al.length ca, .slice (some ⟨2, 0, none⟩) nl.length cn, .slice (some ⟨3, 0, none⟩) rl.length cr] [] _ _ (.cons _ _ _ _ (.sl _ _ _ _ _ rfl) (.cons _ _ _ _ (.sl _ _ _ _ _ rfl) (.cons _ _ _ _ (.sl _ _ _ _ _ rfl) .nil)))⟩, tv⟩ .nil
 rw [show ov2 id fl ql al nl rl cq ca cn cr eq ea en er nl.length f = ⟨slots 6 [(3, .slice (some ⟨5, 0, none⟩) 3 3), (4, .int .i64 1), (5, .int .i64 ((nl.length : Nat) : Int))] f, heap 5 [(0, .cells ((List.replicate ql.length qu9).flatMap layQ.g) eq), (1, .cells ((List.replicate al.length rc9).flatMap layR.g) ea), (2, .cells ((List.replicate nl.length rc9).flatMap layR.g) en), (3, .cells (rl.flatMap layR.g) er), (4, .cells [.int .i64 id, .int .i64 fl, .slice (some ⟨0, 0, none⟩) ql.length cq, .slice (some ⟨1, 0, none⟩) al.length ca, .slice (some ⟨2, 0, none⟩) nl.length cn, .slice (some ⟨3, 0, none⟩) rl.length cr] 25), (5, .cells [.slice (some ⟨1, 0, none⟩) al.length ca, .slice (some ⟨2, 0, none⟩) nl.length cn, .slice (some ⟨3, 0, none⟩) rl.length cr] 23)], 6, [0, 1, 2, 3], []⟩ by unfold ov2; rw [zHe]]
 refine LW.round (zAs tbOv [0, 1, 2, 3, 900003] 4 _ none mixed _ _ _ ?_)
 refine ov3_in id fl ql al nl rl cq ca cn cr eq ea en er hr ?_ (fun f => ?_)
 ·exact rcq [4, 5] ⟨(sL rfl rfl), (sI rfl), (sI rfl), tv⟩ ⟨bpo (plQ _), bpo (plR _), bpo (plR _), bpo (plR _), ⟨by decide, _, rfl, RO.cells [.int .i64 id, .int .i64 fl, .slice (some ⟨0, 0, none⟩) ql.length cq, .slice (some ⟨1, 0, none⟩) al.length ca, .slice (some ⟨2, 0, none⟩) nl.length cn, .slice (some ⟨3, 0, none⟩) rl.length cr] [] _ _ (.cons _ _ _ _ (.int _ _) (.cons _ _ _ _ (.int _ _) (.cons _ _ _ _ (.sl _ _ _ _ _ rfl) (.cons _ _ _ _ (.sl _ _ _ _ _ rfl) (.cons _ _ _ _ (.sl _ _ _ _ _ rfl) (.cons _ _ _ _ (.sl _ _ _ _ _ rfl) .nil))))))⟩, ⟨by decide, _, rfl, RO.cells [.slice (some ⟨1, 0, none⟩) al.length ca, .slice (some ⟨2, 0, none⟩) nl.length cn, .slice (some ⟨3, 0, none⟩) rl.length cr] [] _ _ (.cons _ _ _ _ (.sl _ _ _ _ _ rfl) (.cons _ _ _ _ (.sl _ _ _ _ _ rfl) (.cons _ _ _ _ (.sl _ _ _ _ _ rfl) .nil)))⟩, tv⟩ .nil
 rw [show ov3 id fl ql al nl rl cq ca cn cr eq ea en er rl.length f = ⟨slots 6 [(3, .slice (some ⟨5, 0, none⟩) 3 3), (4, .int .i64 2), (5, .int .i64 ((rl.length : Nat) : Int))] f, heap 5 [(0, .cells ((List.replicate ql.length qu9).flatMap layQ.g) eq), (1, .cells ((List.replicate al.length rc9).flatMap layR.g) ea), (2, .cells ((List.replicate nl.length rc9).flatMap layR.g) en), (3, .cells ((List.replicate rl.length rc9).flatMap layR.g) er), (4, .cells [.int .i64 id, .int .i64 fl, .slice (some ⟨0, 0, none⟩) ql.length cq, .slice (some ⟨1, 0, none⟩) al.length ca, .slice (some ⟨2, 0, none⟩) nl.length cn, .slice (some ⟨3, 0, none⟩) rl.length cr] 25), (5, .cells [.slice (some ⟨1, 0, none⟩) al.length ca, .slice (some ⟨2, 0, none⟩) nl.length cn, .slice (some ⟨3, 0, none⟩) rl.length cr] 23)], 6, [0, 1, 2, 3], []⟩ by unfold ov3; rw [zHe]]
 refine LW.round (zAs tbOv [0, 1, 2, 3, 900003] 4 _ none mixed _ _ _ ?_)
 exact ⟨_, _, _, rfl, ⟨List.mem_of_elem_eq_true (by kernel_rfl), List.mem_of_elem_eq_true (by kernel_rfl), List.mem_of_elem_eq_true (by kernel_rfl), List.mem_of_elem_eq_true (by kernel_rfl)⟩, rfl, rfl, rfl, rfl⟩
end
section
open Go Go.RowKit
end
section
open Go Go.RowKit
end
section
open Go Go.RowKit
noncomputable def ct_sameML : Ct Try.prog 0 := CtR.lend 26 (LtM × LtM) (fun x => [x.1.v, x.2.v]) (fun x H => x.1.at H /\ x.2.at H) (fun x => [x.1.m.v, x.2.m.v]) (fun x => x.1.m.fit 1000000) (fun x => .bool (x.1.m.same x.2.m))
 (fun x y H e h k => by simp only [aQ, and_true] at e; exact Prod.ext (LtM.uniq e.1 h.1 k.1) (LtM.uniq e.2 h.2 k.2)) (fun x H h => .cons _ _ _ _ (LtM.frz h.1) (.cons _ _ _ _ (LtM.frz h.2) .nil))
 (fun x hf => by obtain ⟨r, hF, H, k, wr, rfl⟩ := sameM_tr x.1.m x.2.m hf; exact ⟨_, _, _, _, hF, .one _ _ (.plain _ rfl)⟩)
end
end Go.Proofs.Ytcggcoijhdagnaa
