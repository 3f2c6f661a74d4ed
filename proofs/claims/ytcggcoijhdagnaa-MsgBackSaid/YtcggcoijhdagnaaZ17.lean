/- DERIVED. Parts. -/
import Derived.Test.YtcggcoijhdagnaaZ12
import Derived.Test.YtcggcoijhdagnaaZ13
import Derived.Test.YtcggcoijhdagnaaZ16
set_option maxRecDepth 1000000
set_option maxHeartbeats 32000000
namespace Go.Proofs.Ytcggcoijhdagnaa
open Go Go.RowKit
def bs (s : ByteArray) : Bs := s.data.toList
theorem zNl (s : ByteArray) : str (bs s) = .string s := by simp [str, bs]
def shortB (s : ByteArray) : Bool := s.data.size.ble 1000000000
theorem zFv {s : ByteArray} (h : shortB s = true) : (bs s).length <= 1000000000 := by unfold bs; rw [Array.length_toList]; exact aE h
def gStr : List Value -> Option Bool
 | [.string s] => some (shortB s)
 | _ => none
def Ct.str1 (f : FuncId) (out : ByteArray -> Value) (hp : ∀ s, plainV 8 (out s) = true) (ok : ∀ s w, (bs s).length <= 1000000000 -> Calls Try.prog f #[.string s] w fun e w' => e = .returned (out s) /\ Below w.heap.size w w') : Ct Try.prog 0 where
 f := f
 res l H n := match l with | [.string s] => bif shortB s then .ret (out s) H n [] else .bad "long" [] | _ => .bad "arguments" []
 ok l H n := by
  split
  ·rename_i s
   cases hs : shortB s with
   | false => trivial
   | true => exact zPy (fun w => ok s w (zFv hs)) rfl (hp s) H n
  trivial
 ck l H n K := match l with | [.string s] => shortB s = true /\ K (.ret (out s) H n []) | _ => False
 imp l H n K h := by
  split at h
  ·obtain ⟨h1, h2⟩ := h
   simp only [h1, cT]; exact h2
  exact h.elim
def zHs : Ct Try.prog 0 := Ct.str1 52 (fun s => .int .i64 (labels (bs s)).2) (fun _ => rfl) (fun s w hs => by have := zOy (bs s) w hs; rwa [zNl] at this)
def mkS (l : Bl) : ByteArray := ⟨l.toArray⟩
def encT (T : List (Bl × Nat)) : List MapEntry := T.map fun p => { key := .string (mkS p.1), val := .int .i64 (p.2 : Int), born := 0 }
section
theorem zVk (em : Bool) (s : ByteArray) : keyOk Try.prog 9 em (.string s) = true := by cases em <;> kernel_rfl
theorem zQj (a b : ByteArray) (v : Value) (k : Nat) : eqK Try.prog 9 (.string a) { key := .string b, val := v, born := k } = some (a.data == b.data) := by kernel_rfl
theorem mkS_inj {a b : Bl} (h : mkS a = mkS b) : a = b := by
 have := congrArg (fun x : ByteArray => x.data.toList) h
 simpa [mkS] using this
theorem zQv (a b : Bl) : ((mkS a).data == (mkS b).data) = decide (a = b) := by
 by_cases h : a = b
 ·subst h; simp
 rw [aY h]
 cases he : (mkS a).data == (mkS b).data
 ·rfl
 have h2 : (mkS a).data = (mkS b).data := eq_of_beq he
 exact ab (mkS_inj (congrArg ByteArray.mk h2)) h
def lookT : List (Bl × Nat) -> Bl -> Option Nat
 | [], _ => none
 | (t, k) :: T, s => if s = t then some k else lookT T s
theorem zEe {s : Bl} : ∀ {T : List (Bl × Nat)}, lookT T s = none ↔ s ∉ T.map (·.1)
 | [] => by simp [lookT]
 | (t, k) :: T => by
  unfold lookT
  by_cases h : s = t
  ·subst h; simp
  rw [if_neg h, zEe (T := T)]; simp [h]
theorem zEi (T : List (Bl × Nat)) : zAn (encT T) = true := by
 unfold zAn encT
 rw [List.all_map]
 exact aG.2 fun _ _ => rfl
theorem zKy {s : Bl} : ∀ {T : List (Bl × Nat)} (i : Nat), lookT T s = none -> zDw Try.prog 9 (.string (mkS s)) (encT T) i = some none
 | [], _, _ => rfl
 | (t, k) :: T, i, h => by
  unfold lookT at h
  split at h
  ·cases h
  rename_i hne
  show zDw _ _ _ (_ :: encT T) i = _
  unfold zDw
  rw [zQj, zQv, aY hne]
  exact zKy (i + 1) h
theorem zQp {s : Bl} {v : Nat} : ∀ {T : List (Bl × Nat)} (i : Nat), (T.map (·.1)).Nodup -> lookT T s = some v -> ∃ j, zDw Try.prog 9 (.string (mkS s)) (encT T) i = some (some (j, .int .i64 (v : Int)))
 | (t, k) :: T, i, hn, h => by
  rw [List.map_cons, List.nodup_cons] at hn
  unfold lookT at h
  show ∃ j, zDw _ _ _ (_ :: encT T) i = _
  unfold zDw
  rw [zQj, zQv]
  split at h
  ·rename_i he
   subst he
   cases h
   refine ⟨i, ?_⟩
   have hall : ∀ x ∈ encT T, eqK Try.prog 9 (.string (mkS s)) x = some false := fun x hx => by
    obtain ⟨p, hp, rfl⟩ := List.mem_map.1 hx
    have hne : s ≠ p.1 := fun e => hn.1 (by show s ∈ _; rw [e]; exact List.mem_map_of_mem hp)
    rw [zQj, zQv, aY hne]
   have key : ∀ (p : MapEntry -> Bool), (∀ x ∈ encT T, p x = true) -> (encT T).all p = true := fun p hp => aG.2 hp
   simp only [decide_true]
   rw [key]
   ·rfl
   intro x hx
   rw [hall x hx]
  rename_i hne
  rw [aY hne]
  exact zQp (i + 1) hn.2 h
section
variable {ev : Operand -> Value} {G : Gh} {n : Nat} {o : Oper}
theorem zPu {t : TypeId} {x y : Operand} {r ck v : Nat} {T : List (Bl × Nat)} {s : Bl} (ho : o.op = .lookup t x y true) (hx : ev x = .map (some r)) (hy : ev y = .string (mkS s)) (hu : Try.prog.underlying t = some (.map 9 3)) (hG : G r = some (.map (encT T) ck)) (hn : (T.map (·.1)).Nodup) (h : lookT T s = some v) :
  aop Try.prog o ev G n = .val (.tuple #[.int .i64 (v : Int), .bool true]) [] 0 := by
 obtain ⟨j, hj⟩ := zQp 0 hn h
 unfold aop aop0 aStr
 simp only [ho, ORes.or]
 unfold zGz
 simp only [hu, hx, hy, hG, Try.underlying9, zEi, zVk, Bool.and_self, cT, hj]
theorem zPt {t : TypeId} {x y : Operand} {r ck : Nat} {T : List (Bl × Nat)} {s : Bl} (ho : o.op = .lookup t x y true) (hx : ev x = .map (some r)) (hy : ev y = .string (mkS s)) (hu : Try.prog.underlying t = some (.map 9 3)) (hG : G r = some (.map (encT T) ck)) (h : lookT T s = none) :
  aop Try.prog o ev G n = .val (.tuple #[.int .i64 0, .bool false]) [] 0 := by
 have hz : ((Try.prog.info? 3).bind (·.zero)) = some (.int .i64 0) := by kernel_rfl
 obtain ⟨i, h1, h2⟩ := bF.1 hz
 unfold aop aop0 aStr
 simp only [ho, ORes.or]
 unfold zGz
 simp only [hu, hx, hy, hG, Try.underlying9, zEi, zVk, Bool.and_self, cT, zKy 0 h, h1, h2]
 rfl
theorem zUs {t : TypeId} {x y z : Operand} {r ck k : Nat} {T : List (Bl × Nat)} {s : Bl} (ho : o.op = .mapUpdate t x y z) (hx : ev x = .map (some r)) (hy : ev y = .string (mkS s)) (hz : ev z = .int .i64 (k : Int)) (hu : Try.prog.underlying t = some (.map 9 3)) (hG : G r = some (.map (encT T) ck)) (h : lookT T s = none) :
  aop Try.prog o ev G n = .val undef [(r, some (.map (encT (T ++ [(s, k)])) (ck + 1)))] 0 := by
 unfold aop aop0 aStr
 simp only [ho, ORes.or]
 unfold zHa
 simp only [hu, hx, hy, hz, hG, Try.underlying9, zEi, zVk, Bool.and_self, cT, zKy 0 h]
 unfold encT
 rw [List.map_append]; rfl
end
def packN (T : List (Bl × Nat)) (a : Nat) : Nat -> Bl -> Nat -> Bl × List (Bl × Nat)
 | 0, _, _ => ([], [])
 | f + 1, t, o =>
  let c := (t.getD 0 0).toNat
  if c = 0 then ([0], []) else
  match lookT T t with
  | some k => ([UInt8.ofNat (192 + k / 256), UInt8.ofNat (k % 256)], [])
  | none =>
   let r := packN T a f (t.drop (c + 1)) (o + c + 1)
   (t.take (c + 1) ++ r.1, if a + o < 16384 then (t, a + o) :: r.2 else r.2)
end
noncomputable def inl_put : Ct Try.prog 0 := Ct.inl (tbOf mixed []) mixed [] 67 Try.f67 Try.func67 (bodyOf Try.f67) (by kernel_rfl)
noncomputable def tbPk3 : Tb Try.prog 0 := tbOf mixed [inl_put]
def hi8 (v : Nat) : UInt8 := UInt8.ofNat (v / 256)
def lo8 (v : Nat) : UInt8 := UInt8.ofNat (v % 256)
theorem fdivP (v : Nat) (k : Nat) : Int.fdiv (v : Int) (2 ^ k) = ((v / 2 ^ k : Nat) : Int) := by
 have : ((2 : Int) ^ k) = ((2 ^ k : Nat) : Int) := by norm_cast
 rw [this, Int.ofNat_fdiv]
theorem wrap8 {n : Nat} : IntKind.u8.wrap (n : Int) = ((UInt8.ofNat n).toNat : Int) := by
 have h : IntKind.u8.wrap (n : Int) = (n : Int) % 256 := rfl
 rw [h]; simp
theorem put16_fn (v : Nat) (h : v < 65536) : ∃ r, FnS Try.prog 0 43 [.int .i64 (v : Int)] .e 0 r /\ ∃ H m wr, r = .ret (.tuple #[sq 4 2 U, .int .i64 0]) H m wr /\ H.get 4 = some (.cells ([hi8 v, lo8 v].map byV) 5) := by
 have a1 : shrI .i64 (v : Int) (IntKind.i64.wrap (8 * 2)) = 0 := by
  show Int.fdiv (v : Int) (2 ^ 16) = 0
  rw [fdivP]; omega
 have a2 : IntKind.u8.wrap (shrI .i64 (v : Int) (IntKind.i64.wrap (8 * IntKind.i64.wrap (IntKind.i64.wrap (2 - 1) - 0)))) = ((hi8 v).toNat : Int) := by
  show IntKind.u8.wrap (Int.fdiv (v : Int) (2 ^ 8)) = _
  rw [fdivP]; exact wrap8
 have a3 : IntKind.u8.wrap (shrI .i64 (v : Int) (IntKind.i64.wrap (8 * IntKind.i64.wrap (IntKind.i64.wrap (2 - 1) - IntKind.i64.wrap (0 + 1))))) = ((lo8 v).toNat : Int) := by
  show IntKind.u8.wrap (Int.fdiv (v : Int) (2 ^ 0)) = _
  rw [fdivP]
  have : IntKind.u8.wrap ((v / 2 ^ 0 : Nat) : Int) = ((v / 2 ^ 0 : Nat) : Int) % 256 := rfl
  rw [this]; unfold lo8; simp
 refine zBp mixed tbPk3 [] Try.func43 (c := bodyOf Try.f43) (by kernel_rfl) ?_
 refine ifK (fun g => by have g : (shrI .i64 (v : Int) (IntKind.i64.wrap (8 * 2)) != 0) = true := g; rw [a1] at g; cases g) (fun _ => ?_)
 refine aI (by kernel_rfl) ?_
 refine ⟨_, _, _, rfl, ?_⟩
 show some (AObj.cells [.int .u8 _, .int .u8 _] _) = _
 rw [a2, a3]; rfl
noncomputable def zOd : Ct Try.prog 0 :=
 CtR.ct { f := 43, X := Nat, pre := fun v a _ _ => a = [.int .i64 (v : Int)] /\ v < 65536,
          out := fun v H n => .ret (.tuple #[sq n 2 U, .int .i64 0]) (layN H n [([hi8 v, lo8 v].map byV, 5)]) (n + 1) [],
          ok := fun v a H n ⟨h1, h2⟩ => by
           subst h1
           obtain ⟨r, hF, H', m, wr, rfl, hg⟩ := put16_fn v h2
           refine zKo (fun n => .tuple #[sq n 2 U, .int .i64 0]) [] [4] [([hi8 v, lo8 v].map byV, 5)] hF (fun k _ => aH k) (fun i j o hij hi => by simp at hi) (ArgOK.of (.cons _ _ _ _ (.int _ _) .nil)) (fun k o hk => by cases hk) (by decide) (fun x hx => by simp at hx; subst hx; exact ⟨aH _, by decide⟩) rfl (fun i b xs e hb hc => ?_)
            (fun n => .tuple _ _ (.cons _ _ _ _ (.sl _ _ _ _ _ (tau_at 0 (by decide) (aH _) rfl)) (.cons _ _ _ _ (.int _ _) .nil)))
           match i, hb, hc with
           | 0, hb, hc => cases hb; cases hc; exact ⟨hg, zAb _⟩
           | i + 1, hb, hc => simp at hb,
          uniq := fun x y a H n ⟨h1, _⟩ ⟨k1, _⟩ => by
           rw [h1] at k1
           simp only [aQ, Value.int.injEq, true_and, and_true] at k1
           have : x = y := by omega
           rw [this] }
theorem zPx (s : ByteArray) (l h : Nat) : bs (subS s l h) = ((bs s).take h).drop l := by simp [bs, subS]
theorem zAd (s : ByteArray) : s.data.size = (bs s).length := by simp [bs]
theorem zNv (s : ByteArray) (i : Nat) (h : i < (bs s).length) : atS s (i : Int) = (bs s)[i] := by
 unfold atS
 rw [aO, List.getD_eq_getElem?_getD]
 show ((bs s)[i]?).getD 0 = _
 rw [gG h]; rfl
theorem wrapN {x : Int} (h1 : 0 <= x) (h2 : x < 9223372036854775808) : IntKind.i64.wrap x = x := zDk (by omega) h2
theorem zNx (c : UInt8) : c.toNat < 256 := UInt8.toNat_lt c
def txtF : Nat -> Bs -> Bool
 | 0, _ => false
 | _ + 1, [] => true
 | n + 1, c :: r => decide (c.toNat <= r.length) && txtF n (r.drop c.toNat)
theorem txtF_eq : ∀ (n m : Nat) (l : Bs), l.length < n -> l.length < m -> txtF n l = txtF m l
 | n + 1, m + 1, [], _, _ => rfl
 | n + 1, m + 1, c :: r, h1, h2 => by
  simp only [txtF]
  rw [txtF_eq n m (r.drop c.toNat) (by simp at h1 ⊢; omega) (by simp at h2 ⊢; omega)]
def txt (l : Bs) : Bool := txtF (l.length + 1) l
theorem txt_nil : txt [] = true := rfl
theorem txt_cons (c : UInt8) (r : Bs) : txt (c :: r) = (decide (c.toNat <= r.length) && txt (r.drop c.toNat)) := by
 unfold txt
 simp only [txtF, aC]
 rw [txtF_eq (r.length + 1) ((r.drop c.toNat).length + 1) _ (by simp; omega) (by omega)]
theorem txt_at (l : Bs) (i : Nat) (h : i < l.length) : txt (l.drop i) = (decide (i + 1 + l[i].toNat <= l.length) && txt (l.drop (i + 1 + l[i].toNat))) := by
 rw [bD h, txt_cons, List.drop_drop]
 congr 1
 rw [decide_eq_decide]; simp; omega
def texts (l : Bs) : Bool := !l.isEmpty && txt l
theorem texts_fn (s : ByteArray) (hs : (bs s).length <= 1000000000) : ∃ r, FnS Try.prog 0 107 [.string s] .e 0 r /\ ∃ H m wr, r = .ret (.bool (texts (bs s))) H m wr := by
 refine zBp mixed (tbOf mixed []) [] Try.func107 (c := bodyOf Try.f107) (by kernel_rfl) ?_
 refine zOu (fun i f => ⟨slots 6 [(0, .string s), (3, .int .i64 (i : Nat))] f, heap 0 [], 0, [], []⟩) (fun i => (bs s).length - i) (fun i => i <= (bs s).length /\ txt (bs s) = txt ((bs s).drop i)) 0 ⟨aH _, rfl⟩
  (zBa [] rfl rfl rfl (fun l e => by cases e) List.nodup_nil (fun x hx => by cases hx) rfl rfl (fun k hk _ => hk) ⟨⟨_, rfl, .string _⟩, (sI rfl), tv⟩ trivial .nil) ?_
 rintro i f ⟨hi, heq⟩
 refine zAt (tbOf mixed []) [] 0 _ none mixed _ _ _ ?_
 refine ifK (fun h1 => ?_) (fun h1 => ?_)
 ·have h1 : i < (bs s).length := by have := oT h1; rw [zAd] at this; omega
  have hb := zNx (bs s)[i]
  have hat := zNv s i h1
  have e1 : IntKind.i64.wrap ((i : Int) + IntKind.i64.wrap (1 + IntKind.i64.wrap ((atS s (i : Int)).toNat : Int))) = ((i + 1 + (bs s)[i].toNat : Nat) : Int) := by
   rw [hat, wrapN (x := (((bs s)[i]).toNat : Int)) (by omega) (by omega), wrapN (x := 1 + (((bs s)[i]).toNat : Int)) (by omega) (by omega), wrapN (by omega) (by omega)]; omega
  refine aI (by simp only [inI, zAd]; simp; omega) ?_
  have hstep := txt_at (bs s) i h1
  refine ifK (fun h2 => ?_) (fun h2 => ?_)
  ·have h2 := oT h2
   rw [e1, zAd] at h2
   have : texts (bs s) = false := by
    unfold texts; rw [heq, hstep, aY (by omega)]; simp
   rw [this]; exact ⟨_, _, _, rfl⟩
  have h2 := oF h2
  rw [e1, zAd] at h2
  refine ⟨i + 1 + (bs s)[i].toNat, ⟨by omega, ?_⟩, by omega, zBa [] rfl rfl rfl (fun l e => by cases e) List.nodup_nil (fun x hx => by cases hx) rfl rfl (fun k hk _ => hk) ⟨⟨_, rfl, .string _⟩, zAc rfl e1, tv⟩ trivial .nil⟩
  rw [heq, hstep, aX (by omega), Bool.true_and]
 have h1 : ¬ i < (bs s).length := by have := oF h1; rw [zAd] at this; omega
 have : texts (bs s) = !(s.data.toList == []) := by
  unfold texts
  rw [heq, bE (by omega), txt_nil, Bool.and_true]
  show (!(bs s).isEmpty) = !(bs s == [])
  cases bs s <;> rfl
 rw [this]; exact ⟨_, _, _, rfl⟩
def rOf (Q : Value -> Tr AObj -> Prop) (r : Res) : Prop := match r with | .ret v H _ _ => Q v H | _ => False
def resV (r : Res) : Value := match r with | .ret v _ _ _ => v | _ => .nilFunc
noncomputable def evP (t : Int) : Res := ev Try.prog 0 1000 (.call 102 [.int .i64 t]) ⟨.e, .e, 0, [], []⟩
theorem zCg (t : Int) (Q : Value -> Tr AObj -> Prop) : (frcTr (tmpsOf [.int .i64 t] 0 .e) fun T => sx (tbK mixed (g0 := 0) true []) [] 0 (1 + (Try.f102.ntmps - 1)) none (bodyOf Try.f102) ⟨T, .e, 0, [], []⟩ (fnK (tbK mixed (g0 := 0) true []) Try.f102 (rOf Q))) =
  brK (t == 1) (Q (resV (evP 1)) (resH (evP 1))) (brK (t == 28) (Q (resV (evP 28)) (resH (evP 1))) (brK (t == 2) (Q (resV (evP 2)) (resH (evP 1))) (brK (t == 5) (Q (resV (evP 5)) (resH (evP 1))) (brK (t == 12) (Q (resV (evP 12)) (resH (evP 1)))
   (brK (t == 15) (Q (resV (evP 15)) (resH (evP 1))) (brK (t == 6) (Q (resV (evP 6)) (resH (evP 1))) (brK (t == 16) (Q (resV (evP 16)) (resH (evP 1))) (Q (.tuple #[.slice none 0 0, .bool false]) (resH (evP 1)))))))))) := by kernel_rfl
def part (n : Int) (name rest : Bool) : List Value := [.int .i64 n, .bool name, .bool rest]
def partsTab : List (Int × Nat × List Value) :=
 [(1, 1, part 4 false false), (28, 1, part 16 false false), (2, 1, part 0 true false), (5, 1, part 0 true false), (12, 1, part 0 true false), (15, 2, part 2 false false ++ part 0 true false),
  (6, 3, part 0 true false ++ part 0 true false ++ part 20 false false), (16, 1, part 0 false true)]
def partsOut (len : Nat) (c : List Value) (H : Tr AObj) (n : Nat) : Res := .ret (.tuple #[.slice (some ⟨n, 0, none⟩) len len, .bool true]) (H.set n (some (.cells c 144))) (n + 1) []
def partsGo (t : Int) (H : Tr AObj) (n : Nat) : List (Int × Nat × List Value) -> Res
 | [] => .ret (.tuple #[.slice none 0 0, .bool false]) H n []
 | (k, len, c) :: l => bif t == k then partsOut len c H n else partsGo t H n l
theorem zVu (t : Int) (H : Tr AObj) (n : Nat) : CallOK Try.prog 0 102 [.int .i64 t] H n (partsGo t H n partsTab) := by
 have main : ∀ v, (frcTr (tmpsOf [.int .i64 t] 0 .e) fun T => sx (tbK mixed (g0 := 0) true []) [] 0 (1 + (Try.f102.ntmps - 1)) none (bodyOf Try.f102) ⟨T, .e, 0, [], []⟩ (fnK (tbK mixed (g0 := 0) true []) Try.f102 (rOf fun v' H' => v' = v /\ H' = resH (evP 1)))) -> ∃ m wr, FnS Try.prog 0 102 [.int .i64 t] .e 0 (.ret v (resH (evP 1)) m wr) := by
  intro v h
  obtain ⟨r, h1, h2⟩ := zBp mixed (tbK mixed true []) [] Try.func102 (c := bodyOf Try.f102) (by kernel_rfl) h
  cases r with
  | ret v' H' m wr => obtain ⟨rfl, rfl⟩ := h2; exact ⟨m, wr, h1⟩
  | _ => exact h2.elim
 have one : ∀ (b len : Nat) (c : List Value), (∃ m wr, FnS Try.prog 0 102 [.int .i64 t] .e 0 (.ret (.tuple #[.slice (some ⟨b, 0, none⟩) len len, .bool true]) (resH (evP 1)) m wr)) -> (resH (evP 1)).get b = some (.cells c 144) -> b < JJ -> plainL c = true -> CallOK Try.prog 0 102 [.int .i64 t] H n (partsOut len c H n) := by
  rintro b len c ⟨m, wr, hF⟩ hb hJ hp
  exact zCq (fun n => .tuple #[.slice (some ⟨n, 0, none⟩) len len, .bool true]) hF rfl hb hJ hp (fun n => .tuple _ _ (.cons _ _ _ _ (.sl _ _ _ _ _ (zJf _ _)) (.cons _ _ _ _ (.bool _) .nil))) H n
 unfold partsTab
 simp only [partsGo]
 cases h1 : (t == 1) with
 | true => exact one 2 1 _ (main _ (by rw [zCg, h1]; exact ⟨(by kernel_rfl), rfl⟩)) (by kernel_rfl) (by decide) rfl
 | false =>
 cases h2 : (t == 28) with
 | true => exact one 3 1 _ (main _ (by rw [zCg, h1, h2]; exact ⟨(by kernel_rfl), rfl⟩)) (by kernel_rfl) (by decide) rfl
 | false =>
 cases h3 : (t == 2) with
 | true => exact one 4 1 _ (main _ (by rw [zCg, h1, h2, h3]; exact ⟨(by kernel_rfl), rfl⟩)) (by kernel_rfl) (by decide) rfl
 | false =>
 cases h4 : (t == 5) with
 | true => exact one 5 1 _ (main _ (by rw [zCg, h1, h2, h3, h4]; exact ⟨(by kernel_rfl), rfl⟩)) (by kernel_rfl) (by decide) rfl
 | false =>
 cases h5 : (t == 12) with
 | true => exact one 6 1 _ (main _ (by rw [zCg, h1, h2, h3, h4, h5]; exact ⟨(by kernel_rfl), rfl⟩)) (by kernel_rfl) (by decide) rfl
 | false =>
 cases h6 : (t == 15) with
 | true => exact one 7 2 _ (main _ (by rw [zCg, h1, h2, h3, h4, h5, h6]; exact ⟨(by kernel_rfl), rfl⟩)) (by kernel_rfl) (by decide) rfl
 | false =>
 cases h7 : (t == 6) with
 | true => exact one 8 3 _ (main _ (by rw [zCg, h1, h2, h3, h4, h5, h6, h7]; exact ⟨(by kernel_rfl), rfl⟩)) (by kernel_rfl) (by decide) rfl
 | false =>
 cases h8 : (t == 16) with
 | true => exact one 9 1 _ (main _ (by rw [zCg, h1, h2, h3, h4, h5, h6, h7, h8]; exact ⟨(by kernel_rfl), rfl⟩)) (by kernel_rfl) (by decide) rfl
 | false =>
  obtain ⟨m, wr, hF⟩ := main (.tuple #[.slice none 0 0, .bool false]) (by rw [zCg, h1, h2, h3, h4, h5, h6, h7, h8]; exact ⟨rfl, rfl⟩)
  exact zAw hF rfl rfl H n
def zposF : Nat -> Bs -> Option Nat
 | 0, _ => none
 | _ + 1, [] => none
 | n + 1, c :: r => if c.toNat = 0 then some 0 else (zposF n (r.drop c.toNat)).map (· + (c.toNat + 1))
theorem zWl : ∀ (n m : Nat) (l : Bs), l.length < n -> l.length < m -> zposF n l = zposF m l
 | n + 1, m + 1, [], _, _ => rfl
 | n + 1, m + 1, c :: r, h1, h2 => by
  simp only [zposF]
  rw [zWl n m (r.drop c.toNat) (by simp at h1 ⊢; omega) (by simp at h2 ⊢; omega)]
def zpos (l : Bs) : Option Nat := zposF (l.length + 1) l
theorem zWm : zpos [] = none := rfl
theorem zRy (c : UInt8) (r : Bs) : zpos (c :: r) = if c.toNat = 0 then some 0 else (zpos (r.drop c.toNat)).map (· + (c.toNat + 1)) := by
 unfold zpos
 simp only [zposF, aC]
 rw [zWl (r.length + 1) ((r.drop c.toNat).length + 1) _ (by simp; omega) (by omega)]
theorem zpos_at (l : Bs) (i : Nat) (h : i < l.length) : zpos (l.drop i) = if l[i].toNat = 0 then some 0 else (zpos (l.drop (i + 1 + l[i].toNat))).map (· + (l[i].toNat + 1)) := by
 rw [bD h, zRy, List.drop_drop]
theorem zUm : ∀ (n : Nat) (l : Bs) (k : Nat), l.length <= n -> zpos l = some k -> k < l.length
 | 0, l, k, hn, h => by
  have : l = [] := List.length_eq_zero_iff.1 (by omega)
  subst this; cases h
 | n + 1, [], k, _, h => by cases h
 | n + 1, c :: r, k, hn, h => by
  rw [zRy] at h
  split at h
  ·cases h; simp
  obtain ⟨j, hj, rfl⟩ := Option.map_eq_some_iff.1 h
  have := zUm n (r.drop c.toNat) j (by simp at hn ⊢; omega) hj
  simp at this ⊢; omega
theorem zGi {l : Bs} (h : (labels l).2 = 0) : l.length <= 255 := by
 unfold labels at h
 split at h
 ·cases h
 split at h
 ·cases h
 omega
def front (l : Bs) : Option Nat := match zpos l with | some k => if (labels (l.take (k + 1))).2 = 0 then some (k + 1) else none | none => none
def unfitV : Value := .iface 148 (.agg #[])
noncomputable def tbD3 : Tb Try.prog 0 := tbOf mixed [zHs]
theorem first_fn (s : ByteArray) (hs : (bs s).length <= 1000000000) : ∃ r, FnS Try.prog 0 108 [.string s] .e 0 r /\ ∃ H m wr, (∃ k, front (bs s) = some k /\ r = .ret (.string (subS s 0 k)) H m wr) \/ (front (bs s) = none /\ r = .pan [(unfitV, false)] H m wr) := by
 refine zBp mixed tbD3 [] Try.func108 (c := bodyOf Try.f108) (by kernel_rfl) ?_
 refine zOu (fun i f => ⟨slots 6 [(0, .string s), (3, .int .i64 (i : Nat))] f, heap 0 [], 0, [], []⟩) (fun i => (bs s).length + 300 - i) (fun i => i <= (bs s).length + 256 /\ zpos (bs s) = (zpos ((bs s).drop i)).map (· + i)) 0 ⟨aH _, by simp⟩
  (zBa [] rfl rfl rfl (fun l e => by cases e) List.nodup_nil (fun x hx => by cases hx) rfl rfl (fun k hk _ => hk) ⟨⟨_, rfl, .string _⟩, (sI rfl), tv⟩ trivial .nil) ?_
 rintro i f ⟨hi, heq⟩
 refine zAt tbD3 [] 0 _ none mixed _ _ _ ?_
 refine ifK (fun h1 => ?_) (fun h1 => ?_)
 ·have h1 : i < (bs s).length := by have := oT h1; rw [zAd] at this; omega
  have hb := zNx (bs s)[i]
  have hat := zNv s i h1
  have hstep := zpos_at (bs s) i h1
  refine ifK (fun h2 => ?_) (fun h2 => ?_)
  ·have h2 := oT h2
   refine aI (by simp only [inI, zAd]; simp; omega) ?_
   refine ifK (fun h3 => ?_) (fun h3 => ?_)
   ·have h3 : (bs s)[i].toNat = 0 := by rw [hat] at h3; simpa using h3
    rw [if_pos h3] at hstep
    rw [hstep] at heq
    have hz : zpos (bs s) = some i := by rw [heq]; simp
    have e1 : IntKind.i64.wrap ((i : Int) + 1) = ((i + 1 : Nat) : Int) := by rw [wrapN (by omega) (by omega)]; omega
    have e2 : (IntKind.i64.wrap ((i : Int) + 1)).toNat = i + 1 := by rw [e1]; rfl
    refine aI (by rw [e1]; simp only [inLH, zAd]; simp; omega) ?_
    have hsub : bs (subS s (Int.toNat 0) (IntKind.i64.wrap ((i : Int) + 1)).toNat) = (bs s).take (i + 1) := by rw [zPx, e2]; simp
    refine aI (by unfold shortB; rw [zAd, hsub]; simp; omega) ?_
    refine ifK (fun h4 => ?_) (fun h4 => ?_)
    ·have h4 : (labels ((bs s).take (i + 1))).2 = 0 := by rw [hsub] at h4; simpa using h4
     have hf : front (bs s) = some (i + 1) := by unfold front; rw [hz]; simp [h4]
     exact ⟨_, _, _, .inl ⟨i + 1, hf, by rw [<- e2]; rfl⟩⟩
    have h4 : ¬ (labels ((bs s).take (i + 1))).2 = 0 := by rw [hsub] at h4; simpa using h4
    have hf : front (bs s) = none := by unfold front; rw [hz]; simp [h4]
    exact ⟨_, _, _, .inr ⟨hf, rfl⟩⟩
   have h3 : (bs s)[i].toNat ≠ 0 := by rw [hat] at h3; simpa using h3
   rw [if_neg h3] at hstep
   have e1 : IntKind.i64.wrap ((i : Int) + IntKind.i64.wrap (1 + IntKind.i64.wrap ((atS s (i : Int)).toNat : Int))) = ((i + 1 + (bs s)[i].toNat : Nat) : Int) := by
    rw [hat, wrapN (x := (((bs s)[i]).toNat : Int)) (by omega) (by omega), wrapN (x := 1 + (((bs s)[i]).toNat : Int)) (by omega) (by omega), wrapN (by omega) (by omega)]; omega
   refine aI (by simp only [inI, zAd]; simp; omega) ?_
   refine ⟨i + 1 + (bs s)[i].toNat, ⟨by omega, ?_⟩, by omega, zBa [] rfl rfl rfl (fun l e => by cases e) List.nodup_nil (fun x hx => by cases hx) rfl rfl (fun k hk _ => hk) ⟨⟨_, rfl, .string _⟩, zAc rfl e1, tv⟩ trivial .nil⟩
   rw [heq, hstep, Option.map_map]
   congr 1
   funext j; simp; omega
  have h2 : ¬ i < 255 := by have := oF h2; omega
  have hf : front (bs s) = none := by
   unfold front
   rw [heq]
   cases hz : zpos ((bs s).drop i) with
   | none => rfl
   | some j =>
    simp only [Option.map_some]
    rw [if_neg]
    intro hl
    have h5 := zGi hl
    have h6 := zUm _ _ _ (aJ _) hz
    simp at h5 h6; omega
  exact ⟨_, _, _, .inr ⟨hf, rfl⟩⟩
 have h1 : ¬ i < (bs s).length := by have := oF h1; rw [zAd] at this; omega
 have hf : front (bs s) = none := by
  unfold front
  rw [heq, bE (by omega), zWm]; rfl
 exact ⟨_, _, _, .inr ⟨hf, rfl⟩⟩
def Ct.strF (f : FuncId) (out : ByteArray -> Value) (hp : ∀ s, plainV 8 (out s) = true) (ok : ∀ s, (bs s).length <= 1000000000 -> ∃ H m wr, FnS Try.prog 0 f [.string s] .e 0 (.ret (out s) H m wr)) : Ct Try.prog 0 where
 f := f
 res l H n := match l with | [.string s] => bif shortB s then .ret (out s) H n [] else .bad "long" [] | _ => .bad "arguments" []
 ok l H n := by
  split
  ·rename_i s
   cases hs : shortB s with
   | false => trivial
   | true => obtain ⟨_, _, _, h⟩ := ok s (zFv hs); exact zAw h rfl (hp s) H n
  trivial
 ck l H n K := match l with | [.string s] => shortB s = true /\ K (.ret (out s) H n []) | _ => False
 imp l H n K h := by
  split at h
  ·obtain ⟨h1, h2⟩ := h
   simp only [h1, cT]; exact h2
  exact h.elim
def zOe : Ct Try.prog 0 := Ct.strF 107 (fun s => .bool (texts (bs s))) (fun _ => rfl) (fun s hs => by
 obtain ⟨r, h, H, m, wr, rfl⟩ := texts_fn s hs
 exact ⟨H, m, wr, h⟩)
def frontN (l : Bs) : Nat := (front l).getD 0
def zOb : Ct Try.prog 0 where
 f := 108
 res l H n := match l with | [.string s] => bif shortB s then (bif (front (bs s)).isSome then .ret (.string (subS s 0 (frontN (bs s)))) H n [] else .pan [(unfitV, false)] H n []) else .bad "long" [] | _ => .bad "arguments" []
 ok l H n := by
  split
  ·rename_i s
   cases hs : shortB s with
   | false => trivial
   | true =>
    obtain ⟨r, h, H', m, wr, ⟨k, hf, rfl⟩ | ⟨hf, rfl⟩⟩ := first_fn s (zFv hs)
    ·simp only [hf, Option.isSome_some, cT]
     have : frontN (bs s) = k := by simp [frontN, hf]
     rw [this]
     exact zAw h rfl rfl H n
    simp only [hf, Option.isSome_none, cT, cF]
    exact zMi h rfl rfl H n
  trivial
 ck l H n K := match l with | [.string s] => shortB s = true /\ brK (front (bs s)).isSome (K (.ret (.string (subS s 0 (frontN (bs s)))) H n [])) (K (.pan [(unfitV, false)] H n [])) | _ => False
 imp l H n K h := by
  split at h
  ·rename_i s
   obtain ⟨h1, h2⟩ := h
   simp only [h1, cT]
   cases hf : (front (bs s)).isSome with
   | true => rw [hf] at h2; exact h2
   | false => rw [hf] at h2; exact h2
  exact h.elim
inductive Pt where
 | nm
 | rest
 | sz (k : Nat)
def Pt.cell : Pt -> List Value
 | .nm => part 0 true false
 | .rest => part 0 false true
 | .sz k => part k false false
def Pt.isName : Pt -> Bool
 | .nm => true
 | _ => false
theorem Pt.cell_len (p : Pt) : p.cell.length = 3 := by cases p <;> rfl
theorem Pt.cell_plain (p : Pt) : plainL p.cell = true := by cases p <;> rfl
def pc (p : Bs × Bool) : List Value := [str p.1, .bool p.2]
theorem zJo (p : Bs × Bool) : (pc p).length = 2 := rfl
theorem zCz (p : Bs × Bool) : plainL (pc p) = true := rfl
def Pt.cut (p : Pt) (l : Bs) : Option Nat :=
 match p with
 | .nm => front l
 | .rest => if texts l then some l.length else none
 | .sz k => if k <= l.length then some k else none
def cuts : List Pt -> Bs -> Option (List (Bs × Bool) × Bs)
 | [], l => some ([], l)
 | p :: ps, l => match p.cut l with
  | none => none
  | some n => (cuts ps (l.drop n)).map fun x => ((l.take n, p.isName) :: x.1, x.2)
theorem zGh {l : Bs} {k : Nat} (h : front l = some k) : k <= l.length := by
 unfold front at h
 split at h
 ·rename_i j hj
  have := zUm _ _ _ (aJ _) hj
  split at h
  ·cases h; omega
  cases h
 cases h
def spS (ps : List Pt) (x : Nat × List (Bs × Bool) × ByteArray) (f : Nat -> Option Value) : Fs :=
 match x with
 | (i, acc, s) =>
  match acc with
  | [] => ⟨slots 7 [(1, .string s), (4, .pointer (some ⟨0, 0, none⟩)), (5, .pointer (some ⟨1, 0, none⟩)), (22, .slice (some ⟨2, 0, none⟩) ps.length ps.length), (23, .int .i64 ps.length), (24, .int .i64 i)] f,
    heap 3 [(0, .cells [.slice none 0 0] 123), (1, .cells [.bool false] 4), (2, .cells (ps.flatMap Pt.cell) 144)], 3, [], [.call 106 [.pointer (some ⟨0, 0, none⟩), .pointer (some ⟨1, 0, none⟩)] []]⟩
  | a :: l => ⟨slots 7 [(1, .string s), (4, .pointer (some ⟨0, 0, none⟩)), (5, .pointer (some ⟨1, 0, none⟩)), (22, .slice (some ⟨2, 0, none⟩) ps.length ps.length), (23, .int .i64 ps.length), (24, .int .i64 i)] f,
    heap 3 [(0, .cells [.slice (some ⟨3, 0, none⟩) (l.length + 1) U] 123), (1, .cells [.bool false] 4), (2, .cells (ps.flatMap Pt.cell) 144), (3, .cells ((a :: l).flatMap pc) 127)], 4, [], [.call 106 [.pointer (some ⟨0, 0, none⟩), .pointer (some ⟨1, 0, none⟩)] []]⟩
noncomputable def endS (tb : Tb Try.prog 0) (x : Ex) (s : Fs) : Res :=
 match modeOf x with
 | some u => (match evOut Try.prog tb.go s.df u s.H s.n s.wr with
  | .ok none H n wr => (match zBd Try.prog { s with H } Try.f91.results.toList with | some vs => .ret (tupleOf vs) H n wr | none => .bad "" [])
  | _ => .bad "" [])
 | none => .bad "" []
def hOf (r : Res) : Tr AObj := match r with | .ret _ H _ _ => H | _ => .e
def nOf (r : Res) : Nat := match r with | .ret _ _ n _ => n | _ => 0
def wOf (r : Res) : List Nat := match r with | .ret _ _ _ wr => wr | _ => []
noncomputable def sEnd0 (f2 : Nat -> Option Value) : Fs := ⟨slots 7 [(4, .pointer (some ⟨0, 0, none⟩)), (5, .pointer (some ⟨1, 0, none⟩))] f2, heap 2 [(0, .cells [.slice none 0 0] 123), (1, .cells [.bool false] 4)], 2, [], [.call 106 [.pointer (some ⟨0, 0, none⟩), .pointer (some ⟨1, 0, none⟩)] []]⟩
theorem zOh (tb : Tb Try.prog 0) (R : Res -> Prop) (f2 : Nat -> Option Value) : fnK tb Try.f91 R (.pan [(unfitV, false)]) (sEnd0 f2) = R (.ret (.tuple #[.slice none 0 0, .bool false]) (hOf (endS tb (.pan [(unfitV, false)]) (sEnd0 f2))) (nOf (endS tb (.pan [(unfitV, false)]) (sEnd0 f2))) (wOf (endS tb (.pan [(unfitV, false)]) (sEnd0 f2)))) := by kernel_rfl
noncomputable def sEnd1 (k : Nat) (f2 : Nat -> Option Value) : Fs := ⟨slots 7 [(4, .pointer (some ⟨0, 0, none⟩)), (5, .pointer (some ⟨1, 0, none⟩))] f2, heap 2 [(0, .cells [.slice (some ⟨2, 0, none⟩) (k + 1) U] 123), (1, .cells [.bool false] 4)], 3, [], [.call 106 [.pointer (some ⟨0, 0, none⟩), .pointer (some ⟨1, 0, none⟩)] []]⟩
theorem zOi (tb : Tb Try.prog 0) (R : Res -> Prop) (k : Nat) (f2 : Nat -> Option Value) : fnK tb Try.f91 R (.pan [(unfitV, false)]) (sEnd1 k f2) = R (.ret (.tuple #[.slice none 0 0, .bool false]) (hOf (endS tb (.pan [(unfitV, false)]) (sEnd1 k f2))) (nOf (endS tb (.pan [(unfitV, false)]) (sEnd1 k f2))) (wOf (endS tb (.pan [(unfitV, false)]) (sEnd1 k f2)))) := by kernel_rfl
noncomputable def sEnd2 (k : Nat) (b : Bool) (c : List Value) (f2 : Nat -> Option Value) : Fs := ⟨slots 7 [(4, .pointer (some ⟨0, 0, none⟩)), (5, .pointer (some ⟨1, 0, none⟩))] f2, heap 2 [(0, .cells [.slice (some ⟨2, 0, none⟩) (k + 1) U] 123), (1, .cells [.bool b] 4), (2, .cells c 127)], 3, [], [.call 106 [.pointer (some ⟨0, 0, none⟩), .pointer (some ⟨1, 0, none⟩)] []]⟩
theorem end_ret (tb : Tb Try.prog 0) (R : Res -> Prop) (k : Nat) (b : Bool) (c : List Value) (f2 : Nat -> Option Value) : fnK tb Try.f91 R .ret (sEnd2 k b c f2) = R (.ret (.tuple #[.slice (some ⟨2, 0, none⟩) (k + 1) U, .bool b]) (hOf (endS tb .ret (sEnd2 k b c f2))) (nOf (endS tb .ret (sEnd2 k b c f2))) (wOf (endS tb .ret (sEnd2 k b c f2)))) := by kernel_rfl
theorem zTa (tb : Tb Try.prog 0) (k : Nat) (b : Bool) (c : List Value) (f2 : Nat -> Option Value) : (hOf (endS tb .ret (sEnd2 k b c f2))).get 2 = some (.cells c 127) := by kernel_rfl
def zGc (t : Int) (ps : List Pt) (h : ∀ H n, partsGo t H n partsTab = partsOut ps.length (ps.flatMap Pt.cell) H n) : Ct Try.prog 0 where
 f := 102
 res l H n := match l with | [.int .i64 t'] => bif t' == t then partsOut ps.length (ps.flatMap Pt.cell) H n else .bad "type" [] | _ => .bad "arguments" []
 ok l H n := by
  split
  ·rename_i t'
   cases hb : (t' == t) with
   | false => trivial
   | true =>
    have hb : t' = t := by simpa using hb
    subst hb
    have := zVu t' H n
    rw [h] at this
    exact this
  trivial
 ck l H n K := match l with | [.int .i64 t'] => (t' == t) = true /\ K (partsOut ps.length (ps.flatMap Pt.cell) H n) | _ => False
 imp l H n K h := by
  split at h
  ·obtain ⟨h1, h2⟩ := h
   simp only [h1, cT]; exact h2
  exact h.elim
theorem zBz (s : ByteArray) (x : Int) (k : Nat) (h : x = k) : Value.string (subS s (Int.toNat 0) x.toNat) = str ((bs s).take k) := by
 subst h
 show _ = Value.string ⟨((bs s).take k).toArray⟩
 congr 1
theorem zAq (s : ByteArray) (x : Int) (k : Nat) (h : x = k) : bs (subS s x.toNat ((s.data.size : Int)).toNat) = (bs s).drop k := by
 subst h
 rw [zPx, aO, aO, zAd, List.take_length]
theorem zQg (ps : List Pt) (i : Nat) (h : i < ps.length) (l : Bs) : cuts (ps.drop i) l = match ps[i].cut l with
  | none => none
  | some n => (cuts (ps.drop (i + 1)) (l.drop n)).map fun x => ((l.take n, ps[i].isName) :: x.1, x.2) := by
 rw [bD h]; rfl
theorem zWh (t : Int) (ps : List Pt) (hps : 0 < ps.length) (hps2 : ps.length < 1000) (ht : ∀ H n, partsGo t H n partsTab = partsOut ps.length (ps.flatMap Pt.cell) H n) (s0 : ByteArray) (hs0 : (bs s0).length <= 1000000000) :
  ∃ r, FnS Try.prog 0 91 [.int .i64 t, .string s0] .e 0 r /\ ∃ H m wr,
   (∃ out rest b, cuts ps (bs s0) = some (out, rest) /\ r = .ret (.tuple #[.slice (some ⟨b, 0, none⟩) out.length U, .bool rest.isEmpty]) H m wr /\ H.get b = some (.cells (out.flatMap pc) 127) /\ b < JJ) \/
   (cuts ps (bs s0) = none /\ r = .ret (.tuple #[.slice none 0 0, .bool false]) H m wr) := by
 refine zVe mixed (tbOf mixed [zGc t ps ht, zOe, zOb]) [2, 3] Try.func91 (c := bodyOf Try.f91) (by kernel_rfl) ?_
 refine aI (by simp) ?_
 refine zOu (spS ps) (fun x => ps.length - x.1) (fun x => x.1 <= ps.length /\ (bs x.2.2).length <= 1000000000 /\ x.2.1.length = x.1 /\ cuts ps (bs s0) = (cuts (ps.drop x.1) (bs x.2.2)).map fun y => (x.2.1 ++ y.1, y.2)) (0, [], s0) ⟨aH _, hs0, rfl, by simp⟩
  (zBa [0, 1, 2] rfl rfl rfl (fun l e => by cases e) (by decide) (by decide) rfl rfl (fun k hk h => by omega) ⟨⟨_, rfl, .string _⟩, (sP rfl rfl), (sP rfl rfl), (sL rfl rfl), (sI rfl), (sI rfl), tv⟩
   ⟨bpo rfl, bpo rfl, bpo (zAe _ Pt.cell_plain ps), tv⟩ (.fn _ _ _ _ _ _ _ (.cons _ _ _ _ (.ptr _ _ _ rfl) (.cons _ _ _ _ (.ptr _ _ _ rfl) .nil)) .nil .nil)) ?_
 rintro ⟨i, acc, s⟩ f ⟨hi, hs, hacc, heq⟩
 have hi : i <= ps.length := hi
 have hs : (bs s).length <= 1000000000 := hs
 have hacc : acc.length = i := hacc
 have heq : cuts ps (bs s0) = (cuts (ps.drop i) (bs s)).map fun y => (acc ++ y.1, y.2) := heq
 have hsB : shortB s = true := by unfold shortB; rw [zAd]; exact bL hs
 have side : ∀ (h1 : i < ps.length), (0 + ((i : Nat) : Int).toNat * 3 + 3 <= (ps.flatMap Pt.cell).length /\ List.take 3 (List.drop (0 + ((i : Nat) : Int).toNat * 3) (ps.flatMap Pt.cell)) = ps[i].cell) := fun h1 => by
  have := zIq Pt.cell 3 Pt.cell_len ps i h1
  rw [aO, aS]; exact this
 cases acc with
 | nil =>
  refine zAt (tbOf mixed [zGc t ps ht, zOe, zOb]) [2] 0 _ none mixed _ _ _ ?_
  refine ifK (fun h1 => ?_) (fun h1 => ?_)
  ·have h1 : i < ps.length := by have := oT h1; omega
   have hst := zQg ps i h1 (bs s)
   have hsd := side h1
   refine ifK (fun _ => ?_) (fun h2 => ab h2 (by simp [inI]; omega))
   cases hp : ps[i] with
   | nm =>
    rw [hp] at hst hsd
    refine eI 0 (eI true (eI false (aI hsd ?_)))
    refine aI hsB ?_
    refine ifK (fun h3 => ?_) (fun h3 => ?_)
    ·obtain ⟨k, hk⟩ := Option.isSome_iff_exists.1 h3
     have hcut : Pt.nm.cut (bs s) = some k := hk
     have hkn : frontN (bs s) = k := by simp [frontN, hk]
     have hkl := zGh hk
     have hx : ((subS s 0 (frontN (bs s))).data.size : Int) = (k : Nat) := by rw [zAd, zPx, hkn]; simp; omega
     refine aI (by kernel_rfl) ?_
     refine aI (by rw [hx]; simp only [inLH, zAd, bA, dT] <;> omega) ?_
     refine aI (by rw [hx]; simp only [inLH, zAd, bA, dT] <;> omega) ?_
     refine ⟨(i + 1, [] ++ [((bs s).take (k), true)], subS s (((subS s 0 (frontN (bs s))).data.size : Int)).toNat ((s.data.size : Int)).toNat), ⟨h1, ?_, ?_, ?_⟩, ?_, ?_⟩
     ·show (bs (subS s _ _)).length <= _; rw [zAq s _ _ hx]; simp <;> omega
     ·simp only [aB, hacc]; rfl
     ·show cuts ps (bs s0) = (cuts (ps.drop (i + 1)) (bs (subS s _ _))).map _; rw [zAq s _ _ hx, heq, hst, hcut]; simp only [Option.map_map]; exact congrArg (fun g => Option.map g _) (funext fun y => by simp [Pt.isName])
     ·show ps.length - (i + 1) < ps.length - i; omega
     refine zBa [0, 1, 2, 5] rfl rfl rfl (fun l e => by cases e) (by decide) (by decide) rfl rfl (fun k hk h => by omega) ⟨⟨_, rfl, .string _⟩, (sP rfl rfl), (sP rfl rfl), (sL rfl rfl), (sI rfl), zAc rfl (by rw [wrapN (by omega) (by omega)]; omega), tv⟩ ⟨⟨by decide, _, rfl, ?_⟩, bpo rfl, bpo (zAe _ Pt.cell_plain ps), ⟨by decide, _, rfl, ?_⟩, tv⟩ (.fn _ _ _ _ _ _ _ (.cons _ _ _ _ (.ptr _ _ _ rfl) (.cons _ _ _ _ (.ptr _ _ _ rfl) .nil)) .nil .nil)
     ·exact zBb rfl
     refine zAv ?_ (zAe pc zCz _)
     show [Value.string (subS s (Int.toNat 0) (((subS s 0 (frontN (bs s))).data.size : Int)).toNat), .bool true] = _
     rw [zBz s _ _ hx]; rfl
    have hcut : Pt.nm.cut (bs s) = none := by have : (front (bs s)).isSome = false := h3; simpa [Pt.cut] using this
    have hn : cuts ps (bs s0) = none := by rw [heq, hst, hcut]; rfl
    refine aI rfl (zAj (zBa [0, 1] (d := 7) (d2 := 2) (lv := [(4, .pointer (some ⟨0, 0, none⟩)), (5, .pointer (some ⟨1, 0, none⟩))]) (bs := [(0, .cells [.slice none 0 0] 123), (1, .cells [.bool false] 4)]) (W := []) (m := 2) (df := [.call 106 [.pointer (some ⟨0, 0, none⟩), .pointer (some ⟨1, 0, none⟩)] []]) rfl rfl rfl (fun l e => by cases e) (by decide) (by decide) rfl rfl (fun k hk h => by omega) ⟨(sP rfl rfl), (sP rfl rfl), tv⟩ ⟨bpo rfl, bpo rfl, tv⟩ (.fn _ _ _ _ _ _ _ (.cons _ _ _ _ (.ptr _ _ _ rfl) (.cons _ _ _ _ (.ptr _ _ _ rfl) .nil)) .nil .nil)) (fun f2 => ?_))
    refine Eq.mpr (zOh _ _ f2) ?_
    exact eI _ (eI _ (eI _ (Or.inr (aI hn rfl))))
   | rest =>
    rw [hp] at hst hsd
    refine eI 0 (eI false (eI true (aI hsd ?_)))
    refine aI hsB ?_
    refine ifK (fun h3 => ?_) (fun h3 => ?_)
    ·have hcut : Pt.rest.cut (bs s) = some (bs s).length := by have h3 : texts (bs s) = true := h3; simp [Pt.cut, h3]
     have hx : (s.data.size : Int) = ((bs s).length : Nat) := by rw [zAd]
     refine aI (by kernel_rfl) ?_
     refine aI (by rw [hx]; simp only [inLH, zAd, bA, dT] <;> omega) ?_
     refine aI (by rw [hx]; simp only [inLH, zAd, bA, dT] <;> omega) ?_
     refine ⟨(i + 1, [] ++ [((bs s).take ((bs s).length), false)], subS s ((s.data.size : Int)).toNat ((s.data.size : Int)).toNat), ⟨h1, ?_, ?_, ?_⟩, ?_, ?_⟩
     ·show (bs (subS s _ _)).length <= _; rw [zAq s _ _ hx]; simp <;> omega
     ·simp only [aB, hacc]; rfl
     ·show cuts ps (bs s0) = (cuts (ps.drop (i + 1)) (bs (subS s _ _))).map _; rw [zAq s _ _ hx, heq, hst, hcut]; simp only [Option.map_map]; exact congrArg (fun g => Option.map g _) (funext fun y => by simp [Pt.isName])
     ·show ps.length - (i + 1) < ps.length - i; omega
     refine zBa [0, 1, 2, 5] rfl rfl rfl (fun l e => by cases e) (by decide) (by decide) rfl rfl (fun k hk h => by omega) ⟨⟨_, rfl, .string _⟩, (sP rfl rfl), (sP rfl rfl), (sL rfl rfl), (sI rfl), zAc rfl (by rw [wrapN (by omega) (by omega)]; omega), tv⟩ ⟨⟨by decide, _, rfl, ?_⟩, bpo rfl, bpo (zAe _ Pt.cell_plain ps), ⟨by decide, _, rfl, ?_⟩, tv⟩ (.fn _ _ _ _ _ _ _ (.cons _ _ _ _ (.ptr _ _ _ rfl) (.cons _ _ _ _ (.ptr _ _ _ rfl) .nil)) .nil .nil)
     ·exact zBb rfl
     refine zAv ?_ (zAe pc zCz _)
     show [Value.string (subS s (Int.toNat 0) ((s.data.size : Int)).toNat), .bool false] = _
     rw [zBz s _ _ hx]; rfl
    have hcut : Pt.rest.cut (bs s) = none := by have h3 : texts (bs s) = false := h3; simp [Pt.cut, h3]
    have hn : cuts ps (bs s0) = none := by rw [heq, hst, hcut]; rfl
    refine aI rfl (zAj (zBa [0, 1] (d := 7) (d2 := 2) (lv := [(4, .pointer (some ⟨0, 0, none⟩)), (5, .pointer (some ⟨1, 0, none⟩))]) (bs := [(0, .cells [.slice none 0 0] 123), (1, .cells [.bool false] 4)]) (W := []) (m := 2) (df := [.call 106 [.pointer (some ⟨0, 0, none⟩), .pointer (some ⟨1, 0, none⟩)] []]) rfl rfl rfl (fun l e => by cases e) (by decide) (by decide) rfl rfl (fun k hk h => by omega) ⟨(sP rfl rfl), (sP rfl rfl), tv⟩ ⟨bpo rfl, bpo rfl, tv⟩ (.fn _ _ _ _ _ _ _ (.cons _ _ _ _ (.ptr _ _ _ rfl) (.cons _ _ _ _ (.ptr _ _ _ rfl) .nil)) .nil .nil)) (fun f2 => ?_))
    refine Eq.mpr (zOh _ _ f2) ?_
    exact eI _ (eI _ (eI _ (Or.inr (aI hn rfl))))
   | sz k =>
    rw [hp] at hst hsd
    refine eI (k : Int) (eI false (eI false (aI hsd ?_)))
    refine ifK (fun h3 => ?_) (fun h3 => ?_)
    ·have h3 : ¬ k <= (bs s).length := by have := oT h3; rw [zAd] at this; omega
     have hcut : (Pt.sz k).cut (bs s) = none := by simp [Pt.cut, h3]
     have hn : cuts ps (bs s0) = none := by rw [heq, hst, hcut]; rfl
     refine aI rfl (zAj (zBa [0, 1] (d := 7) (d2 := 2) (lv := [(4, .pointer (some ⟨0, 0, none⟩)), (5, .pointer (some ⟨1, 0, none⟩))]) (bs := [(0, .cells [.slice none 0 0] 123), (1, .cells [.bool false] 4)]) (W := []) (m := 2) (df := [.call 106 [.pointer (some ⟨0, 0, none⟩), .pointer (some ⟨1, 0, none⟩)] []]) rfl rfl rfl (fun l e => by cases e) (by decide) (by decide) rfl rfl (fun k hk h => by omega) ⟨(sP rfl rfl), (sP rfl rfl), tv⟩ ⟨bpo rfl, bpo rfl, tv⟩ (.fn _ _ _ _ _ _ _ (.cons _ _ _ _ (.ptr _ _ _ rfl) (.cons _ _ _ _ (.ptr _ _ _ rfl) .nil)) .nil .nil)) (fun f2 => ?_))
     refine Eq.mpr (zOh _ _ f2) ?_
     exact eI _ (eI _ (eI _ (Or.inr (aI hn rfl))))
    have h3 : k <= (bs s).length := by have := oF h3; rw [zAd] at this; omega
    have hcut : (Pt.sz k).cut (bs s) = some k := by simp [Pt.cut, h3]
    have hx : (k : Int) = (k : Nat) := rfl
    refine aI (by kernel_rfl) ?_
    refine aI (by rw [hx]; simp only [inLH, zAd, bA, dT] <;> omega) ?_
    refine aI (by rw [hx]; simp only [inLH, zAd, bA, dT] <;> omega) ?_
    refine ⟨(i + 1, [] ++ [((bs s).take (k), false)], subS s ((k : Int)).toNat ((s.data.size : Int)).toNat), ⟨h1, ?_, ?_, ?_⟩, ?_, ?_⟩
    ·show (bs (subS s _ _)).length <= _; rw [zAq s _ _ hx]; simp <;> omega
    ·simp only [aB, hacc]; rfl
    ·show cuts ps (bs s0) = (cuts (ps.drop (i + 1)) (bs (subS s _ _))).map _; rw [zAq s _ _ hx, heq, hst, hcut]; simp only [Option.map_map]; exact congrArg (fun g => Option.map g _) (funext fun y => by simp [Pt.isName])
    ·show ps.length - (i + 1) < ps.length - i; omega
    refine zBa [0, 1, 2, 5] rfl rfl rfl (fun l e => by cases e) (by decide) (by decide) rfl rfl (fun k hk h => by omega) ⟨⟨_, rfl, .string _⟩, (sP rfl rfl), (sP rfl rfl), (sL rfl rfl), (sI rfl), zAc rfl (by rw [wrapN (by omega) (by omega)]; omega), tv⟩ ⟨⟨by decide, _, rfl, ?_⟩, bpo rfl, bpo (zAe _ Pt.cell_plain ps), ⟨by decide, _, rfl, ?_⟩, tv⟩ (.fn _ _ _ _ _ _ _ (.cons _ _ _ _ (.ptr _ _ _ rfl) (.cons _ _ _ _ (.ptr _ _ _ rfl) .nil)) .nil .nil)
    ·exact zBb rfl
    refine zAv ?_ (zAe pc zCz _)
    show [Value.string (subS s (Int.toNat 0) ((k : Int)).toNat), .bool false] = _
    rw [zBz s _ _ hx]; rfl
  have h1 : ¬ i < ps.length := by have := oF h1; omega
  exact ab hacc (by simp; omega)
 | cons a l =>
  refine zAt (tbOf mixed [zGc t ps ht, zOe, zOb]) [2, 3] 0 _ none mixed _ _ _ ?_
  refine ifK (fun h1 => ?_) (fun h1 => ?_)
  ·have h1 : i < ps.length := by have := oT h1; omega
   have hst := zQg ps i h1 (bs s)
   have hsd := side h1
   refine ifK (fun _ => ?_) (fun h2 => ab h2 (by simp [inI]; omega))
   cases hp : ps[i] with
   | nm =>
    rw [hp] at hst hsd
    refine eI 0 (eI true (eI false (aI hsd ?_)))
    refine aI hsB ?_
    refine ifK (fun h3 => ?_) (fun h3 => ?_)
    ·obtain ⟨k, hk⟩ := Option.isSome_iff_exists.1 h3
     have hcut : Pt.nm.cut (bs s) = some k := hk
     have hkn : frontN (bs s) = k := by simp [frontN, hk]
     have hkl := zGh hk
     have hx : ((subS s 0 (frontN (bs s))).data.size : Int) = (k : Nat) := by rw [zAd, zPx, hkn]; simp; omega
     refine aI (by kernel_rfl) ?_
     refine aI (by rw [hx]; simp only [inLH, zAd, bA, dT] <;> omega) ?_
     refine aI (by rw [zAg pc 2 zJo]; have hT : (Try.prog.types[127]).size = 2 := (by kernel_rfl); have hB : (Try.prog.types[127]).bytes = 24 := (by kernel_rfl); have hl : l.length + 1 = i := hacc; simp [oneL, Value.oneCell', hT, hB]; omega) ?_
     refine aI (by rw [hx]; simp only [inLH, zAd, bA, dT] <;> omega) ?_
     refine ⟨(i + 1, (a :: l) ++ [((bs s).take (k), true)], subS s (((subS s 0 (frontN (bs s))).data.size : Int)).toNat ((s.data.size : Int)).toNat), ⟨h1, ?_, ?_, ?_⟩, ?_, ?_⟩
     ·show (bs (subS s _ _)).length <= _; rw [zAq s _ _ hx]; simp <;> omega
     ·simp only [aB, hacc]; rfl
     ·show cuts ps (bs s0) = (cuts (ps.drop (i + 1)) (bs (subS s _ _))).map _; rw [zAq s _ _ hx, heq, hst, hcut]; simp only [Option.map_map]; exact congrArg (fun g => Option.map g _) (funext fun y => by simp [Pt.isName])
     ·show ps.length - (i + 1) < ps.length - i; omega
     refine zBa [0, 1, 2, 6] rfl rfl rfl (fun l e => by cases e) (by decide) (by decide) rfl rfl (fun k hk h => by omega) ⟨⟨_, rfl, .string _⟩, (sP rfl rfl), (sP rfl rfl), (sL rfl rfl), (sI rfl), zAc rfl (by rw [wrapN (by omega) (by omega)]; omega), tv⟩ ⟨⟨by decide, _, rfl, ?_⟩, bpo rfl, bpo (zAe _ Pt.cell_plain ps), ⟨by decide, _, rfl, ?_⟩, tv⟩ (.fn _ _ _ _ _ _ _ (.cons _ _ _ _ (.ptr _ _ _ rfl) (.cons _ _ _ _ (.ptr _ _ _ rfl) .nil)) .nil .nil)
     ·have : (l ++ [((bs s).take (k), true)]).length = l.length + 1 := by simp
      show RO _ _ _ (.cells [.slice _ ((l ++ [_]).length + 1) U] _)
      rw [this]
      exact zBb rfl
     refine zAv ?_ (zAe pc zCz _)
     show List.take ((l.length + 1) * 2) ((a :: l).flatMap pc) ++ [Value.string (subS s (Int.toNat 0) (((subS s 0 (frontN (bs s))).data.size : Int)).toNat), .bool true] = _
     rw [zBz s _ _ hx, aD (by rw [zAg pc 2 zJo]; simp)]
     show _ = ((a :: l) ++ [_]).flatMap pc
     rw [zLa]; rfl
    have hcut : Pt.nm.cut (bs s) = none := by have : (front (bs s)).isSome = false := h3; simpa [Pt.cut] using this
    have hn : cuts ps (bs s0) = none := by rw [heq, hst, hcut]; rfl
    refine aI rfl (zAj (zBa [0, 1, 3] (d := 7) (d2 := 2) (lv := [(4, .pointer (some ⟨0, 0, none⟩)), (5, .pointer (some ⟨1, 0, none⟩))]) (bs := [(0, .cells [.slice (some ⟨2, 0, none⟩) (l.length + 1) U] 123), (1, .cells [.bool false] 4)]) (W := []) (m := 3) (df := [.call 106 [.pointer (some ⟨0, 0, none⟩), .pointer (some ⟨1, 0, none⟩)] []]) rfl rfl rfl (fun l e => by cases e) (by decide) (by decide) rfl rfl (fun k hk h => by omega) ⟨(sP rfl rfl), (sP rfl rfl), tv⟩ ⟨⟨by decide, _, rfl, zBb rfl⟩, bpo rfl, tv⟩ (.fn _ _ _ _ _ _ _ (.cons _ _ _ _ (.ptr _ _ _ rfl) (.cons _ _ _ _ (.ptr _ _ _ rfl) .nil)) .nil .nil)) (fun f2 => ?_))
    refine Eq.mpr (zOi _ _ l.length f2) ?_
    exact eI _ (eI _ (eI _ (Or.inr (aI hn rfl))))
   | rest =>
    rw [hp] at hst hsd
    refine eI 0 (eI false (eI true (aI hsd ?_)))
    refine aI hsB ?_
    refine ifK (fun h3 => ?_) (fun h3 => ?_)
    ·have hcut : Pt.rest.cut (bs s) = some (bs s).length := by have h3 : texts (bs s) = true := h3; simp [Pt.cut, h3]
     have hx : (s.data.size : Int) = ((bs s).length : Nat) := by rw [zAd]
     refine aI (by kernel_rfl) ?_
     refine aI (by rw [hx]; simp only [inLH, zAd, bA, dT] <;> omega) ?_
     refine aI (by rw [zAg pc 2 zJo]; have hT : (Try.prog.types[127]).size = 2 := (by kernel_rfl); have hB : (Try.prog.types[127]).bytes = 24 := (by kernel_rfl); have hl : l.length + 1 = i := hacc; simp [oneL, Value.oneCell', hT, hB]; omega) ?_
     refine aI (by rw [hx]; simp only [inLH, zAd, bA, dT] <;> omega) ?_
     refine ⟨(i + 1, (a :: l) ++ [((bs s).take ((bs s).length), false)], subS s ((s.data.size : Int)).toNat ((s.data.size : Int)).toNat), ⟨h1, ?_, ?_, ?_⟩, ?_, ?_⟩
     ·show (bs (subS s _ _)).length <= _; rw [zAq s _ _ hx]; simp <;> omega
     ·simp only [aB, hacc]; rfl
     ·show cuts ps (bs s0) = (cuts (ps.drop (i + 1)) (bs (subS s _ _))).map _; rw [zAq s _ _ hx, heq, hst, hcut]; simp only [Option.map_map]; exact congrArg (fun g => Option.map g _) (funext fun y => by simp [Pt.isName])
     ·show ps.length - (i + 1) < ps.length - i; omega
     refine zBa [0, 1, 2, 6] rfl rfl rfl (fun l e => by cases e) (by decide) (by decide) rfl rfl (fun k hk h => by omega) ⟨⟨_, rfl, .string _⟩, (sP rfl rfl), (sP rfl rfl), (sL rfl rfl), (sI rfl), zAc rfl (by rw [wrapN (by omega) (by omega)]; omega), tv⟩ ⟨⟨by decide, _, rfl, ?_⟩, bpo rfl, bpo (zAe _ Pt.cell_plain ps), ⟨by decide, _, rfl, ?_⟩, tv⟩ (.fn _ _ _ _ _ _ _ (.cons _ _ _ _ (.ptr _ _ _ rfl) (.cons _ _ _ _ (.ptr _ _ _ rfl) .nil)) .nil .nil)
     ·have : (l ++ [((bs s).take ((bs s).length), false)]).length = l.length + 1 := by simp
      show RO _ _ _ (.cells [.slice _ ((l ++ [_]).length + 1) U] _)
      rw [this]
      exact zBb rfl
     refine zAv ?_ (zAe pc zCz _)
     show List.take ((l.length + 1) * 2) ((a :: l).flatMap pc) ++ [Value.string (subS s (Int.toNat 0) ((s.data.size : Int)).toNat), .bool false] = _
     rw [zBz s _ _ hx, aD (by rw [zAg pc 2 zJo]; simp)]
     show _ = ((a :: l) ++ [_]).flatMap pc
     rw [zLa]; rfl
    have hcut : Pt.rest.cut (bs s) = none := by have h3 : texts (bs s) = false := h3; simp [Pt.cut, h3]
    have hn : cuts ps (bs s0) = none := by rw [heq, hst, hcut]; rfl
    refine aI rfl (zAj (zBa [0, 1, 3] (d := 7) (d2 := 2) (lv := [(4, .pointer (some ⟨0, 0, none⟩)), (5, .pointer (some ⟨1, 0, none⟩))]) (bs := [(0, .cells [.slice (some ⟨2, 0, none⟩) (l.length + 1) U] 123), (1, .cells [.bool false] 4)]) (W := []) (m := 3) (df := [.call 106 [.pointer (some ⟨0, 0, none⟩), .pointer (some ⟨1, 0, none⟩)] []]) rfl rfl rfl (fun l e => by cases e) (by decide) (by decide) rfl rfl (fun k hk h => by omega) ⟨(sP rfl rfl), (sP rfl rfl), tv⟩ ⟨⟨by decide, _, rfl, zBb rfl⟩, bpo rfl, tv⟩ (.fn _ _ _ _ _ _ _ (.cons _ _ _ _ (.ptr _ _ _ rfl) (.cons _ _ _ _ (.ptr _ _ _ rfl) .nil)) .nil .nil)) (fun f2 => ?_))
    refine Eq.mpr (zOi _ _ l.length f2) ?_
    exact eI _ (eI _ (eI _ (Or.inr (aI hn rfl))))
   | sz k =>
    rw [hp] at hst hsd
    refine eI (k : Int) (eI false (eI false (aI hsd ?_)))
    refine ifK (fun h3 => ?_) (fun h3 => ?_)
    ·have h3 : ¬ k <= (bs s).length := by have := oT h3; rw [zAd] at this; omega
     have hcut : (Pt.sz k).cut (bs s) = none := by simp [Pt.cut, h3]
     have hn : cuts ps (bs s0) = none := by rw [heq, hst, hcut]; rfl
     refine aI rfl (zAj (zBa [0, 1, 3] (d := 7) (d2 := 2) (lv := [(4, .pointer (some ⟨0, 0, none⟩)), (5, .pointer (some ⟨1, 0, none⟩))]) (bs := [(0, .cells [.slice (some ⟨2, 0, none⟩) (l.length + 1) U] 123), (1, .cells [.bool false] 4)]) (W := []) (m := 3) (df := [.call 106 [.pointer (some ⟨0, 0, none⟩), .pointer (some ⟨1, 0, none⟩)] []]) rfl rfl rfl (fun l e => by cases e) (by decide) (by decide) rfl rfl (fun k hk h => by omega) ⟨(sP rfl rfl), (sP rfl rfl), tv⟩ ⟨⟨by decide, _, rfl, zBb rfl⟩, bpo rfl, tv⟩ (.fn _ _ _ _ _ _ _ (.cons _ _ _ _ (.ptr _ _ _ rfl) (.cons _ _ _ _ (.ptr _ _ _ rfl) .nil)) .nil .nil)) (fun f2 => ?_))
     refine Eq.mpr (zOi _ _ l.length f2) ?_
     exact eI _ (eI _ (eI _ (Or.inr (aI hn rfl))))
    have h3 : k <= (bs s).length := by have := oF h3; rw [zAd] at this; omega
    have hcut : (Pt.sz k).cut (bs s) = some k := by simp [Pt.cut, h3]
    have hx : (k : Int) = (k : Nat) := rfl
    refine aI (by kernel_rfl) ?_
    refine aI (by rw [hx]; simp only [inLH, zAd, bA, dT] <;> omega) ?_
    refine aI (by rw [zAg pc 2 zJo]; have hT : (Try.prog.types[127]).size = 2 := (by kernel_rfl); have hB : (Try.prog.types[127]).bytes = 24 := (by kernel_rfl); have hl : l.length + 1 = i := hacc; simp [oneL, Value.oneCell', hT, hB]; omega) ?_
    refine aI (by rw [hx]; simp only [inLH, zAd, bA, dT] <;> omega) ?_
    refine ⟨(i + 1, (a :: l) ++ [((bs s).take (k), false)], subS s ((k : Int)).toNat ((s.data.size : Int)).toNat), ⟨h1, ?_, ?_, ?_⟩, ?_, ?_⟩
    ·show (bs (subS s _ _)).length <= _; rw [zAq s _ _ hx]; simp <;> omega
    ·simp only [aB, hacc]; rfl
    ·show cuts ps (bs s0) = (cuts (ps.drop (i + 1)) (bs (subS s _ _))).map _; rw [zAq s _ _ hx, heq, hst, hcut]; simp only [Option.map_map]; exact congrArg (fun g => Option.map g _) (funext fun y => by simp [Pt.isName])
    ·show ps.length - (i + 1) < ps.length - i; omega
    refine zBa [0, 1, 2, 6] rfl rfl rfl (fun l e => by cases e) (by decide) (by decide) rfl rfl (fun k hk h => by omega) ⟨⟨_, rfl, .string _⟩, (sP rfl rfl), (sP rfl rfl), (sL rfl rfl), (sI rfl), zAc rfl (by rw [wrapN (by omega) (by omega)]; omega), tv⟩ ⟨⟨by decide, _, rfl, ?_⟩, bpo rfl, bpo (zAe _ Pt.cell_plain ps), ⟨by decide, _, rfl, ?_⟩, tv⟩ (.fn _ _ _ _ _ _ _ (.cons _ _ _ _ (.ptr _ _ _ rfl) (.cons _ _ _ _ (.ptr _ _ _ rfl) .nil)) .nil .nil)
    ·have : (l ++ [((bs s).take (k), false)]).length = l.length + 1 := by simp
     show RO _ _ _ (.cells [.slice _ ((l ++ [_]).length + 1) U] _)
     rw [this]
     exact zBb rfl
    refine zAv ?_ (zAe pc zCz _)
    show List.take ((l.length + 1) * 2) ((a :: l).flatMap pc) ++ [Value.string (subS s (Int.toNat 0) ((k : Int)).toNat), .bool false] = _
    rw [zBz s _ _ hx, aD (by rw [zAg pc 2 zJo]; simp)]
    show _ = ((a :: l) ++ [_]).flatMap pc
    rw [zLa]; rfl
  have h1 : ¬ i < ps.length := by have := oF h1; omega
  have hc : cuts ps (bs s0) = some (a :: l, bs s) := by rw [heq, bE (by omega)]; simp [cuts]
  refine aI rfl ?_
  refine (zAj (zBa [0, 1, 3] (d := 7) (d2 := 2) (lv := [(4, .pointer (some ⟨0, 0, none⟩)), (5, .pointer (some ⟨1, 0, none⟩))]) (bs := [(0, .cells [.slice (some ⟨2, 0, none⟩) (l.length + 1) U] 123), (1, .cells [.bool (s.data.toList == [])] 4), (2, .cells ((a :: l).flatMap pc) 127)]) (W := []) (m := 3) (df := [.call 106 [.pointer (some ⟨0, 0, none⟩), .pointer (some ⟨1, 0, none⟩)] []]) rfl rfl rfl (fun l e => by cases e) (by decide) (by decide) rfl rfl (fun k hk h => by omega) ⟨(sP rfl rfl), (sP rfl rfl), tv⟩ ⟨⟨by decide, _, rfl, zBb rfl⟩, bpo rfl, bpo (zAe pc zCz _), tv⟩ (.fn _ _ _ _ _ _ _ (.cons _ _ _ _ (.ptr _ _ _ rfl) (.cons _ _ _ _ (.ptr _ _ _ rfl) .nil)) .nil .nil)) (fun f2 => ?_))
  refine Eq.mpr (end_ret _ _ l.length (s.data.toList == []) ((a :: l).flatMap pc) f2) ?_
  have hem : (bs s).isEmpty = (s.data.toList == []) := by show _ = (bs s == []); cases bs s <;> rfl
  refine ⟨?zH, ?zm, ?zw, Or.inl ⟨a :: l, bs s, 2, hc, ?zg, ?zh, by decide⟩⟩
  case zg => rw [hem]; exact rfl
  case zh => exact zTa _ _ _ _ _
def zQf : Ct Try.prog 0 := Ct.str1 55 (fun s => .int .i64 (labels (bs s)).2) (fun _ => rfl) (fun s w hs => by have := zRk (bs s) w hs; rwa [zNl] at this)
def ptsT (t : Int) : Option (List Pt) :=
 bif t == 1 then some [.sz 4] else bif t == 28 then some [.sz 16] else bif t == 2 then some [.nm] else bif t == 5 then some [.nm] else bif t == 12 then some [.nm] else bif t == 15 then some [.sz 2, .nm]
 else bif t == 6 then some [.nm, .nm, .sz 20] else bif t == 16 then some [.rest] else none
theorem zLp {t : Int} {ps : List Pt} (h : ptsT t = some ps) : 0 < ps.length /\ ps.length < 1000 /\ ∀ H n, partsGo t H n partsTab = partsOut ps.length (ps.flatMap Pt.cell) H n := by
 unfold ptsT at h
 unfold partsTab
 simp only [partsGo]
 cases h1 : (t == 1) with
 | true => rw [h1] at h; cases h; exact ⟨by decide, by decide, fun _ _ => rfl⟩
 | false =>
 cases h2 : (t == 28) with
 | true => rw [h1, h2] at h; cases h; exact ⟨by decide, by decide, fun _ _ => rfl⟩
 | false =>
 cases h3 : (t == 2) with
 | true => rw [h1, h2, h3] at h; cases h; exact ⟨by decide, by decide, fun _ _ => rfl⟩
 | false =>
 cases h4 : (t == 5) with
 | true => rw [h1, h2, h3, h4] at h; cases h; exact ⟨by decide, by decide, fun _ _ => rfl⟩
 | false =>
 cases h5 : (t == 12) with
 | true => rw [h1, h2, h3, h4, h5] at h; cases h; exact ⟨by decide, by decide, fun _ _ => rfl⟩
 | false =>
 cases h6 : (t == 15) with
 | true => rw [h1, h2, h3, h4, h5, h6] at h; cases h; exact ⟨by decide, by decide, fun _ _ => rfl⟩
 | false =>
 cases h7 : (t == 6) with
 | true => rw [h1, h2, h3, h4, h5, h6, h7] at h; cases h; exact ⟨by decide, by decide, fun _ _ => rfl⟩
 | false =>
 cases h8 : (t == 16) with
 | true => rw [h1, h2, h3, h4, h5, h6, h7, h8] at h; cases h; exact ⟨by decide, by decide, fun _ _ => rfl⟩
 | false => rw [h1, h2, h3, h4, h5, h6, h7, h8] at h; cases h
theorem zRh {t : Int} (h : ptsT t = none) : ∀ H n, partsGo t H n partsTab = .ret (.tuple #[.slice none 0 0, .bool false]) H n [] := by
 unfold ptsT at h
 unfold partsTab
 simp only [partsGo]
 cases h1 : (t == 1) with
 | true => rw [h1] at h; cases h
 | false =>
 cases h2 : (t == 28) with
 | true => rw [h1, h2] at h; cases h
 | false =>
 cases h3 : (t == 2) with
 | true => rw [h1, h2, h3] at h; cases h
 | false =>
 cases h4 : (t == 5) with
 | true => rw [h1, h2, h3, h4] at h; cases h
 | false =>
 cases h5 : (t == 12) with
 | true => rw [h1, h2, h3, h4, h5] at h; cases h
 | false =>
 cases h6 : (t == 15) with
 | true => rw [h1, h2, h3, h4, h5, h6] at h; cases h
 | false =>
 cases h7 : (t == 6) with
 | true => rw [h1, h2, h3, h4, h5, h6, h7] at h; cases h
 | false =>
 cases h8 : (t == 16) with
 | true => rw [h1, h2, h3, h4, h5, h6, h7, h8] at h; cases h
 | false => exact fun _ _ => rfl
def zMv (t : Int) (h : ∀ H n, partsGo t H n partsTab = .ret (.tuple #[.slice none 0 0, .bool false]) H n []) : Ct Try.prog 0 where
 f := 102
 res l H n := match l with | [.int .i64 t'] => bif t' == t then .ret (.tuple #[.slice none 0 0, .bool false]) H n [] else .bad "type" [] | _ => .bad "arguments" []
 ok l H n := by
  split
  ·rename_i t'
   cases hb : (t' == t) with
   | false => trivial
   | true =>
    have hb : t' = t := by simpa using hb
    subst hb
    have := zVu t' H n
    rw [h] at this
    exact this
  trivial
 ck l H n K := match l with | [.int .i64 t'] => (t' == t) = true /\ K (.ret (.tuple #[.slice none 0 0, .bool false]) H n []) | _ => False
 imp l H n K h := by
  split at h
  ·obtain ⟨h1, h2⟩ := h
   simp only [h1, cT]; exact h2
  exact h.elim
theorem zXv (t : Int) (ht : ∀ H n, partsGo t H n partsTab = .ret (.tuple #[.slice none 0 0, .bool false]) H n []) (s : ByteArray) :
  ∃ r, FnS Try.prog 0 91 [.int .i64 t, .string s] .e 0 r /\ ∃ H m wr b, r = .ret (.tuple #[.slice (some ⟨b, 0, none⟩) 1 1, .bool true]) H m wr /\ H.get b = some (.cells [.string s, .bool false] 127) /\ b < JJ := by
 refine zBp mixed (tbOf mixed [zMv t ht]) [] Try.func91 (c := bodyOf Try.f91) (by kernel_rfl) ?_
 refine aI (by simp) ?_
 exact ⟨_, _, _, _, rfl, rfl, by decide⟩
def outT (t : Int) (l : Bs) : Option (List (Bs × Bool) × Bs) := match ptsT t with | some ps => cuts ps l | none => none
def outP (t : Int) (l : Bs) : List (Bs × Bool) := match outT t l with | some x => x.1 | none => []
def outR (t : Int) (l : Bs) : Bs := match outT t l with | some x => x.2 | none => []
theorem zQa (t : Int) (s : ByteArray) (hs : (bs s).length <= 1000000000) (H : Tr AObj) (n : Nat) :
  (ptsT t = none -> CallOK Try.prog 0 91 [.int .i64 t, .string s] H n (.ret (.tuple #[.slice (some ⟨n, 0, none⟩) 1 1, .bool true]) (H.set n (some (.cells [.string s, .bool false] 127))) (n + 1) [])) /\
  ((ptsT t).isSome = true -> (outT t (bs s)).isSome = true -> CallOK Try.prog 0 91 [.int .i64 t, .string s] H n (.ret (.tuple #[.slice (some ⟨n, 0, none⟩) (outP t (bs s)).length U, .bool (outR t (bs s)).isEmpty]) (H.set n (some (.cells ((outP t (bs s)).flatMap pc) 127))) (n + 1) [])) /\
  ((ptsT t).isSome = true -> (outT t (bs s)).isSome = false -> CallOK Try.prog 0 91 [.int .i64 t, .string s] H n (.ret (.tuple #[.slice none 0 0, .bool false]) H n [])) := by
 refine ⟨fun h => ?_, fun h1 h2 => ?_, fun h1 h2 => ?_⟩
 ·obtain ⟨r, hF, H', m, wr, b, rfl, hb, hJ⟩ := zXv t (zRh h) s
  exact zCq (fun n => .tuple #[.slice (some ⟨n, 0, none⟩) 1 1, .bool true]) hF rfl hb hJ rfl (fun n => .tuple _ _ (.cons _ _ _ _ (.sl _ _ _ _ _ (zJf _ _)) (.cons _ _ _ _ (.bool _) .nil))) H n
 ·obtain ⟨ps, hp⟩ := Option.isSome_iff_exists.1 h1
  obtain ⟨p1, p2, p3⟩ := zLp hp
  obtain ⟨⟨out, rest⟩, ho⟩ := Option.isSome_iff_exists.1 h2
  have hc : cuts ps (bs s) = some (out, rest) := by unfold outT at ho; rw [hp] at ho; exact ho
  have e1 : outP t (bs s) = out := by unfold outP; rw [ho]
  have e2 : outR t (bs s) = rest := by unfold outR; rw [ho]
  obtain ⟨r, hF, H', m, wr, ⟨out', rest', b, q1, rfl, q3, q4⟩ | ⟨q1, _⟩⟩ := zWh t ps p1 p2 p3 s hs
  ·rw [hc] at q1; cases q1
   rw [e1, e2]
   exact zCq (fun n => .tuple #[.slice (some ⟨n, 0, none⟩) out.length U, .bool rest.isEmpty]) hF rfl q3 q4 (zAe pc zCz _) (fun n => .tuple _ _ (.cons _ _ _ _ (.sl _ _ _ _ _ (zJf _ _)) (.cons _ _ _ _ (.bool _) .nil))) H n
  rw [hc] at q1; cases q1
 obtain ⟨ps, hp⟩ := Option.isSome_iff_exists.1 h1
 obtain ⟨p1, p2, p3⟩ := zLp hp
 have hc : cuts ps (bs s) = none := by unfold outT at h2; rw [hp] at h2; simpa using h2
 obtain ⟨r, hF, H', m, wr, ⟨out', rest', b, q1, _⟩ | ⟨_, rfl⟩⟩ := zWh t ps p1 p2 p3 s hs
 ·rw [hc] at q1; cases q1
 exact zAw hF rfl rfl H n
def zUy : Ct Try.prog 0 where
 f := 91
 res l H n := match l with
  | [.int .i64 t, .string s] => bif shortB s then (bif (ptsT t).isSome then (bif (outT t (bs s)).isSome then .ret (.tuple #[.slice (some ⟨n, 0, none⟩) (outP t (bs s)).length U, .bool (outR t (bs s)).isEmpty]) (H.set n (some (.cells ((outP t (bs s)).flatMap pc) 127))) (n + 1) [] else .ret (.tuple #[.slice none 0 0, .bool false]) H n [])
    else .ret (.tuple #[.slice (some ⟨n, 0, none⟩) 1 1, .bool true]) (H.set n (some (.cells [.string s, .bool false] 127))) (n + 1) []) else .bad "long" []
  | _ => .bad "arguments" []
 ok l H n := by
  split
  ·rename_i t s
   cases hs : shortB s with
   | false => trivial
   | true =>
    obtain ⟨c1, c2, c3⟩ := zQa t s (zFv hs) H n
    cases h1 : (ptsT t).isSome with
    | false => exact c1 (by simpa using h1)
    | true =>
     cases h2 : (outT t (bs s)).isSome with
     | true => exact c2 h1 h2
     | false => exact c3 h1 h2
  trivial
 ck l H n K := match l with
  | [.int .i64 t, .string s] => shortB s = true /\ brK (ptsT t).isSome (brK (outT t (bs s)).isSome (K (.ret (.tuple #[.slice (some ⟨n, 0, none⟩) (outP t (bs s)).length U, .bool (outR t (bs s)).isEmpty]) (H.set n (some (.cells ((outP t (bs s)).flatMap pc) 127))) (n + 1) [])) (K (.ret (.tuple #[.slice none 0 0, .bool false]) H n [])))
    (K (.ret (.tuple #[.slice (some ⟨n, 0, none⟩) 1 1, .bool true]) (H.set n (some (.cells [.string s, .bool false] 127))) (n + 1) []))
  | _ => False
 imp l H n K h := by
  split at h
  ·rename_i t s
   obtain ⟨h0, h⟩ := h
   simp only [h0, cT]
   cases h1 : (ptsT t).isSome with
   | false => rw [h1] at h; exact h
   | true =>
    rw [h1] at h
    cases h2 : (outT t (bs s)).isSome with
    | true => rw [h2] at h; exact h
    | false => rw [h2] at h; exact h
  exact h.elim
def fitsD (t : Int) (l : Bs) : Bool := bif (ptsT t).isSome then (outT t l).isSome && (outR t l).isEmpty else true
def checkD (t : Int) (l : Bs) : Int := if t < 0 \/ 65535 < t then 5 else if 65535 < l.length then 3 else if fitsD t l then 0 else 4
noncomputable def tbE2 : Tb Try.prog 0 := tbOf mixed [zUy]
theorem check_fn (t : Int) (s : ByteArray) (hs : (bs s).length <= 1000000000) : ∃ r, FnS Try.prog 0 80 [.int .i64 t, .string s] .e 0 r /\ ∃ H m wr, r = .ret (.int .i64 (checkD t (bs s))) H m wr := by
 have hsB : shortB s = true := by unfold shortB; rw [zAd]; exact bL hs
 refine zBp mixed tbE2 [] Try.func80 (c := bodyOf Try.f80) (by kernel_rfl) ?_
 unfold checkD fitsD
 refine ifK (fun h1 => ?_) (fun h1 => ?_)
 ·rw [if_pos (.inl (oT h1))]; exact ⟨_, _, _, rfl⟩
 have h1 := oF h1
 refine ifK (fun h2 => ?_) (fun h2 => ?_)
 ·rw [if_pos (.inr (oT h2))]; exact ⟨_, _, _, rfl⟩
 have h2 := oF h2
 rw [if_neg (by omega)]
 refine ifK (fun h3 => ?_) (fun h3 => ?_)
 ·have h3 := oT h3
  rw [zAd] at h3
  rw [if_pos (by omega)]; exact ⟨_, _, _, rfl⟩
 have h3 := oF h3
 rw [zAd] at h3
 rw [if_neg (by omega)]
 refine aI hsB ?_
 refine ifK (fun h4 => ?_) (fun h4 => ?_)
 ·rw [h4]
  refine ifK (fun h5 => ?_) (fun h5 => ?_)
  ·rw [h5]
   refine ifK (fun h6 => ?_) (fun h6 => ?_)
   ·rw [show (outR t (bs s)).isEmpty = false by simpa using h6]; exact ⟨_, _, _, rfl⟩
   rw [show (outR t (bs s)).isEmpty = true by simpa using h6]; exact ⟨_, _, _, rfl⟩
  rw [h5]; exact ⟨_, _, _, rfl⟩
 rw [h4]; exact ⟨_, _, _, rfl⟩
def Ct.intStr (f : FuncId) (out : Int -> ByteArray -> Value) (hp : ∀ t s, plainV 8 (out t s) = true) (ok : ∀ t s, (bs s).length <= 1000000000 -> ∃ H m wr, FnS Try.prog 0 f [.int .i64 t, .string s] .e 0 (.ret (out t s) H m wr)) : Ct Try.prog 0 where
 f := f
 res l H n := match l with | [.int .i64 t, .string s] => bif shortB s then .ret (out t s) H n [] else .bad "long" [] | _ => .bad "arguments" []
 ok l H n := by
  split
  ·rename_i t s
   cases hs : shortB s with
   | false => trivial
   | true => obtain ⟨_, _, _, h⟩ := ok t s (zFv hs); exact zAw h rfl (hp t s) H n
  trivial
 ck l H n K := match l with | [.int .i64 t, .string s] => shortB s = true /\ K (.ret (out t s) H n []) | _ => False
 imp l H n K h := by
  split at h
  ·obtain ⟨h1, h2⟩ := h
   simp only [h1, cT]; exact h2
  exact h.elim
def zIo : Ct Try.prog 0 := Ct.intStr 80 (fun t s => .int .i64 (checkD t (bs s))) (fun _ _ => rfl) (fun t s hs => by
 obtain ⟨r, h, H, m, wr, rfl⟩ := check_fn t s hs
 exact ⟨H, m, wr, h⟩)
theorem zGu (s t : ByteArray) : bs (catS s t) = bs s ++ bs t := by simp [bs, catS]
theorem zWt (l : Bs) : bs ⟨l.toArray⟩ = l := by simp [bs]
theorem zHq {s t : ByteArray} (h : (bs s).length + (bs t).length <= 9000000000000000000) : catOk s t = true := by
 unfold catOk
 rw [zAd, zAd]; exact bL (by omega)
theorem zDf {s : ByteArray} (h : (bs s).length <= 1000000000) : shortB s = true := by unfold shortB; rw [zAd]; exact bL h
def sumL (ps : List (Bs × Bool)) : Nat := (ps.flatMap fun p => p.1).length
theorem sumL_at (ps : List (Bs × Bool)) (i : Nat) (h : i < ps.length) : (ps[i].1).length <= sumL ps := by
 unfold sumL
 have : ps[i] ∈ ps := aV h
 revert this
 generalize ps[i] = p
 intro hm
 induction ps with
 | nil => cases hm
 | cons q r ih =>
  rw [List.flatMap_cons, aB]
  rcases aK.1 hm with e | e
  ·rw [e]; omega
  by_cases hr : r = []
  ·subst hr; cases e
  have : ∀ (l : List (Bs × Bool)), p ∈ l -> p.1.length <= (l.flatMap fun p => p.1).length := by
   intro l hl
   induction l with
   | nil => cases hl
   | cons x y ihy =>
    rw [List.flatMap_cons, aB]
    rcases aK.1 hl with e2 | e2
    ·rw [e2]; omega
    have := ihy e2; omega
  have := this r e; omega
theorem str_mk (s : ByteArray) : Value.string s = str (bs s) := by simp [str, bs]
theorem zOf : ∀ (ps : List Pt) (l : Bs) (o : List (Bs × Bool)) (r : Bs), cuts ps l = some (o, r) -> o.length = ps.length /\ (o.flatMap fun p => p.1) ++ r = l
 | [], l, o, r, h => by simp only [cuts, aP, Prod.mk.injEq] at h; obtain ⟨rfl, rfl⟩ := h; simp
 | p :: ps, l, o, r, h => by
  simp only [cuts] at h
  cases hc : p.cut l with
  | none => rw [hc] at h; cases h
  | some n =>
   rw [hc] at h
   simp only [] at h
   obtain ⟨⟨o', r'⟩, h1, h2⟩ := Option.map_eq_some_iff.1 h
   simp only [Prod.mk.injEq] at h2
   obtain ⟨rfl, rfl⟩ := h2
   obtain ⟨e1, e2⟩ := zOf ps _ _ _ h1
   refine ⟨by simp [e1], ?_⟩
   rw [List.flatMap_cons, aN, e2]; simp
theorem zDz {t : Int} {l : Bs} (h : checkD t l = 0) : 0 <= t /\ t <= 65535 /\ l.length <= 65535 /\ fitsD t l = true := by
 unfold checkD at h
 split at h
 ·cases h
 split at h
 ·cases h
 split at h
 ·rename_i h1 h2 h3
  exact ⟨by omega, by omega, by omega, h3⟩
 cases h
theorem zOn {t : Int} {ps : List Pt} {l : Bs} (hp : ptsT t = some ps) (h : fitsD t l = true) : ∃ o, cuts ps l = some (o, []) /\ outT t l = some (o, []) := by
 unfold fitsD at h
 rw [hp] at h
 simp only [Option.isSome_some, cT, bA] at h
 obtain ⟨⟨o, r⟩, ho⟩ := Option.isSome_iff_exists.1 h.1
 have hr : r = [] := by
  have := h.2
  unfold outR at this
  rw [ho] at this
  simpa using this
 subst hr
 refine ⟨o, ?_, ho⟩
 unfold outT at ho
 rw [hp] at ho; exact ho
noncomputable def tbF1 : Tb Try.prog 0 := tbOf mixed [zQf]
def formL (t : Int) : List Int := if t = 1 then [4] else if t = 28 then [16] else if t = 2 then [-1] else if t = 5 then [-1] else if t = 12 then [-1] else if t = 15 then [2, -1] else if t = 6 then [-1, -1, 20] else if t = 16 then [-2] else [-3]
def intV (i : Int) : Value := .int .i64 i
theorem zBw (l : List Int) : plainL (l.map intV) = true := by simp [plainL, plainV, intV]
theorem form_fn (t : Int) : ∃ r, FnS Try.prog 0 95 [.int .i64 t] .e 0 r /\ ∃ H m wr, r = .ret (.slice (some ⟨0, 0, none⟩) (formL t).length (formL t).length) H m wr /\ H.get 0 = some (.cells ((formL t).map intV) 3) := by
 refine zBp mixed tbF1 [] Try.func95 (c := bodyOf Try.f95) (by kernel_rfl) ?_
 unfold formL
 refine ifK (fun h => ?_) (fun h => ?_)
 ·rw [if_pos (by simpa using h)]; exact ⟨_, _, _, rfl, rfl⟩
 rw [if_neg (by simpa using h)]
 refine ifK (fun h => ?_) (fun h => ?_)
 ·rw [if_pos (by simpa using h)]; exact ⟨_, _, _, rfl, rfl⟩
 rw [if_neg (by simpa using h)]
 refine ifK (fun h => ?_) (fun h => ?_)
 ·rw [if_pos (by simpa using h)]; exact ⟨_, _, _, rfl, rfl⟩
 rw [if_neg (by simpa using h)]
 refine ifK (fun h => ?_) (fun h => ?_)
 ·rw [if_pos (by simpa using h)]; exact ⟨_, _, _, rfl, rfl⟩
 rw [if_neg (by simpa using h)]
 refine ifK (fun h => ?_) (fun h => ?_)
 ·rw [if_pos (by simpa using h)]; exact ⟨_, _, _, rfl, rfl⟩
 rw [if_neg (by simpa using h)]
 refine ifK (fun h => ?_) (fun h => ?_)
 ·rw [if_pos (by simpa using h)]; exact ⟨_, _, _, rfl, rfl⟩
 rw [if_neg (by simpa using h)]
 refine ifK (fun h => ?_) (fun h => ?_)
 ·rw [if_pos (by simpa using h)]; exact ⟨_, _, _, rfl, rfl⟩
 rw [if_neg (by simpa using h)]
 refine ifK (fun h => ?_) (fun h => ?_)
 ·rw [if_pos (by simpa using h)]; exact ⟨_, _, _, rfl, rfl⟩
 rw [if_neg (by simpa using h)]
 exact ⟨_, _, _, rfl, rfl⟩
def formOut (t : Int) (H : Tr AObj) (n : Nat) : Res := .ret (.slice (some ⟨n, 0, none⟩) (formL t).length (formL t).length) (H.set n (some (.cells ((formL t).map intV) 3))) (n + 1) []
def ct_form : Ct Try.prog 0 where
 f := 95
 res l H n := match l with | [.int .i64 t] => formOut t H n | _ => .bad "arguments" []
 ok l H n := by
  split
  ·rename_i t
   obtain ⟨r, hF, H', m, wr, rfl, hb⟩ := form_fn t
   exact zCq (fun n => .slice (some ⟨n, 0, none⟩) (formL t).length (formL t).length) hF rfl hb (by decide) (zBw _) (fun n => .sl _ _ _ _ _ (zJf _ _)) H n
  trivial
 ck l H n K := match l with | [.int .i64 t] => K (formOut t H n) | _ => False
 imp l H n K h := by
  split at h
  ·exact h
  exact h.elim
theorem rtexts_fn (s : ByteArray) (hs : (bs s).length <= 1000000000) : ∃ r, FnS Try.prog 0 110 [.string s] .e 0 r /\ ∃ H m wr, r = .ret (.bool (texts (bs s))) H m wr := by
 refine zBp mixed tbF1 [] Try.func110 (c := bodyOf Try.f110) (by kernel_rfl) ?_
 refine zAr (fun i f => ⟨slots 6 [(0, .string s), (3, .int .i64 (i : Nat))] f, heap 0 [], 0, [], []⟩) (fun i => (bs s).length - i) (fun i => i <= (bs s).length + 256 /\ (i <= (bs s).length -> txt (bs s) = txt ((bs s).drop i)) /\ ((bs s).length < i -> txt (bs s) = false)) 0 ⟨by omega, fun _ => rfl, fun h => by omega⟩
  (rcq [] ⟨⟨_, rfl, .string _⟩, (sI rfl), tv⟩ trivial .nil) ?_
 rintro i f ⟨hi, h1, h2⟩
 refine zAt tbF1 [] 0 _ none mixed _ _ _ ?_
 refine ifK (fun h3 => ?_) (fun h3 => ?_)
 ·have h3 : i < (bs s).length := by have := oT h3; rw [zAd] at this; omega
  have hb := zNx (bs s)[i]
  have hat := zNv s i h3
  have e1 : IntKind.i64.wrap (IntKind.i64.wrap ((i : Int) + 1) + IntKind.i64.wrap ((atS s (i : Int)).toNat : Int)) = ((i + 1 + (bs s)[i].toNat : Nat) : Int) := by
   rw [hat, wrapN (x := (((bs s)[i]).toNat : Int)) (by omega) (by omega), wrapN (x := (i : Int) + 1) (by omega) (by omega), wrapN (by omega) (by omega)]; omega
  refine aI (by simp only [inI, zAd]; simp; omega) ?_
  have hstep := txt_at (bs s) i h3
  refine ⟨i + 1 + (bs s)[i].toNat, ⟨by omega, fun h4 => ?_, fun h4 => ?_⟩, by omega, rcq [] ⟨⟨_, rfl, .string _⟩, zAc rfl e1, tv⟩ trivial .nil⟩
  ·rw [h1 (by omega), hstep, aX (by omega), Bool.true_and]
  rw [h1 (by omega), hstep, aY (by omega), Bool.false_and]
 have h3 : ¬ i < (bs s).length := by have := oF h3; rw [zAd] at this; omega
 refine aI rfl (zAj (rcq [] (d := 6) (d2 := 0) (lv := [(0, .string s), (3, .int .i64 (i : Nat))]) (bs := []) (W := []) (m := 0) (df := []) ⟨⟨_, rfl, .string _⟩, (sI rfl), tv⟩ trivial .nil) (fun f => ?_))
 refine ifK (fun h4 => ?_) (fun h4 => ?_)
 ·have hne : (bs s).isEmpty = false := by
   have : (!(bs s == [])) = true := h4
   cases hb : bs s with
   | nil => rw [hb] at this; cases this
   | cons a l => rfl
  have : texts (bs s) = ((i : Int) == (s.data.size : Int)) := by
   unfold texts
   rw [hne, Bool.not_false, Bool.true_and, zAd]
   by_cases hie : i = (bs s).length
   ·rw [h1 (by omega), bE (by omega), txt_nil, hie]; simp
   rw [h2 (by omega)]; symm; simp; omega
  rw [this]; exact ⟨_, _, _, rfl⟩
 have : texts (bs s) = false := by
  have : (!(bs s == [])) = false := h4
  cases hb : bs s with
  | nil => rfl
  | cons a l => rw [hb] at this; cases this
 rw [this]; exact ⟨_, _, _, rfl⟩
def ct_rtexts : Ct Try.prog 0 := Ct.strF 110 (fun s => .bool (texts (bs s))) (fun _ => rfl) (fun s hs => by
 obtain ⟨r, h, H, m, wr, rfl⟩ := rtexts_fn s hs
 exact ⟨H, m, wr, h⟩)
def frontI (l : Bs) : Int := match front l with | some k => (k : Int) | none => -1
theorem rfront_fn (s : ByteArray) (hs : (bs s).length <= 100000000) : ∃ r, FnS Try.prog 0 109 [.string s] .e 0 r /\ ∃ H m wr, r = .ret (.int .i64 (frontI (bs s))) H m wr := by
 refine zBp mixed tbF1 [] Try.func109 (c := bodyOf Try.f109) (by kernel_rfl) ?_
 refine zAr (fun i f => ⟨slots 6 [(0, .string s), (3, .int .i64 (i : Nat))] f, heap 0 [], 0, [], []⟩) (fun i => (bs s).length + 300 - i) (fun i => i <= (bs s).length + 256 /\ zpos (bs s) = (zpos ((bs s).drop i)).map (· + i)) 0 ⟨by omega, by simp⟩
  (rcq [] ⟨⟨_, rfl, .string _⟩, (sI rfl), tv⟩ trivial .nil) ?_
 rintro i f ⟨hi, heq⟩
 refine zAt tbF1 [] 0 _ none mixed _ _ _ ?_
 refine ifK (fun h1 => ?_) (fun h1 => ?_)
 ·have h1 : i < (bs s).length := by have := oT h1; rw [zAd] at this; omega
  have hb := zNx (bs s)[i]
  have hat := zNv s i h1
  have hstep := zpos_at (bs s) i h1
  refine aI (by simp only [inI, zAd]; simp; omega) ?_
  refine ifK (fun h3 => ?_) (fun h3 => ?_)
  ·have h3 : (bs s)[i].toNat ≠ 0 := by rw [hat] at h3; simpa using h3
   rw [if_neg h3] at hstep
   have e1 : IntKind.i64.wrap (IntKind.i64.wrap ((i : Int) + 1) + IntKind.i64.wrap ((atS s (i : Int)).toNat : Int)) = ((i + 1 + (bs s)[i].toNat : Nat) : Int) := by
    rw [hat, wrapN (x := (((bs s)[i]).toNat : Int)) (by omega) (by omega), wrapN (x := (i : Int) + 1) (by omega) (by omega), wrapN (by omega) (by omega)]; omega
   refine aI (by simp only [inI, zAd]; simp; omega) ?_
   refine ⟨i + 1 + (bs s)[i].toNat, ⟨by omega, ?_⟩, by omega, rcq [] ⟨⟨_, rfl, .string _⟩, zAc rfl e1, tv⟩ trivial .nil⟩
   rw [heq, hstep, Option.map_map]
   congr 1
   funext j; simp; omega
  have h3 : (bs s)[i].toNat = 0 := by rw [hat] at h3; simpa using h3
  rw [if_pos h3] at hstep
  rw [hstep] at heq
  have hz : zpos (bs s) = some i := by rw [heq]; simp
  refine aI rfl (zAj (rcq [] (d := 6) (d2 := 0) (lv := [(0, .string s), (3, .int .i64 (i : Nat))]) (bs := []) (W := []) (m := 0) (df := []) ⟨⟨_, rfl, .string _⟩, (sI rfl), tv⟩ trivial .nil) (fun f => ?_))
  refine ifK (fun _ => ?_) (fun h4 => ab h4 (by rw [zAd]; simp; omega))
  have e1 : IntKind.i64.wrap ((i : Int) + 1) = ((i + 1 : Nat) : Int) := by rw [wrapN (by omega) (by omega)]; omega
  have e2 : (IntKind.i64.wrap ((i : Int) + 1)).toNat = i + 1 := by rw [e1]; rfl
  refine aI (by rw [e1]; simp only [inLH, zAd]; simp; omega) ?_
  have hsub : bs (subS s (Int.toNat 0) (IntKind.i64.wrap ((i : Int) + 1)).toNat) = (bs s).take (i + 1) := by rw [zPx, e2]; simp
  refine aI (zDf (by rw [hsub]; simp; omega)) ?_
  refine ifK (fun h4 => ?_) (fun h4 => ?_)
  ·have h4 : (labels ((bs s).take (i + 1))).2 = 0 := by rw [hsub] at h4; simpa using h4
   have hf : frontI (bs s) = IntKind.i64.wrap ((i : Int) + 1) := by unfold frontI front; rw [hz, e1]; simp [h4]
   rw [hf]; exact ⟨_, _, _, rfl⟩
  have h4 : ¬ (labels ((bs s).take (i + 1))).2 = 0 := by rw [hsub] at h4; simpa using h4
  have hf : frontI (bs s) = -1 := by unfold frontI front; rw [hz]; simp [h4]
  rw [hf]; exact ⟨_, _, _, rfl⟩
 have h1 : ¬ i < (bs s).length := by have := oF h1; rw [zAd] at this; omega
 have hf : frontI (bs s) = -1 := by
  unfold frontI front
  rw [heq, bE (by omega), zWm]; rfl
 rw [hf]
 refine aI rfl (zAj (rcq [] (d := 6) (d2 := 0) (lv := [(0, .string s), (3, .int .i64 (i : Nat))]) (bs := []) (W := []) (m := 0) (df := []) ⟨⟨_, rfl, .string _⟩, (sI rfl), tv⟩ trivial .nil) (fun f => ?_))
 refine ifK (fun h4 => ab h4 (by rw [zAd]; simp; omega)) (fun _ => ?_)
 exact ⟨_, _, _, rfl⟩
def ct_rfront : Ct Try.prog 0 where
 f := 109
 res l H n := match l with | [.string s] => bif s.data.size.ble 100000000 then .ret (.int .i64 (frontI (bs s))) H n [] else .bad "long" [] | _ => .bad "arguments" []
 ok l H n := by
  split
  ·rename_i s
   cases hs : s.data.size.ble 100000000 with
   | false => trivial
   | true =>
    obtain ⟨r, h, H', m, wr, rfl⟩ := rfront_fn s (by rw [<- zAd]; exact aE hs)
    exact zAw h rfl rfl H n
  trivial
 ck l H n K := match l with | [.string s] => s.data.size.ble 100000000 = true /\ brK (front (bs s)).isSome (K (.ret (.int .i64 (frontN (bs s) : Int)) H n [])) (K (.ret (.int .i64 (-1)) H n [])) | _ => False
 imp l H n K h := by
  split at h
  ·rename_i s
   obtain ⟨h1, h2⟩ := h
   simp only [h1, cT]
   unfold frontI
   cases hf : front (bs s) with
   | none => rw [hf] at h2; exact h2
   | some k => rw [hf] at h2; simp only [frontN, hf, Option.getD_some] at h2; exact h2
  exact h.elim
inductive Pr where
 | nm
 | rest
 | all
 | sz (k : Nat)
def Pr.i : Pr -> Int
 | .nm => -1
 | .rest => -2
 | .all => -3
 | .sz k => (k : Int)
def Pr.cut (p : Pr) (l : Bs) : Option Nat :=
 match p with
 | .nm => front l
 | .rest => if texts l then some l.length else none
 | .all => some l.length
 | .sz k => if k <= l.length then some k else none
def cutsR : List Pr -> Bs -> Option (List Bs × Bs)
 | [], l => some ([], l)
 | p :: ps, l => match p.cut l with
  | none => none
  | some n => (cutsR ps (l.drop n)).map fun x => (l.take n :: x.1, x.2)
theorem zMw (ps : List Pr) (i : Nat) (h : i < ps.length) (l : Bs) : cutsR (ps.drop i) l = match ps[i].cut l with
  | none => none
  | some n => (cutsR (ps.drop (i + 1)) (l.drop n)).map fun x => (l.take n :: x.1, x.2) := by
 rw [bD h]; rfl
noncomputable def tbF2 : Tb Try.prog 0 := tbOf mixed [ct_form, ct_rtexts, ct_rfront]
theorem zBx (l : List Bs) : plainL (l.map str) = true := by simp [plainL, plainV, str]
def paS (ps : List Pr) (x : Nat × List Bs × ByteArray) (f : Nat -> Option Value) : Fs :=
 match x with
 | (i, acc, s) =>
  match acc with
  | [] => ⟨slots 7 [(1, .string s), (6, .slice (some ⟨0, 0, none⟩) ps.length ps.length), (7, .slice none 0 0), (8, .int .i64 i)] f, heap 1 [(0, .cells ((ps.map Pr.i).map intV) 3)], 1, [], []⟩
  | a :: l => ⟨slots 7 [(1, .string s), (6, .slice (some ⟨0, 0, none⟩) ps.length ps.length), (7, .slice (some ⟨1, 0, none⟩) (l.length + 1) U), (8, .int .i64 i)] f, heap 2 [(0, .cells ((ps.map Pr.i).map intV) 3), (1, .cells ((a :: l).map str) 9)], 2, [], []⟩
def paP (ps : List Pr) (s0 : ByteArray) (r : Res) : Prop := ∃ H m wr,
   (∃ out rest b, cutsR ps (bs s0) = some (out, rest) /\ r = .ret (.tuple #[.slice (some ⟨b, 0, none⟩) out.length U, .bool rest.isEmpty]) H m wr /\ H.get b = some (.cells (out.map str) 9) /\ b < JJ) \/
   (cutsR ps (bs s0) = none /\ r = .ret (.tuple #[.slice none 0 0, .bool false]) H m wr)
theorem parts_fn (t : Int) (ps : List Pr) (hps : 0 < ps.length) (hps2 : ps.length < 1000) (ht : formL t = ps.map Pr.i) (s0 : ByteArray) (hs0 : (bs s0).length <= 100000000) :
  ∃ r, FnS Try.prog 0 96 [.int .i64 t, .string s0] .e 0 r /\ paP ps s0 r := by
 refine zBp mixed tbF2 [] Try.func96 (c := bodyOf Try.f96) (by kernel_rfl) ?_
 have hlen : (formL t).length = ps.length := by rw [ht]; simp
 refine zAr (paS ps) (fun x => ps.length - x.1) (fun x => x.1 <= ps.length /\ (bs x.2.2).length <= 100000000 /\ x.2.1.length = x.1 /\ cutsR ps (bs s0) = (cutsR (ps.drop x.1) (bs x.2.2)).map fun y => (x.2.1 ++ y.1, y.2)) (0, [], s0) ⟨aH _, hs0, rfl, by simp⟩
  (rcq [0] ⟨⟨_, rfl, .string _⟩, ⟨_, rfl, by rw [<- hlen]; exact .sl _ _ _ _ _ rfl⟩, ⟨_, rfl, zAm 8 rfl⟩, (sI rfl), tv⟩ ⟨⟨by decide, _, rfl, by rw [<- ht]; exact .same (zBw _)⟩, tv⟩ .nil) ?_
 rintro ⟨i, acc, s⟩ f ⟨hi, hs, hacc, heq⟩
 have hi : i <= ps.length := hi
 have hs : (bs s).length <= 100000000 := hs
 have hacc : acc.length = i := hacc
 have heq : cutsR ps (bs s0) = (cutsR (ps.drop i) (bs s)).map fun y => (acc ++ y.1, y.2) := heq
 have hsB : s.data.size.ble 100000000 = true := by rw [zAd]; exact bL hs
 have hz : s.data.size = (bs s).length := zAd s
 have side : ∀ (h1 : i < ps.length), ((ps.map Pr.i).map intV)[0 + ((i : Nat) : Int).toNat * 1]? = some (.int .i64 ps[i].i) := fun h1 => by
  rw [aO, aS, aR]
  simp [h1, intV]
 cases acc with
 | nil =>
  refine zAt tbF2 [0] 0 _ none mixed _ _ _ ?_
  refine ifK (fun h1 => ?_) (fun h1 => ?_)
  ·have h1 : i < ps.length := by have := oT h1; omega
   have hst := zMw ps i h1 (bs s)
   have hsd := side h1
   refine ifK (fun _ => ?_) (fun h2 => ab h2 (by simp [inI]; omega))
   cases hp : ps[i] with
   | nm =>
    rw [hp] at hst hsd
    refine eI (-1 : Int) (aI hsd ?_)
    refine aI hsB ?_
    refine ifK (fun h3 => ?_) (fun h3 => ?_)
    ·obtain ⟨k, hk⟩ := Option.isSome_iff_exists.1 h3
     have hcut : Pr.nm.cut (bs s) = some k := hk
     have hkn : frontN (bs s) = k := by simp [frontN, hk]
     have hkl := zGh hk
     have hx : ((frontN (bs s) : Nat) : Int) = (k : Nat) := by rw [hkn]
     refine ifK (fun h5 => ab (oT h5) (by rw [hkn, zAd]; omega)) (fun _ => ?_)
     refine aI (by rw [hx]; simp only [inLH, zAd, bA, dT] <;> omega) ?_
     refine aI (by rw [hx]; simp only [inLH, zAd, bA, dT] <;> omega) ?_
     refine ⟨(i + 1, [] ++ [(bs s).take (k)], subS s (((frontN (bs s) : Nat) : Int)).toNat ((s.data.size : Int)).toNat), ⟨h1, ?_, ?_, ?_⟩, ?_, ?_⟩
     ·show (bs (subS s _ _)).length <= _; rw [zAq s _ _ hx]; simp <;> omega
     ·simp only [aB, hacc]; rfl
     ·show cutsR ps (bs s0) = (cutsR (ps.drop (i + 1)) (bs (subS s _ _))).map _; rw [zAq s _ _ hx, heq, hst, hcut]; simp only [Option.map_map]; exact congrArg (fun g => Option.map g _) (funext fun y => by simp)
     ·show ps.length - (i + 1) < ps.length - i; omega
     refine rcq [0, 2] ⟨⟨_, rfl, .string _⟩, (sL rfl rfl), ⟨_, rfl, ?_⟩, zAc rfl (by rw [wrapN (by omega) (by omega)]; omega), tv⟩ ⟨bpo (zBw _), ⟨by decide, _, rfl, ?_⟩, tv⟩ .nil
     ·exact .sl _ _ _ _ _ rfl
     refine zAv ?_ (zBx _)
     show [Value.string (subS s (Int.toNat 0) (((frontN (bs s) : Nat) : Int)).toNat)] = _
     rw [zBz s _ _ hx]; rfl
    have hcut : Pr.nm.cut (bs s) = none := by have : (front (bs s)).isSome = false := h3; simpa [Pr.cut] using this
    have hn : cutsR ps (bs s0) = none := by rw [heq, hst, hcut]; rfl
    refine aI rfl (zAj (rcq [] (d := 7) (d2 := 0) (lv := [(4, .slice none 0 0), (5, .bool false)]) (bs := []) (W := []) (m := 0) (df := []) ⟨⟨_, rfl, zAm 8 rfl⟩, ⟨_, rfl, zAm 8 rfl⟩, tv⟩ trivial .nil) (fun f => ?_))
    exact ⟨_, _, _, .inr ⟨hn, rfl⟩⟩
   | rest =>
    rw [hp] at hst hsd
    refine eI (-2 : Int) (aI hsd ?_)
    refine aI (zDf (by omega)) ?_
    refine ifK (fun h3 => ?_) (fun h3 => ?_)
    ·have hcut : Pr.rest.cut (bs s) = some (bs s).length := by have h3 : texts (bs s) = true := h3; simp [Pr.cut, h3]
     have hx : (s.data.size : Int) = ((bs s).length : Nat) := by rw [zAd]
     refine ifK (fun h5 => ab h5 (by simp)) (fun _ => ?_)
     refine aI (by rw [hx]; simp only [inLH, zAd, bA, dT] <;> omega) ?_
     refine aI (by rw [hx]; simp only [inLH, zAd, bA, dT] <;> omega) ?_
     refine ⟨(i + 1, [] ++ [(bs s).take ((bs s).length)], subS s ((s.data.size : Int)).toNat ((s.data.size : Int)).toNat), ⟨h1, ?_, ?_, ?_⟩, ?_, ?_⟩
     ·show (bs (subS s _ _)).length <= _; rw [zAq s _ _ hx]; simp <;> omega
     ·simp only [aB, hacc]; rfl
     ·show cutsR ps (bs s0) = (cutsR (ps.drop (i + 1)) (bs (subS s _ _))).map _; rw [zAq s _ _ hx, heq, hst, hcut]; simp only [Option.map_map]; exact congrArg (fun g => Option.map g _) (funext fun y => by simp)
     ·show ps.length - (i + 1) < ps.length - i; omega
     refine rcq [0, 2] ⟨⟨_, rfl, .string _⟩, (sL rfl rfl), ⟨_, rfl, ?_⟩, zAc rfl (by rw [wrapN (by omega) (by omega)]; omega), tv⟩ ⟨bpo (zBw _), ⟨by decide, _, rfl, ?_⟩, tv⟩ .nil
     ·exact .sl _ _ _ _ _ rfl
     refine zAv ?_ (zBx _)
     show [Value.string (subS s (Int.toNat 0) ((s.data.size : Int)).toNat)] = _
     rw [zBz s _ _ hx]; rfl
    have hcut : Pr.rest.cut (bs s) = none := by have h3 : texts (bs s) = false := h3; simp [Pr.cut, h3]
    have hn : cutsR ps (bs s0) = none := by rw [heq, hst, hcut]; rfl
    refine aI rfl (zAj (rcq [] (d := 7) (d2 := 0) (lv := [(4, .slice none 0 0), (5, .bool false)]) (bs := []) (W := []) (m := 0) (df := []) ⟨⟨_, rfl, zAm 8 rfl⟩, ⟨_, rfl, zAm 8 rfl⟩, tv⟩ trivial .nil) (fun f => ?_))
    exact ⟨_, _, _, .inr ⟨hn, rfl⟩⟩
   | all =>
    rw [hp] at hst hsd
    refine eI (-3 : Int) (aI hsd ?_)
    have hcut : Pr.all.cut (bs s) = some (bs s).length := rfl
    have hx : (s.data.size : Int) = ((bs s).length : Nat) := by rw [zAd]
    refine ifK (fun h5 => ab h5 (by simp)) (fun _ => ?_)
    refine aI (by rw [hx]; simp only [inLH, zAd, bA, dT] <;> omega) ?_
    refine aI (by rw [hx]; simp only [inLH, zAd, bA, dT] <;> omega) ?_
    refine ⟨(i + 1, [] ++ [(bs s).take ((bs s).length)], subS s ((s.data.size : Int)).toNat ((s.data.size : Int)).toNat), ⟨h1, ?_, ?_, ?_⟩, ?_, ?_⟩
    ·show (bs (subS s _ _)).length <= _; rw [zAq s _ _ hx]; simp <;> omega
    ·simp only [aB, hacc]; rfl
    ·show cutsR ps (bs s0) = (cutsR (ps.drop (i + 1)) (bs (subS s _ _))).map _; rw [zAq s _ _ hx, heq, hst, hcut]; simp only [Option.map_map]; exact congrArg (fun g => Option.map g _) (funext fun y => by simp)
    ·show ps.length - (i + 1) < ps.length - i; omega
    refine rcq [0, 2] ⟨⟨_, rfl, .string _⟩, (sL rfl rfl), ⟨_, rfl, ?_⟩, zAc rfl (by rw [wrapN (by omega) (by omega)]; omega), tv⟩ ⟨bpo (zBw _), ⟨by decide, _, rfl, ?_⟩, tv⟩ .nil
    ·exact .sl _ _ _ _ _ rfl
    refine zAv ?_ (zBx _)
    show [Value.string (subS s (Int.toNat 0) ((s.data.size : Int)).toNat)] = _
    rw [zBz s _ _ hx]; rfl
   | sz k =>
    rw [hp] at hst hsd
    refine eI (k : Int) (aI hsd ?_)
    refine ifK (fun h3 => ?_) (fun h3 => ?_)
    ·have h3 : ¬ k <= (bs s).length := by have := oT h3; rw [zAd] at this; omega
     have hcut : (Pr.sz k).cut (bs s) = none := by simp [Pr.cut, h3]
     have hn : cutsR ps (bs s0) = none := by rw [heq, hst, hcut]; rfl
     refine aI rfl (zAj (rcq [] (d := 7) (d2 := 0) (lv := [(4, .slice none 0 0), (5, .bool false)]) (bs := []) (W := []) (m := 0) (df := []) ⟨⟨_, rfl, zAm 8 rfl⟩, ⟨_, rfl, zAm 8 rfl⟩, tv⟩ trivial .nil) (fun f => ?_))
     exact ⟨_, _, _, .inr ⟨hn, rfl⟩⟩
    have h3 : k <= (bs s).length := by have := oF h3; rw [zAd] at this; omega
    have hcut : (Pr.sz k).cut (bs s) = some k := by simp [Pr.cut, h3]
    have hx : (k : Int) = (k : Nat) := rfl
    refine aI (by rw [hx]; simp only [inLH, zAd, bA, dT] <;> omega) ?_
    refine aI (by rw [hx]; simp only [inLH, zAd, bA, dT] <;> omega) ?_
    refine ⟨(i + 1, [] ++ [(bs s).take (k)], subS s ((k : Int)).toNat ((s.data.size : Int)).toNat), ⟨h1, ?_, ?_, ?_⟩, ?_, ?_⟩
    ·show (bs (subS s _ _)).length <= _; rw [zAq s _ _ hx]; simp <;> omega
    ·simp only [aB, hacc]; rfl
    ·show cutsR ps (bs s0) = (cutsR (ps.drop (i + 1)) (bs (subS s _ _))).map _; rw [zAq s _ _ hx, heq, hst, hcut]; simp only [Option.map_map]; exact congrArg (fun g => Option.map g _) (funext fun y => by simp)
    ·show ps.length - (i + 1) < ps.length - i; omega
    refine rcq [0, 2] ⟨⟨_, rfl, .string _⟩, (sL rfl rfl), ⟨_, rfl, ?_⟩, zAc rfl (by rw [wrapN (by omega) (by omega)]; omega), tv⟩ ⟨bpo (zBw _), ⟨by decide, _, rfl, ?_⟩, tv⟩ .nil
    ·exact .sl _ _ _ _ _ rfl
    refine zAv ?_ (zBx _)
    show [Value.string (subS s (Int.toNat 0) ((k : Int)).toNat)] = _
    rw [zBz s _ _ hx]; rfl
  have h1 : ¬ i < ps.length := by have := oF h1; omega
  exact ab hacc (by simp; omega)
 | cons a l =>
  refine zAt tbF2 [0, 1] 0 _ none mixed _ _ _ ?_
  refine ifK (fun h1 => ?_) (fun h1 => ?_)
  ·have h1 : i < ps.length := by have := oT h1; omega
   have hst := zMw ps i h1 (bs s)
   have hsd := side h1
   refine ifK (fun _ => ?_) (fun h2 => ab h2 (by simp [inI]; omega))
   cases hp : ps[i] with
   | nm =>
    rw [hp] at hst hsd
    refine eI (-1 : Int) (aI hsd ?_)
    refine aI hsB ?_
    refine ifK (fun h3 => ?_) (fun h3 => ?_)
    ·obtain ⟨k, hk⟩ := Option.isSome_iff_exists.1 h3
     have hcut : Pr.nm.cut (bs s) = some k := hk
     have hkn : frontN (bs s) = k := by simp [frontN, hk]
     have hkl := zGh hk
     have hx : ((frontN (bs s) : Nat) : Int) = (k : Nat) := by rw [hkn]
     refine ifK (fun h5 => ab (oT h5) (by rw [hkn, zAd]; omega)) (fun _ => ?_)
     refine aI (by rw [hx]; simp only [inLH, zAd, bA, dT] <;> omega) ?_
     refine aI (by have hT : (Try.prog.types[9]).size = 1 := (by kernel_rfl); have hB : (Try.prog.types[9]).bytes = 16 := (by kernel_rfl); have hl : l.length + 1 = i := hacc; simp [oneL, Value.oneCell', hT, hB]; omega) ?_
     refine aI (by rw [hx]; simp only [inLH, zAd, bA, dT] <;> omega) ?_
     refine ⟨(i + 1, (a :: l) ++ [(bs s).take (k)], subS s (((frontN (bs s) : Nat) : Int)).toNat ((s.data.size : Int)).toNat), ⟨h1, ?_, ?_, ?_⟩, ?_, ?_⟩
     ·show (bs (subS s _ _)).length <= _; rw [zAq s _ _ hx]; simp <;> omega
     ·simp only [aB, hacc]; rfl
     ·show cutsR ps (bs s0) = (cutsR (ps.drop (i + 1)) (bs (subS s _ _))).map _; rw [zAq s _ _ hx, heq, hst, hcut]; simp only [Option.map_map]; exact congrArg (fun g => Option.map g _) (funext fun y => by simp)
     ·show ps.length - (i + 1) < ps.length - i; omega
     refine rcq [0, 3] ⟨⟨_, rfl, .string _⟩, (sL rfl rfl), ⟨_, rfl, ?_⟩, zAc rfl (by rw [wrapN (by omega) (by omega)]; omega), tv⟩ ⟨bpo (zBw _), ⟨by decide, _, rfl, ?_⟩, tv⟩ .nil
     ·have : (l ++ [(bs s).take (k)]).length = l.length + 1 := by simp
      show RV _ _ (.slice _ ((l ++ [_]).length + 1) U)
      rw [this]
      exact .sl _ _ _ _ _ rfl
     refine zAv ?_ (zBx _)
     show List.take ((l.length + 1) * 1) ((a :: l).map str) ++ [Value.string (subS s (Int.toNat 0) (((frontN (bs s) : Nat) : Int)).toNat)] = _
     rw [zBz s _ _ hx, aD (by simp)]
     show _ = ((a :: l) ++ [_]).map str
     rw [List.map_append]; rfl
    have hcut : Pr.nm.cut (bs s) = none := by have : (front (bs s)).isSome = false := h3; simpa [Pr.cut] using this
    have hn : cutsR ps (bs s0) = none := by rw [heq, hst, hcut]; rfl
    refine aI rfl (zAj (rcq [] (d := 7) (d2 := 0) (lv := [(4, .slice none 0 0), (5, .bool false)]) (bs := []) (W := []) (m := 0) (df := []) ⟨⟨_, rfl, zAm 8 rfl⟩, ⟨_, rfl, zAm 8 rfl⟩, tv⟩ trivial .nil) (fun f => ?_))
    exact ⟨_, _, _, .inr ⟨hn, rfl⟩⟩
   | rest =>
    rw [hp] at hst hsd
    refine eI (-2 : Int) (aI hsd ?_)
    refine aI (zDf (by omega)) ?_
    refine ifK (fun h3 => ?_) (fun h3 => ?_)
    ·have hcut : Pr.rest.cut (bs s) = some (bs s).length := by have h3 : texts (bs s) = true := h3; simp [Pr.cut, h3]
     have hx : (s.data.size : Int) = ((bs s).length : Nat) := by rw [zAd]
     refine ifK (fun h5 => ab h5 (by simp)) (fun _ => ?_)
     refine aI (by rw [hx]; simp only [inLH, zAd, bA, dT] <;> omega) ?_
     refine aI (by have hT : (Try.prog.types[9]).size = 1 := (by kernel_rfl); have hB : (Try.prog.types[9]).bytes = 16 := (by kernel_rfl); have hl : l.length + 1 = i := hacc; simp [oneL, Value.oneCell', hT, hB]; omega) ?_
     refine aI (by rw [hx]; simp only [inLH, zAd, bA, dT] <;> omega) ?_
     refine ⟨(i + 1, (a :: l) ++ [(bs s).take ((bs s).length)], subS s ((s.data.size : Int)).toNat ((s.data.size : Int)).toNat), ⟨h1, ?_, ?_, ?_⟩, ?_, ?_⟩
     ·show (bs (subS s _ _)).length <= _; rw [zAq s _ _ hx]; simp <;> omega
     ·simp only [aB, hacc]; rfl
     ·show cutsR ps (bs s0) = (cutsR (ps.drop (i + 1)) (bs (subS s _ _))).map _; rw [zAq s _ _ hx, heq, hst, hcut]; simp only [Option.map_map]; exact congrArg (fun g => Option.map g _) (funext fun y => by simp)
     ·show ps.length - (i + 1) < ps.length - i; omega
     refine rcq [0, 3] ⟨⟨_, rfl, .string _⟩, (sL rfl rfl), ⟨_, rfl, ?_⟩, zAc rfl (by rw [wrapN (by omega) (by omega)]; omega), tv⟩ ⟨bpo (zBw _), ⟨by decide, _, rfl, ?_⟩, tv⟩ .nil
     ·have : (l ++ [(bs s).take ((bs s).length)]).length = l.length + 1 := by simp
      show RV _ _ (.slice _ ((l ++ [_]).length + 1) U)
      rw [this]
      exact .sl _ _ _ _ _ rfl
     refine zAv ?_ (zBx _)
     show List.take ((l.length + 1) * 1) ((a :: l).map str) ++ [Value.string (subS s (Int.toNat 0) ((s.data.size : Int)).toNat)] = _
     rw [zBz s _ _ hx, aD (by simp)]
     show _ = ((a :: l) ++ [_]).map str
     rw [List.map_append]; rfl
    have hcut : Pr.rest.cut (bs s) = none := by have h3 : texts (bs s) = false := h3; simp [Pr.cut, h3]
    have hn : cutsR ps (bs s0) = none := by rw [heq, hst, hcut]; rfl
    refine aI rfl (zAj (rcq [] (d := 7) (d2 := 0) (lv := [(4, .slice none 0 0), (5, .bool false)]) (bs := []) (W := []) (m := 0) (df := []) ⟨⟨_, rfl, zAm 8 rfl⟩, ⟨_, rfl, zAm 8 rfl⟩, tv⟩ trivial .nil) (fun f => ?_))
    exact ⟨_, _, _, .inr ⟨hn, rfl⟩⟩
   | all =>
    rw [hp] at hst hsd
    refine eI (-3 : Int) (aI hsd ?_)
    have hcut : Pr.all.cut (bs s) = some (bs s).length := rfl
    have hx : (s.data.size : Int) = ((bs s).length : Nat) := by rw [zAd]
    refine ifK (fun h5 => ab h5 (by simp)) (fun _ => ?_)
    refine aI (by rw [hx]; simp only [inLH, zAd, bA, dT] <;> omega) ?_
    refine aI (by have hT : (Try.prog.types[9]).size = 1 := (by kernel_rfl); have hB : (Try.prog.types[9]).bytes = 16 := (by kernel_rfl); have hl : l.length + 1 = i := hacc; simp [oneL, Value.oneCell', hT, hB]; omega) ?_
    refine aI (by rw [hx]; simp only [inLH, zAd, bA, dT] <;> omega) ?_
    refine ⟨(i + 1, (a :: l) ++ [(bs s).take ((bs s).length)], subS s ((s.data.size : Int)).toNat ((s.data.size : Int)).toNat), ⟨h1, ?_, ?_, ?_⟩, ?_, ?_⟩
    ·show (bs (subS s _ _)).length <= _; rw [zAq s _ _ hx]; simp <;> omega
    ·simp only [aB, hacc]; rfl
    ·show cutsR ps (bs s0) = (cutsR (ps.drop (i + 1)) (bs (subS s _ _))).map _; rw [zAq s _ _ hx, heq, hst, hcut]; simp only [Option.map_map]; exact congrArg (fun g => Option.map g _) (funext fun y => by simp)
    ·show ps.length - (i + 1) < ps.length - i; omega
    refine rcq [0, 3] ⟨⟨_, rfl, .string _⟩, (sL rfl rfl), ⟨_, rfl, ?_⟩, zAc rfl (by rw [wrapN (by omega) (by omega)]; omega), tv⟩ ⟨bpo (zBw _), ⟨by decide, _, rfl, ?_⟩, tv⟩ .nil
    ·have : (l ++ [(bs s).take ((bs s).length)]).length = l.length + 1 := by simp
     show RV _ _ (.slice _ ((l ++ [_]).length + 1) U)
     rw [this]
     exact .sl _ _ _ _ _ rfl
    refine zAv ?_ (zBx _)
    show List.take ((l.length + 1) * 1) ((a :: l).map str) ++ [Value.string (subS s (Int.toNat 0) ((s.data.size : Int)).toNat)] = _
    rw [zBz s _ _ hx, aD (by simp)]
    show _ = ((a :: l) ++ [_]).map str
    rw [List.map_append]; rfl
   | sz k =>
    rw [hp] at hst hsd
    refine eI (k : Int) (aI hsd ?_)
    refine ifK (fun h3 => ?_) (fun h3 => ?_)
    ·have h3 : ¬ k <= (bs s).length := by have := oT h3; rw [zAd] at this; omega
     have hcut : (Pr.sz k).cut (bs s) = none := by simp [Pr.cut, h3]
     have hn : cutsR ps (bs s0) = none := by rw [heq, hst, hcut]; rfl
     refine aI rfl (zAj (rcq [] (d := 7) (d2 := 0) (lv := [(4, .slice none 0 0), (5, .bool false)]) (bs := []) (W := []) (m := 0) (df := []) ⟨⟨_, rfl, zAm 8 rfl⟩, ⟨_, rfl, zAm 8 rfl⟩, tv⟩ trivial .nil) (fun f => ?_))
     exact ⟨_, _, _, .inr ⟨hn, rfl⟩⟩
    have h3 : k <= (bs s).length := by have := oF h3; rw [zAd] at this; omega
    have hcut : (Pr.sz k).cut (bs s) = some k := by simp [Pr.cut, h3]
    have hx : (k : Int) = (k : Nat) := rfl
    refine aI (by rw [hx]; simp only [inLH, zAd, bA, dT] <;> omega) ?_
    refine aI (by have hT : (Try.prog.types[9]).size = 1 := (by kernel_rfl); have hB : (Try.prog.types[9]).bytes = 16 := (by kernel_rfl); have hl : l.length + 1 = i := hacc; simp [oneL, Value.oneCell', hT, hB]; omega) ?_
    refine aI (by rw [hx]; simp only [inLH, zAd, bA, dT] <;> omega) ?_
    refine ⟨(i + 1, (a :: l) ++ [(bs s).take (k)], subS s ((k : Int)).toNat ((s.data.size : Int)).toNat), ⟨h1, ?_, ?_, ?_⟩, ?_, ?_⟩
    ·show (bs (subS s _ _)).length <= _; rw [zAq s _ _ hx]; simp <;> omega
    ·simp only [aB, hacc]; rfl
    ·show cutsR ps (bs s0) = (cutsR (ps.drop (i + 1)) (bs (subS s _ _))).map _; rw [zAq s _ _ hx, heq, hst, hcut]; simp only [Option.map_map]; exact congrArg (fun g => Option.map g _) (funext fun y => by simp)
    ·show ps.length - (i + 1) < ps.length - i; omega
    refine rcq [0, 3] ⟨⟨_, rfl, .string _⟩, (sL rfl rfl), ⟨_, rfl, ?_⟩, zAc rfl (by rw [wrapN (by omega) (by omega)]; omega), tv⟩ ⟨bpo (zBw _), ⟨by decide, _, rfl, ?_⟩, tv⟩ .nil
    ·have : (l ++ [(bs s).take (k)]).length = l.length + 1 := by simp
     show RV _ _ (.slice _ ((l ++ [_]).length + 1) U)
     rw [this]
     exact .sl _ _ _ _ _ rfl
    refine zAv ?_ (zBx _)
    show List.take ((l.length + 1) * 1) ((a :: l).map str) ++ [Value.string (subS s (Int.toNat 0) ((k : Int)).toNat)] = _
    rw [zBz s _ _ hx, aD (by simp)]
    show _ = ((a :: l) ++ [_]).map str
    rw [List.map_append]; rfl
  have h1 : ¬ i < ps.length := by have := oF h1; omega
  have hc : cutsR ps (bs s0) = some (a :: l, bs s) := by rw [heq, bE (by omega)]; simp [cutsR]
  have hem : (bs s).isEmpty = (s.data.toList == []) := by show _ = (bs s == []); cases bs s <;> rfl
  refine aI rfl (zAj (rcq [1] (d := 7) (d2 := 1) (lv := [(1, .string s), (7, .slice (some ⟨0, 0, none⟩) (l.length + 1) U)]) (bs := [(0, .cells ((a :: l).map str) 9)]) (W := []) (m := 1) (df := []) ⟨⟨_, rfl, .string _⟩, (sL rfl rfl), tv⟩ ⟨bpo (zBx _), tv⟩ .nil) (fun f => ?_))
  exact ⟨_, _, _, .inl ⟨a :: l, bs s, 0, hc, by rw [hem]; rfl, rfl, by decide⟩⟩
def prT (t : Int) : List Pr := if t = 1 then [.sz 4] else if t = 28 then [.sz 16] else if t = 2 then [.nm] else if t = 5 then [.nm] else if t = 12 then [.nm] else if t = 15 then [.sz 2, .nm] else if t = 6 then [.nm, .nm, .sz 20] else if t = 16 then [.rest] else [.all]
theorem prT_form (t : Int) : formL t = (prT t).map Pr.i /\ 0 < (prT t).length /\ (prT t).length < 1000 := by
 unfold formL prT
 split; · exact ⟨rfl, by decide, by decide⟩
 split; · exact ⟨rfl, by decide, by decide⟩
 split; · exact ⟨rfl, by decide, by decide⟩
 split; · exact ⟨rfl, by decide, by decide⟩
 split; · exact ⟨rfl, by decide, by decide⟩
 split; · exact ⟨rfl, by decide, by decide⟩
 split; · exact ⟨rfl, by decide, by decide⟩
 split; · exact ⟨rfl, by decide, by decide⟩
 exact ⟨rfl, by decide, by decide⟩
def rpO (t : Int) (l : Bs) : List Bs := match cutsR (prT t) l with | some x => x.1 | none => []
def rpR (t : Int) (l : Bs) : Bs := match cutsR (prT t) l with | some x => x.2 | none => []
def rpOut (t : Int) (s : ByteArray) (H : Tr AObj) (n : Nat) : Res := .ret (.tuple #[.slice (some ⟨n, 0, none⟩) (rpO t (bs s)).length U, .bool (rpR t (bs s)).isEmpty]) (H.set n (some (.cells ((rpO t (bs s)).map str) 9))) (n + 1) []
theorem zPz (t : Int) (s : ByteArray) (hs : (bs s).length <= 100000000) (H : Tr AObj) (n : Nat) :
  ((cutsR (prT t) (bs s)).isSome = true -> CallOK Try.prog 0 96 [.int .i64 t, .string s] H n (rpOut t s H n)) /\
  ((cutsR (prT t) (bs s)).isSome = false -> CallOK Try.prog 0 96 [.int .i64 t, .string s] H n (.ret (.tuple #[.slice none 0 0, .bool false]) H n [])) := by
 obtain ⟨p1, p2, p3⟩ := prT_form t
 obtain ⟨r, hF, hP⟩ := parts_fn t (prT t) p2 p3 p1 s hs
 unfold paP at hP
 obtain ⟨H', m, wr, ⟨out, rest, b, q1, rfl, q3, q4⟩ | ⟨q1, rfl⟩⟩ := hP
 ·refine ⟨fun _ => ?_, fun h => (by rw [q1] at h; cases h)⟩
  have e1 : rpO t (bs s) = out := by unfold rpO; rw [q1]
  have e2 : rpR t (bs s) = rest := by unfold rpR; rw [q1]
  unfold rpOut
  rw [e1, e2]
  exact zCq (fun n => .tuple #[.slice (some ⟨n, 0, none⟩) out.length U, .bool rest.isEmpty]) hF rfl q3 q4 (zBx _) (fun n => .tuple _ _ (.cons _ _ _ _ (.sl _ _ _ _ _ (zJf _ _)) (.cons _ _ _ _ (.bool _) .nil))) H n
 exact ⟨fun h => (by rw [q1] at h; cases h), fun _ => zAw hF rfl rfl H n⟩
def ct_rparts : Ct Try.prog 0 where
 f := 96
 res l H n := match l with
  | [.int .i64 t, .string s] => bif s.data.size.ble 100000000 then (bif (cutsR (prT t) (bs s)).isSome then rpOut t s H n else .ret (.tuple #[.slice none 0 0, .bool false]) H n []) else .bad "long" []
  | _ => .bad "arguments" []
 ok l H n := by
  split
  ·rename_i t s
   cases hs : s.data.size.ble 100000000 with
   | false => trivial
   | true =>
    obtain ⟨c1, c2⟩ := zPz t s (by rw [<- zAd]; exact aE hs) H n
    cases h1 : (cutsR (prT t) (bs s)).isSome with
    | true => exact c1 h1
    | false => exact c2 h1
  trivial
 ck l H n K := match l with
  | [.int .i64 t, .string s] => s.data.size.ble 100000000 = true /\ brK (cutsR (prT t) (bs s)).isSome (K (rpOut t s H n)) (K (.ret (.tuple #[.slice none 0 0, .bool false]) H n []))
  | _ => False
 imp l H n K h := by
  split at h
  ·rename_i t s
   obtain ⟨h0, h⟩ := h
   simp only [h0, cT]
   cases h1 : (cutsR (prT t) (bs s)).isSome with
   | true => rw [h1] at h; exact h
   | false => rw [h1] at h; exact h
  exact h.elim
def Pt.pr : Pt -> Pr
 | .nm => .nm
 | .rest => .rest
 | .sz k => .sz k
theorem Pt.pr_cut (p : Pt) (l : Bs) : p.pr.cut l = p.cut l := by cases p <;> rfl
theorem zSv {t : Int} {ps : List Pt} (h : ptsT t = some ps) (l : Bs) : cutsR (prT t) l = (cuts ps l).map fun x => (x.1.map (·.1), x.2) := by
 have key : ∀ (ps : List Pt) (l : Bs), cutsR (ps.map Pt.pr) l = (cuts ps l).map fun x => (x.1.map (·.1), x.2) := by
  intro ps
  induction ps with
  | nil => intro l; rfl
  | cons p ps ih =>
   intro l
   simp only [List.map_cons, cutsR, cuts, Pt.pr_cut]
   cases p.cut l with
   | none => rfl
   | some n =>
    simp only []
    rw [ih, Option.map_map, Option.map_map]; rfl
 suffices hpr : prT t = ps.map Pt.pr by
  rw [hpr]; exact key ps l
 unfold ptsT at h
 unfold prT
 by_cases h1 : t = 1
 ·subst h1; cases h; rfl
 by_cases h2 : t = 28
 ·subst h2; cases h; rfl
 by_cases h3 : t = 2
 ·subst h3; cases h; rfl
 by_cases h4 : t = 5
 ·subst h4; cases h; rfl
 by_cases h5 : t = 12
 ·subst h5; cases h; rfl
 by_cases h6 : t = 15
 ·subst h6; cases h; rfl
 by_cases h7 : t = 6
 ·subst h7; cases h; rfl
 by_cases h8 : t = 16
 ·subst h8; cases h; rfl
 exfalso
 rw [show (t == 1) = false by simpa using h1, show (t == 28) = false by simpa using h2, show (t == 2) = false by simpa using h3, show (t == 5) = false by simpa using h4, show (t == 12) = false by simpa using h5, show (t == 15) = false by simpa using h6, show (t == 6) = false by simpa using h7, show (t == 16) = false by simpa using h8] at h
 cases h
theorem prT_none {t : Int} (h : ptsT t = none) : prT t = [.all] := by
 unfold ptsT at h
 unfold prT
 by_cases h1 : t = 1
 ·subst h1; cases h
 by_cases h2 : t = 28
 ·subst h2; cases h
 by_cases h3 : t = 2
 ·subst h3; cases h
 by_cases h4 : t = 5
 ·subst h4; cases h
 by_cases h5 : t = 12
 ·subst h5; cases h
 by_cases h6 : t = 15
 ·subst h6; cases h
 by_cases h7 : t = 6
 ·subst h7; cases h
 by_cases h8 : t = 16
 ·subst h8; cases h
 rw [if_neg h1, if_neg h2, if_neg h3, if_neg h4, if_neg h5, if_neg h6, if_neg h7, if_neg h8]
theorem fits_ref (t : Int) (l : Bs) : ((cutsR (prT t) l).isSome && (rpR t l).isEmpty) = fitsD t l := by
 cases hp : ptsT t with
 | none =>
  unfold fitsD rpR
  rw [hp, prT_none hp]
  simp [cutsR, Pr.cut]
 | some ps =>
  have e1 : outT t l = cuts ps l := by unfold outT; rw [hp]
  unfold fitsD rpR outR
  rw [hp, zSv hp, e1]
  cases hc : cuts ps l with
  | none => rfl
  | some x => rfl
noncomputable def tbF3 : Tb Try.prog 0 := tbOf mixed [ct_rparts]
theorem rcheck_fn (t : Int) (s : ByteArray) (hs : (bs s).length <= 100000000) : ∃ r, FnS Try.prog 0 94 [.int .i64 t, .string s] .e 0 r /\ ∃ H m wr, r = .ret (.int .i64 (checkD t (bs s))) H m wr := by
 have hsB : s.data.size.ble 100000000 = true := by rw [zAd]; exact bL hs
 refine zBp mixed tbF3 [] Try.func94 (c := bodyOf Try.f94) (by kernel_rfl) ?_
 unfold checkD
 rw [<- fits_ref]
 refine ifK (fun h1 => ?_) (fun h1 => ?_)
 ·rw [if_pos (.inl (oT h1))]; exact ⟨_, _, _, rfl⟩
 have h1 := oF h1
 refine ifK (fun h2 => ?_) (fun h2 => ?_)
 ·rw [if_pos (.inr (oT h2))]; exact ⟨_, _, _, rfl⟩
 have h2 := oF h2
 rw [if_neg (by omega)]
 refine ifK (fun h3 => ?_) (fun h3 => ?_)
 ·have h3 := oT h3
  rw [zAd] at h3
  rw [if_pos (by omega)]; exact ⟨_, _, _, rfl⟩
 have h3 := oF h3
 rw [zAd] at h3
 rw [if_neg (by omega)]
 refine aI hsB ?_
 refine ifK (fun h5 => ?_) (fun h5 => ?_)
 ·rw [h5]
  refine ifK (fun h6 => ?_) (fun h6 => ?_)
  ·rw [show (rpR t (bs s)).isEmpty = false by simpa using h6]; exact ⟨_, _, _, rfl⟩
  rw [show (rpR t (bs s)).isEmpty = true by simpa using h6]; exact ⟨_, _, _, rfl⟩
 rw [h5]; exact ⟨_, _, _, rfl⟩
def Ct.intStr8 (f : FuncId) (out : Int -> ByteArray -> Value) (hp : ∀ t s, plainV 8 (out t s) = true) (ok : ∀ t s, (bs s).length <= 100000000 -> ∃ H m wr, FnS Try.prog 0 f [.int .i64 t, .string s] .e 0 (.ret (out t s) H m wr)) : Ct Try.prog 0 where
 f := f
 res l H n := match l with | [.int .i64 t, .string s] => bif s.data.size.ble 100000000 then .ret (out t s) H n [] else .bad "long" [] | _ => .bad "arguments" []
 ok l H n := by
  split
  ·rename_i t s
   cases hs : s.data.size.ble 100000000 with
   | false => trivial
   | true => obtain ⟨_, _, _, h⟩ := ok t s (by rw [<- zAd]; exact aE hs); exact zAw h rfl (hp t s) H n
  trivial
 ck l H n K := match l with | [.int .i64 t, .string s] => s.data.size.ble 100000000 = true /\ K (.ret (out t s) H n []) | _ => False
 imp l H n K h := by
  split at h
  ·obtain ⟨h1, h2⟩ := h
   simp only [h1, cT]; exact h2
  exact h.elim
def zSu : Ct Try.prog 0 := Ct.intStr8 94 (fun t s => .int .i64 (checkD t (bs s))) (fun _ _ => rfl) (fun t s hs => by
 obtain ⟨r, h, H, m, wr, rfl⟩ := rcheck_fn t s hs
 exact ⟨H, m, wr, h⟩)
theorem front_len {l : Bs} {k : Nat} (h : front l = some k) : k <= 255 := by
 have hle := zGh h
 unfold front at h
 split at h
 ·rename_i j hj
  split at h
  ·rename_i hl
   cases h
   have := zGi hl
   rw [aU] at this; omega
  cases h
 cases h
def Pt.small : Pt -> Bool
 | .nm => true
 | .rest => false
 | .sz k => k.ble 255
def zs (x : Int × Bs) : Value := str x.2
theorem zLo {t : Int} {ps : List Pt} (h : ptsT t = some ps) : (0 <= t /\ t <= 65535) /\ ((ps.all Pt.small = true /\ ps.length <= 3) \/ ps = [.rest]) := by
 unfold ptsT at h
 by_cases h1 : t = 1
 ·subst h1; cases h; exact ⟨by decide, .inl ⟨rfl, by decide⟩⟩
 by_cases h2 : t = 28
 ·subst h2; cases h; exact ⟨by decide, .inl ⟨rfl, by decide⟩⟩
 by_cases h3 : t = 2
 ·subst h3; cases h; exact ⟨by decide, .inl ⟨rfl, by decide⟩⟩
 by_cases h4 : t = 5
 ·subst h4; cases h; exact ⟨by decide, .inl ⟨rfl, by decide⟩⟩
 by_cases h5 : t = 12
 ·subst h5; cases h; exact ⟨by decide, .inl ⟨rfl, by decide⟩⟩
 by_cases h6 : t = 15
 ·subst h6; cases h; exact ⟨by decide, .inl ⟨rfl, by decide⟩⟩
 by_cases h7 : t = 6
 ·subst h7; cases h; exact ⟨by decide, .inl ⟨rfl, by decide⟩⟩
 by_cases h8 : t = 16
 ·subst h8; cases h; exact ⟨by decide, .inr rfl⟩
 exfalso
 rw [show (t == 1) = false by simpa using h1, show (t == 28) = false by simpa using h2, show (t == 2) = false by simpa using h3, show (t == 5) = false by simpa using h4, show (t == 12) = false by simpa using h5, show (t == 15) = false by simpa using h6, show (t == 6) = false by simpa using h7, show (t == 16) = false by simpa using h8] at h
 cases h
inductive Nm : Bs -> Prop
 | root : Nm [0]
 | lab (c : UInt8) (x r : Bs) (h1 : 0 < c.toNat) (h2 : c.toNat <= 63) (hx : x.length = c.toNat) (hr : Nm r) : Nm (c :: (x ++ r))
theorem Nm.pos {l : Bs} (h : Nm l) : 0 < l.length := by cases h <;> simp
theorem zNf : ∀ (f : Nat) (l : Bs), l.length < f -> (none ∉ nameSeq f l ↔ Nm l)
 | f + 1, l, hf => by
  rw [nameSeq]
  by_cases h0 : l = [0]
  ·rw [if_pos h0, h0]; exact ⟨fun _ => .root, fun _ => by simp⟩
  rw [if_neg h0]
  by_cases h1 : l.length = 0 \/ bt l 0 = 0 \/ 63 < bt l 0 \/ l.length <= bt l 0
  ·rw [if_pos h1]
   refine ⟨fun h => ab (by simp) h, fun h => ?_⟩
   exfalso
   cases h with
   | root => exact h0 rfl
   | lab c x r g1 g2 g3 g4 =>
    have hb : bt (c :: (x ++ r)) 0 = c.toNat := rfl
    rw [hb] at h1
    simp only [aC, aB] at h1
    omega
  rw [if_neg h1]
  cases l with
  | nil => exact ab (.inl rfl) h1
  | cons c tl =>
   have hb : bt (c :: tl) 0 = c.toNat := rfl
   rw [hb] at h1 ⊢
   have e1 : (c :: tl).drop (1 + c.toNat) = tl.drop c.toNat := by rw [Nat.add_comm]; rfl
   rw [e1]
   simp only [aC] at h1 hf
   have ih := zNf f (tl.drop c.toNat) (by rw [aM]; omega)
   have e2 : (none ∉ some ((c :: tl).tail.take c.toNat) :: nameSeq f (tl.drop c.toNat)) ↔ none ∉ nameSeq f (tl.drop c.toNat) := by simp
   rw [e2, ih]
   constructor
   ·intro h
    have := Nm.lab c (tl.take c.toNat) (tl.drop c.toNat) (by omega) (by omega) (by rw [aU]; omega) h
    rwa [List.take_append_drop] at this
   intro h
   generalize hq : c :: tl = q at h
   cases h with
   | root => exact ab hq h0
   | lab c' x r g1 g2 g3 g4 =>
    simp only [aQ] at hq
    obtain ⟨rfl, rfl⟩ := hq
    rw [<- g3, List.drop_left]; exact g4
theorem zCe (l : Bs) : (labels l).2 = 0 ↔ Nm l /\ l.length <= 255 := by
 have h := zNf (l.length + 1) l (by omega)
 unfold labels
 by_cases h1 : none ∈ nameSeq (l.length + 1) l
 ·rw [if_pos h1]
  exact ⟨fun e => (by cases e), fun e => ab h1 (h.2 e.1)⟩
 rw [if_neg h1]
 by_cases h2 : 255 < l.length
 ·rw [if_pos h2]; exact ⟨fun e => (by cases e), fun e => by omega⟩
 rw [if_neg h2]; exact ⟨fun _ => ⟨h.1 h1, by omega⟩, fun _ => rfl⟩
theorem zNa {l : Bs} {k : Nat} (h : front l = some k) : Nm (l.take k) /\ (l.take k).length = k /\ k <= 255 /\ (labels (l.take k)).2 = 0 := by
 have h1 := zGh h
 have h2 := front_len h
 unfold front at h
 split at h
 ·rename_i j hj
  split at h
  ·rename_i hl
   cases h
   exact ⟨((zCe _).1 hl).1, by rw [aU]; omega, h2, hl⟩
  cases h
 cases h
theorem zAl {σ : Nat -> Nat -> Prop} (T : List (Bl × Nat)) : RM σ (encT T) (encT T) := by
 induction T with
 | nil => exact .nil
 | cons p T ih => exact .cons _ _ _ _ (.string _) (.int _ _) ih
def pkS (a : Nat) (en : Int) (T : List (Bl × Nat)) (ck : Nat) (x : Bl × List (Bl × Nat) × Bl) (f : Nat -> Option Value) : Fs := match x with
 | ([], F, t) => ⟨slots 7 [(0, pt 0), (1, .int .i64 (a : Int)), (9, .slice none 0 0), (10, .map (some 2)), (11, .string (mkS t))] f, heap 3 [(0, .cells [.map (some 1), .int .i64 en] 98), (1, .map (encT T) ck), (2, .map (encT F) F.length)], 3, [], []⟩
 | (u :: us, F, t) => ⟨slots 7 [(0, pt 0), (1, .int .i64 (a : Int)), (9, sq 3 (us.length + 1) U), (10, .map (some 2)), (11, .string (mkS t))] f, heap 3 [(0, .cells [.map (some 1), .int .i64 en] 98), (1, .map (encT T) ck), (2, .map (encT F) F.length), (3, .cells ((u :: us).map byV) 5)], 4, [], []⟩
def pkE (a : Nat) (en : Int) (T : List (Bl × Nat)) (ck : Nat) (u : UInt8) (us : Bl) (F : List (Bl × Nat)) (f : Nat -> Option Value) : Fs := ⟨slots 7 [(0, pt 0), (1, .int .i64 (a : Int)), (9, sq 3 (us.length + 1) U), (10, .map (some 2))] f, heap 3 [(0, .cells [.map (some 1), .int .i64 en] 98), (1, .map (encT T) ck), (2, .map (encT F) F.length), (3, .cells ((u :: us).map byV) 5)], 4, [], []⟩
noncomputable def tbPk4 : Tb Try.prog 0 := tbOf mixed [zHs, zOd]
theorem zEz (l : Bl) : (mkS l).data.size = l.length := by simp [mkS]
theorem atS_mkS (l : Bl) (i : Nat) : atS (mkS l) (i : Int) = l.getD i 0 := by simp [atS, mkS]
def goodT (T : List (Bl × Nat)) : Prop := (T.map (·.1)).Nodup /\ ∀ p ∈ T, p.2 < 16384
theorem zLg {s : Bl} {k : Nat} : ∀ {T : List (Bl × Nat)}, lookT T s = some k -> (s, k) ∈ T
 | (t, j) :: T, h => by
  unfold lookT at h
  split at h
  ·rename_i e; subst e; cases h; exact List.mem_cons_self ..
  exact List.mem_cons_of_mem _ (zLg h)
theorem or_low {k : Nat} (h : k < 16384) : bitsI .or .i64 49152 (k : Int) = ((49152 + k : Nat) : Int) := by
 have e : bitsI .or .i64 49152 (k : Int) = IntKind.i64.wrap (BitVec.ofInt 64 49152 ||| BitVec.ofInt 64 (k : Int)).toNat := rfl
 have e1 : (BitVec.ofInt 64 (k : Int)).toNat = k := by rw [BitVec.toNat_ofInt]; omega
 have e2 : (BitVec.ofInt 64 49152).toNat = 2 ^ 14 * 3 := by decide
 rw [e, BitVec.toNat_or, e1, e2, <- Nat.two_pow_add_eq_or_of_lt (i := 14) h 3]
 exact zDk (by omega) (by omega)
theorem hi_ptr (k : Nat) : hi8 (49152 + k) = UInt8.ofNat (192 + k / 256) := by unfold hi8; congr 1; omega
theorem lo_ptr (k : Nat) : lo8 (49152 + k) = UInt8.ofNat (k % 256) := by unfold lo8; congr 1; omega
theorem name_loop (a : Nat) (en : Int) (T : List (Bl × Nat)) (ck : Nat) (B : Bl) (ha : a <= 65535) (hT : goodT T) (hB : Nm B) (hlB : B.length <= 255) {s0 : Fs} {K : Ex -> Fs -> Prop}
  (h0 : ∃ f, RcM Try.prog 0 2 (3 + (Try.f70.ntmps - 3)) none s0 (pkS a en T ck ([], [], B) f))
  (hex : ∀ u us F f, (u :: us, F) = packN T a B.length B 0 -> (u :: us).length <= 257 -> K (.exit 1) (pkE a en T ck u us F f)) :
  LW Try.prog 0 2 (3 + (Try.f70.ntmps - 3)) none (loopAt Try.f70 0) s0 K := by
 have h1s : (Try.prog.types[5]).size = 1 := by kernel_rfl
 have hby : (Try.prog.types[5]).bytes = 1 := by kernel_rfl
 obtain ⟨R, hR⟩ : ∃ R, packN T a B.length B 0 = R := ⟨_, rfl⟩
 rw [hR] at hex
 refine zAr (pkS a en T ck) (fun x => x.2.2.length) (fun x => Nm x.2.2 /\ x.1.length + x.2.2.length <= 255 /\ (∀ p ∈ x.2.1, x.2.2.length < p.1.length) /\ ∃ f, x.2.2.length <= f /\ (x.1 ++ (packN T a f x.2.2 x.1.length).1, x.2.1 ++ (packN T a f x.2.2 x.1.length).2) = R) ([], [], B) ⟨hB, by show 0 + B.length <= 255; omega, (fun p hp => by cases hp), B.length, aJ _, hR⟩ h0 ?_
 rintro ⟨out, F, t⟩ f ⟨hnm, hlen, hF, fu, hfu, hpk⟩
 have hnm : Nm t := hnm
 have hlen : out.length + t.length <= 255 := hlen
 have hF : ∀ p ∈ F, t.length < p.1.length := hF
 have hfu : t.length <= fu := hfu
 have hpk : (out ++ (packN T a fu t out.length).1, F ++ (packN T a fu t out.length).2) = R := hpk
 have hpos := hnm.pos
 obtain ⟨fu, rfl⟩ : ∃ g, fu = g + 1 := ⟨fu - 1, by omega⟩
 obtain ⟨c, hc⟩ : ∃ c, (t.getD 0 0).toNat = c := ⟨_, rfl⟩
 have hcl : c <= 63 := by rw [<- hc]; cases hnm <;> simp <;> omega
 have hct : c ≠ 0 -> c + 1 < t.length /\ Nm (t.drop (c + 1)) := fun h => by
  cases hnm with
  | root => exact ab (show c = 0 by rw [<- hc]; rfl) h
  | lab c' x r h1 h2 hx hr =>
   have hc : c'.toNat = c := hc
   have e : (c' :: (x ++ r)).drop (c + 1) = r := by rw [List.drop_succ_cons, <- hc, <- hx, List.drop_left]
   refine ⟨?_, by rw [e]; exact hr⟩
   have := hr.pos
   simp; omega
 have hFn : lookT F t = none := zEe.2 fun h => by
  obtain ⟨p, hp, he⟩ := List.mem_map.1 h
  have := hF p hp
  rw [he] at this; omega
 unfold packN at hpk
 simp only [hc] at hpk
 have es : inI 0 (mkS t).data.size = true := by rw [zEz]; simp [inI]; omega
 have ec : ((atS (mkS t) 0).toNat : Int) = (c : Int) := by rw [show (0 : Int) = ((0 : Nat) : Int) from rfl, atS_mkS, hc]
 have ew : IntKind.i64.wrap (1 + IntKind.i64.wrap ((atS (mkS t) 0).toNat : Int)) = ((c + 1 : Nat) : Int) := by
  rw [ec, zDk (x := (c : Int)) (by omega) (by omega), zDk (by omega) (by omega)]; omega
 have hsl : c ≠ 0 -> inLH 0 (IntKind.i64.wrap (1 + IntKind.i64.wrap ((atS (mkS t) 0).toNat : Int))) (mkS t).data.size = true := fun h => by
  have := (hct h).1
  rw [ew, zEz]; simp [inLH]; omega
 have hsl2 : c ≠ 0 -> inLH (IntKind.i64.wrap (1 + IntKind.i64.wrap ((atS (mkS t) 0).toNat : Int))) ((mkS t).data.size : Int) (mkS t).data.size = true := fun h => by
  have := (hct h).1
  rw [ew, zEz]; simp [inLH]; omega
 have edrop : subS (mkS t) (IntKind.i64.wrap (1 + IntKind.i64.wrap ((atS (mkS t) 0).toNat : Int))).toNat (((mkS t).data.size : Int)).toNat = mkS (t.drop (c + 1)) := by
  rw [ew, aO, aO, zEz]
  simp [subS, mkS]
 have esub : ∀ lo : Nat, lo = 0 -> (subS (mkS t) lo (IntKind.i64.wrap (1 + IntKind.i64.wrap ((atS (mkS t) 0).toNat : Int))).toNat).data.toList = t.take (c + 1) := fun lo h => by
  subst h
  rw [ew, aO]; simp [subS, mkS]
 have hel : c ≠ 0 -> (t.take (c + 1)).length = c + 1 := fun h => by have := (hct h).1; rw [aU]; omega
 cases out with
 | nil =>
  refine zAt tbPk4 [1, 3, 900005, 900006] 2 _ none mixed _ _ _ ?_
  refine aI es ?_
  refine ifK (fun h1 => ?_) (fun h1 => ?_)
  ·have h1 : c = 0 := by have h1 : (((atS (mkS t) 0).toNat : Int) == 0) = true := h1; rw [ec] at h1; have : (c : Int) = 0 := by simpa using h1
                         omega
   rw [if_pos h1] at hpk
   refine eI [Value.int .u8 0] (aI rfl ?_)
   refine aI (by kernel_rfl) ?_
   refine aI rfl (zAj (rcq [2, 4] (d := 7) (d2 := 3) (lv := [(0, pt 0), (1, .int .i64 (a : Int)), (9, sq 3 (0 + 1) U), (10, .map (some 2))]) (bs := [(0, .cells [.map (some 1), .int .i64 en] 98), (1, .map (encT T) ck), (2, .map (encT F) F.length), (3, .cells (([0] : Bl).map byV) 5)]) (W := []) (m := 4) (df := []) ⟨(sP rfl rfl), (sI rfl), (sL rfl rfl), ⟨_, rfl, .map _ _ rfl⟩, tv⟩ ⟨⟨by decide, _, rfl, RO.cells [_, _] [] _ _ (.cons _ _ _ _ (.map _ _ rfl) (.cons _ _ _ _ (.int _ _) .nil))⟩, ⟨by decide, _, rfl, RO.map _ _ _ (zAl _)⟩, ⟨by decide, _, rfl, RO.map _ _ _ (zAl _)⟩, bpo rfl, tv⟩ .nil) (fun f => ?_))
   exact hex 0 [] F f (by rw [<- hpk]; simp) (by decide)
  have h1 : c ≠ 0 := fun e => by have h1 : (((atS (mkS t) 0).toNat : Int) == 0) = false := h1; rw [ec, e] at h1; cases h1
  rw [if_neg h1] at hpk
  cases hlk : lookT T t with
  | some k =>
   rw [hlk] at hpk
   refine eI (Value.tuple #[.int .i64 (k : Int), .bool true]) (eI ([] : List (Nat × Option AObj)) (eI (0 : Nat) (aI ?_ ?_)))
   ·exact zPu rfl rfl rfl (by kernel_rfl) rfl hT.1 hlk
   have hk : k < 16384 := hT.2 _ (zLg hlk)
   have e1 : bitsI .or .i64 49152 (k : Int) = ((49152 + k : Nat) : Int) := or_low hk
   refine eI (49152 + k) (aI ⟨by show [Value.int .i64 (bitsI .or .i64 49152 (k : Int))] = _; rw [e1], by omega⟩ ?_)
   refine eI ([hi8 (49152 + k), lo8 (49152 + k)].map byV) (aI (by rw [h1s]; rfl) ?_)
   refine aI (by kernel_rfl) ?_
   refine aI rfl (zAj (rcq [2, 4] (d := 7) (d2 := 3) (lv := [(0, pt 0), (1, .int .i64 (a : Int)), (9, sq 3 (1 + 1) U), (10, .map (some 2))]) (bs := [(0, .cells [.map (some 1), .int .i64 en] 98), (1, .map (encT T) ck), (2, .map (encT F) F.length), (3, .cells ([hi8 (49152 + k), lo8 (49152 + k)].map byV) 5)]) (W := []) (m := 4) (df := []) ⟨(sP rfl rfl), (sI rfl), (sL rfl rfl), ⟨_, rfl, .map _ _ rfl⟩, tv⟩ ⟨⟨by decide, _, rfl, RO.cells [_, _] [] _ _ (.cons _ _ _ _ (.map _ _ rfl) (.cons _ _ _ _ (.int _ _) .nil))⟩, ⟨by decide, _, rfl, RO.map _ _ _ (zAl _)⟩, ⟨by decide, _, rfl, RO.map _ _ _ (zAl _)⟩, bpo rfl, tv⟩ .nil) (fun f => ?_))
   exact hex _ [_] F f (by rw [<- hpk, hi_ptr, lo_ptr]; simp) (by simp)
  | none =>
   rw [hlk] at hpk
   refine eI (Value.tuple #[.int .i64 0, .bool false]) (eI ([] : List (Nat × Option AObj)) (eI (0 : Nat) (aI ?_ ?_)))
   ·exact zPt rfl rfl rfl (by kernel_rfl) rfl hlk
   have e2 : IntKind.i64.wrap ((a : Int) + ((0 : Nat) : Int)) = (a : Int) := zDk (by omega) (by omega)
   refine ifK (fun g => ?_) (fun g => ?_)
   ·have g : a < 16384 := by have g : decide (IntKind.i64.wrap ((a : Int) + ((0 : Nat) : Int)) < 16384) = true := g; rw [e2] at g; have := oT g; omega
    refine eI undef (eI [((2 : Nat), some (AObj.map (encT (F ++ [(t, a)])) (F.length + 1)))] (eI (0 : Nat) (aI ?_ ?_)))
    ·exact zUs rfl rfl rfl (by show Value.int _ _ = _; rw [e2]) (by kernel_rfl) rfl hFn
    refine aI es ?_
    refine aI (hsl h1) ?_
    refine ifK (fun g => ab (aA g) (by rw [esub (Int.toNat 0) rfl, hel h1]; omega)) (fun _ => ?_)
    refine aI (by rw [esub (Int.toNat 0) rfl, hel h1, hby, aX (by omega), aX (by omega)]; rfl) ?_
    refine aI es ?_
    refine aI (hsl2 h1) ?_
    obtain ⟨u, us, hu⟩ : ∃ u us, t.take (c + 1) = u :: us := by
     have := hel h1
     cases hq : t.take (c + 1) with
     | nil => rw [hq] at this; cases this
     | cons u us => exact ⟨u, us, rfl⟩
    have hul : (u :: us).length = 0 + c + 1 := by rw [<- hu, hel h1]; omega
    have hc1 := hct h1
    refine ⟨(u :: us, F ++ [(t, a)], t.drop (c + 1)), ⟨hc1.2, ?_, ?_, fu, ?_, ?_⟩, ?_, ?_⟩
    ·show (u :: us).length + (t.drop (c + 1)).length <= 255
     have hlen : 0 + t.length <= 255 := hlen
     rw [hul, aM]; omega
    ·exact fun p hp => by
      rcases List.mem_append.1 hp with h | h
      ·have : t.length < p.1.length := hF p h
       show (t.drop (c + 1)).length < _; rw [aM]; omega
      rw [List.mem_singleton.1 h]; show (t.drop (c + 1)).length < t.length; rw [aM]; omega
    ·show (t.drop (c + 1)).length <= fu
     rw [aM]; omega
    ·show ((u :: us) ++ (packN T a fu (t.drop (c + 1)) (u :: us).length).1, F ++ [(t, a)] ++ (packN T a fu (t.drop (c + 1)) (u :: us).length).2) = R
     have hpk : ([] ++ (t.take (c + 1) ++ (packN T a fu (t.drop (c + 1)) (0 + c + 1)).1), F ++ (if a + 0 < 16384 then (t, a + 0) :: (packN T a fu (t.drop (c + 1)) (0 + c + 1)).2 else (packN T a fu (t.drop (c + 1)) (0 + c + 1)).2)) = R := hpk
     rw [<- hpk, hul, if_pos (by omega)]; simp [<- hu, aN]
    ·show (t.drop (c + 1)).length < t.length
     rw [aM]; omega
    exact rcq [2, 3] ⟨(sP rfl rfl), (sI rfl), ⟨_, rfl, by rw [esub (Int.toNat 0) rfl, hu]; exact .sl _ _ _ _ _ rfl⟩, ⟨_, rfl, .map _ _ rfl⟩, ⟨_, rfl, by rw [edrop]; exact .string _⟩, tv⟩ ⟨⟨by decide, _, rfl, RO.cells [_, _] [] _ _ (.cons _ _ _ _ (.map _ _ rfl) (.cons _ _ _ _ (.int _ _) .nil))⟩, ⟨by decide, _, rfl, RO.map _ _ _ (zAl _)⟩, ⟨by decide, _, rfl, by rw [aB]; exact RO.map _ _ _ (zAl _)⟩, ⟨by decide, _, rfl, by rw [esub (Int.toNat 0) rfl, hu]; exact .same (zAb (u :: us))⟩, tv⟩ .nil
   have g : ¬ a < 16384 := fun hlt => by have g : decide (IntKind.i64.wrap ((a : Int) + ((0 : Nat) : Int)) < 16384) = false := g; rw [e2] at g; exact ab (show (a : Int) < 16384 by omega) (oF g)
   refine aI es ?_
   refine aI (hsl h1) ?_
   refine ifK (fun g => ab (aA g) (by rw [esub (Int.toNat 0) rfl, hel h1]; omega)) (fun _ => ?_)
   refine aI (by rw [esub (Int.toNat 0) rfl, hel h1, hby, aX (by omega), aX (by omega)]; rfl) ?_
   refine aI es ?_
   refine aI (hsl2 h1) ?_
   obtain ⟨u, us, hu⟩ : ∃ u us, t.take (c + 1) = u :: us := by
    have := hel h1
    cases hq : t.take (c + 1) with
    | nil => rw [hq] at this; cases this
    | cons u us => exact ⟨u, us, rfl⟩
   have hul : (u :: us).length = 0 + c + 1 := by rw [<- hu, hel h1]; omega
   have hc1 := hct h1
   refine ⟨(u :: us, F, t.drop (c + 1)), ⟨hc1.2, ?_, ?_, fu, ?_, ?_⟩, ?_, ?_⟩
   ·show (u :: us).length + (t.drop (c + 1)).length <= 255
    have hlen : 0 + t.length <= 255 := hlen
    rw [hul, aM]; omega
   ·exact fun p hp => by
     have : t.length < p.1.length := hF p hp
     show (t.drop (c + 1)).length < _; rw [aM]; omega
   ·show (t.drop (c + 1)).length <= fu
    rw [aM]; omega
   ·show ((u :: us) ++ (packN T a fu (t.drop (c + 1)) (u :: us).length).1, F ++ (packN T a fu (t.drop (c + 1)) (u :: us).length).2) = R
    have hpk : ([] ++ (t.take (c + 1) ++ (packN T a fu (t.drop (c + 1)) (0 + c + 1)).1), F ++ (if a + 0 < 16384 then (t, a + 0) :: (packN T a fu (t.drop (c + 1)) (0 + c + 1)).2 else (packN T a fu (t.drop (c + 1)) (0 + c + 1)).2)) = R := hpk
    rw [<- hpk, hul, if_neg (by omega)]; simp [<- hu, aN]
   ·show (t.drop (c + 1)).length < t.length
    rw [aM]; omega
   exact rcq [2, 3] ⟨(sP rfl rfl), (sI rfl), ⟨_, rfl, by rw [esub (Int.toNat 0) rfl, hu]; exact .sl _ _ _ _ _ rfl⟩, ⟨_, rfl, .map _ _ rfl⟩, ⟨_, rfl, by rw [edrop]; exact .string _⟩, tv⟩ ⟨⟨by decide, _, rfl, RO.cells [_, _] [] _ _ (.cons _ _ _ _ (.map _ _ rfl) (.cons _ _ _ _ (.int _ _) .nil))⟩, ⟨by decide, _, rfl, RO.map _ _ _ (zAl _)⟩, ⟨by decide, _, rfl, RO.map _ _ _ (zAl _)⟩, ⟨by decide, _, rfl, by rw [esub (Int.toNat 0) rfl, hu]; exact .same (zAb (u :: us))⟩, tv⟩ .nil
 | cons u us =>
  have hlen : us.length + 1 + t.length <= 255 := hlen
  have hpk : ((u :: us) ++ (if c = 0 then (([0] : Bl), ([] : List (Bl × Nat))) else match lookT T t with
   | some k => ([UInt8.ofNat (192 + k / 256), UInt8.ofNat (k % 256)], [])
   | none => (t.take (c + 1) ++ (packN T a fu (t.drop (c + 1)) (us.length + 1 + c + 1)).1, if a + (us.length + 1) < 16384 then (t, a + (us.length + 1)) :: (packN T a fu (t.drop (c + 1)) (us.length + 1 + c + 1)).2 else (packN T a fu (t.drop (c + 1)) (us.length + 1 + c + 1)).2)).1, F ++ (if c = 0 then (([0] : Bl), ([] : List (Bl × Nat))) else match lookT T t with
   | some k => ([UInt8.ofNat (192 + k / 256), UInt8.ofNat (k % 256)], [])
   | none => (t.take (c + 1) ++ (packN T a fu (t.drop (c + 1)) (us.length + 1 + c + 1)).1, if a + (us.length + 1) < 16384 then (t, a + (us.length + 1)) :: (packN T a fu (t.drop (c + 1)) (us.length + 1 + c + 1)).2 else (packN T a fu (t.drop (c + 1)) (us.length + 1 + c + 1)).2)).2) = R := hpk
  refine zAt tbPk4 [1, 3, 900005, 900006] 2 _ none mixed _ _ _ ?_
  refine aI es ?_
  refine ifK (fun h1 => ?_) (fun h1 => ?_)
  ·have h1 : c = 0 := by have h1 : (((atS (mkS t) 0).toNat : Int) == 0) = true := h1; rw [ec] at h1; have : (c : Int) = 0 := by simpa using h1
                         omega
   rw [if_pos h1] at hpk
   refine aI (by rw [hby, h1s]; simp only [bA, dT]; exact ⟨⟨⟨⟨⟨⟨rfl, rfl⟩, bL (by simp)⟩, rfl⟩, (by omega)⟩, (by omega)⟩, bL (by simp)⟩) ?_
   refine aI rfl (zAj (rcq [2, 5] (d := 7) (d2 := 3) (lv := [(0, pt 0), (1, .int .i64 (a : Int)), (9, sq 3 ((us ++ ([0] : Bl)).length + 1) U), (10, .map (some 2))]) (bs := [(0, .cells [.map (some 1), .int .i64 en] 98), (1, .map (encT T) ck), (2, .map (encT F) F.length), (3, .cells ((u :: (us ++ ([0] : Bl))).map byV) 5)]) (W := []) (m := 4) (df := []) ⟨(sP rfl rfl), (sI rfl), ⟨_, rfl, by rw [show (us ++ ([0] : Bl)).length + 1 = us.length + 1 + 1 by simp <;> omega]; exact .sl _ _ _ _ _ rfl⟩, ⟨_, rfl, .map _ _ rfl⟩, tv⟩ ⟨⟨by decide, _, rfl, RO.cells [_, _] [] _ _ (.cons _ _ _ _ (.map _ _ rfl) (.cons _ _ _ _ (.int _ _) .nil))⟩, ⟨by decide, _, rfl, RO.map _ _ _ (zAl _)⟩, ⟨by decide, _, rfl, RO.map _ _ _ (zAl _)⟩, ⟨by decide, _, rfl, zAv (by rw [h1s, aR, aD (by simp)]; simp <;> rfl) (zAb _)⟩, tv⟩ .nil) (fun f => ?_))
   exact hex u (us ++ ([0] : Bl)) F f (by rw [<- hpk]; simp) (by simp; omega)
  have h1 : c ≠ 0 := fun e => by have h1 : (((atS (mkS t) 0).toNat : Int) == 0) = false := h1; rw [ec, e] at h1; cases h1
  rw [if_neg h1] at hpk
  cases hlk : lookT T t with
  | some k =>
   rw [hlk] at hpk
   refine eI (Value.tuple #[.int .i64 (k : Int), .bool true]) (eI ([] : List (Nat × Option AObj)) (eI (0 : Nat) (aI ?_ ?_)))
   ·exact zPu rfl rfl rfl (by kernel_rfl) rfl hT.1 hlk
   have hk : k < 16384 := hT.2 _ (zLg hlk)
   have e1 : bitsI .or .i64 49152 (k : Int) = ((49152 + k : Nat) : Int) := or_low hk
   refine eI (49152 + k) (aI ⟨by show [Value.int .i64 (bitsI .or .i64 49152 (k : Int))] = _; rw [e1], by omega⟩ ?_)
   refine aI (by rw [hby, h1s]; simp only [bA, dT]; exact ⟨⟨⟨⟨⟨⟨rfl, rfl⟩, bL (by simp)⟩, rfl⟩, (by omega)⟩, (by omega)⟩, bL (by simp)⟩) ?_
   refine aI rfl (zAj (rcq [2, 5] (d := 7) (d2 := 3) (lv := [(0, pt 0), (1, .int .i64 (a : Int)), (9, sq 3 ((us ++ [hi8 (49152 + k), lo8 (49152 + k)]).length + 1) U), (10, .map (some 2))]) (bs := [(0, .cells [.map (some 1), .int .i64 en] 98), (1, .map (encT T) ck), (2, .map (encT F) F.length), (3, .cells ((u :: (us ++ [hi8 (49152 + k), lo8 (49152 + k)])).map byV) 5)]) (W := []) (m := 4) (df := []) ⟨(sP rfl rfl), (sI rfl), ⟨_, rfl, by rw [show (us ++ [hi8 (49152 + k), lo8 (49152 + k)]).length + 1 = us.length + 1 + 2 by simp <;> omega]; exact .sl _ _ _ _ _ rfl⟩, ⟨_, rfl, .map _ _ rfl⟩, tv⟩ ⟨⟨by decide, _, rfl, RO.cells [_, _] [] _ _ (.cons _ _ _ _ (.map _ _ rfl) (.cons _ _ _ _ (.int _ _) .nil))⟩, ⟨by decide, _, rfl, RO.map _ _ _ (zAl _)⟩, ⟨by decide, _, rfl, RO.map _ _ _ (zAl _)⟩, ⟨by decide, _, rfl, zAv (by rw [h1s, aR, aD (by simp)]; simp <;> rfl) (zAb _)⟩, tv⟩ .nil) (fun f => ?_))
   exact hex u (us ++ [hi8 (49152 + k), lo8 (49152 + k)]) F f (by rw [<- hpk, hi_ptr, lo_ptr]; simp) (by simp; omega)
  | none =>
   rw [hlk] at hpk
   refine eI (Value.tuple #[.int .i64 0, .bool false]) (eI ([] : List (Nat × Option AObj)) (eI (0 : Nat) (aI ?_ ?_)))
   ·exact zPt rfl rfl rfl (by kernel_rfl) rfl hlk
   have e2 : IntKind.i64.wrap ((a : Int) + ((us.length + 1 : Nat) : Int)) = ((a + (us.length + 1) : Nat) : Int) := by rw [zDk (by omega) (by omega)]; omega
   have hst : oneL ((t.take (c + 1)).map byV) = true := by unfold oneL; exact aG.2 (fun v hv => by obtain ⟨b, _, rfl⟩ := List.mem_map.1 hv; rfl)
   refine ifK (fun g => ?_) (fun g => ?_)
   ·have g : a + (us.length + 1) < 16384 := by have g : decide (IntKind.i64.wrap ((a : Int) + ((us.length + 1 : Nat) : Int)) < 16384) = true := g; rw [e2] at g; have := oT g; omega
    refine eI undef (eI [((2 : Nat), some (AObj.map (encT (F ++ [(t, a + (us.length + 1))])) (F.length + 1)))] (eI (0 : Nat) (aI ?_ ?_)))
    ·exact zUs rfl rfl rfl (by show Value.int _ _ = _; rw [e2]) (by kernel_rfl) rfl hFn
    refine aI es ?_
    refine aI (hsl h1) ?_
    refine ifK (fun g => ab (aA g) (by rw [esub (Int.toNat 0) rfl, hel h1]; omega)) (fun _ => ?_)
    refine aI (by rw [hby, h1s, esub (Int.toNat 0) rfl]; simp only [bA, dT]; exact ⟨⟨⟨⟨⟨⟨rfl, rfl⟩, bL (by simp)⟩, hst⟩, (by omega)⟩, (by omega)⟩, bL (by have := (hct h1).1; simp; omega)⟩) ?_
    refine aI es ?_
    refine aI (hsl2 h1) ?_
    have hc1 := hct h1
    have hull : (us ++ t.take (c + 1)).length + 1 = us.length + 1 + c + 1 := by rw [aB, hel h1]; omega
    refine ⟨(u :: (us ++ t.take (c + 1)), F ++ [(t, a + (us.length + 1))], t.drop (c + 1)), ⟨hc1.2, ?_, ?_, fu, ?_, ?_⟩, ?_, ?_⟩
    ·show (us ++ t.take (c + 1)).length + 1 + (t.drop (c + 1)).length <= 255
     rw [hull, aM]; omega
    ·exact fun p hp => by
      rcases List.mem_append.1 hp with h | h
      ·have : t.length < p.1.length := hF p h
       show (t.drop (c + 1)).length < _; rw [aM]; omega
      rw [List.mem_singleton.1 h]; show (t.drop (c + 1)).length < t.length; rw [aM]; omega
    ·show (t.drop (c + 1)).length <= fu
     rw [aM]; omega
    ·show ((u :: (us ++ t.take (c + 1))) ++ (packN T a fu (t.drop (c + 1)) ((us ++ t.take (c + 1)).length + 1)).1, F ++ [(t, a + (us.length + 1))] ++ (packN T a fu (t.drop (c + 1)) ((us ++ t.take (c + 1)).length + 1)).2) = R
     rw [<- hpk, hull]; simp only [if_pos g]; simp [aN]
    ·show (t.drop (c + 1)).length < t.length
     rw [aM]; omega
    exact rcq [2, 4] ⟨(sP rfl rfl), (sI rfl), ⟨_, rfl, by rw [esub (Int.toNat 0) rfl, show (us ++ t.take (c + 1)).length + 1 = us.length + 1 + (t.take (c + 1)).length by rw [aB]; omega]; exact .sl _ _ _ _ _ rfl⟩, ⟨_, rfl, .map _ _ rfl⟩, ⟨_, rfl, by rw [edrop]; exact .string _⟩, tv⟩ ⟨⟨by decide, _, rfl, RO.cells [_, _] [] _ _ (.cons _ _ _ _ (.map _ _ rfl) (.cons _ _ _ _ (.int _ _) .nil))⟩, ⟨by decide, _, rfl, RO.map _ _ _ (zAl _)⟩, ⟨by decide, _, rfl, by rw [aB]; exact RO.map _ _ _ (zAl _)⟩, ⟨by decide, _, rfl, zAv (by rw [esub (Int.toNat 0) rfl, h1s, aR, aD (by simp)]; simp <;> rfl) (zAb _)⟩, tv⟩ .nil
   have g : ¬ a + (us.length + 1) < 16384 := fun hlt => by have g : decide (IntKind.i64.wrap ((a : Int) + ((us.length + 1 : Nat) : Int)) < 16384) = false := g; rw [e2] at g; exact ab (show ((a + (us.length + 1) : Nat) : Int) < 16384 by omega) (oF g)
   refine aI es ?_
   refine aI (hsl h1) ?_
   refine ifK (fun g => ab (aA g) (by rw [esub (Int.toNat 0) rfl, hel h1]; omega)) (fun _ => ?_)
   refine aI (by rw [hby, h1s, esub (Int.toNat 0) rfl]; simp only [bA, dT]; exact ⟨⟨⟨⟨⟨⟨rfl, rfl⟩, bL (by simp)⟩, hst⟩, (by omega)⟩, (by omega)⟩, bL (by have := (hct h1).1; simp; omega)⟩) ?_
   refine aI es ?_
   refine aI (hsl2 h1) ?_
   have hc1 := hct h1
   have hull : (us ++ t.take (c + 1)).length + 1 = us.length + 1 + c + 1 := by rw [aB, hel h1]; omega
   refine ⟨(u :: (us ++ t.take (c + 1)), F, t.drop (c + 1)), ⟨hc1.2, ?_, ?_, fu, ?_, ?_⟩, ?_, ?_⟩
   ·show (us ++ t.take (c + 1)).length + 1 + (t.drop (c + 1)).length <= 255
    rw [hull, aM]; omega
   ·exact fun p hp => by
     have : t.length < p.1.length := hF p hp
     show (t.drop (c + 1)).length < _; rw [aM]; omega
   ·show (t.drop (c + 1)).length <= fu
    rw [aM]; omega
   ·show ((u :: (us ++ t.take (c + 1))) ++ (packN T a fu (t.drop (c + 1)) ((us ++ t.take (c + 1)).length + 1)).1, F ++ (packN T a fu (t.drop (c + 1)) ((us ++ t.take (c + 1)).length + 1)).2) = R
    rw [<- hpk, hull]; simp only [if_neg g]; simp [aN]
   ·show (t.drop (c + 1)).length < t.length
    rw [aM]; omega
   exact rcq [2, 4] ⟨(sP rfl rfl), (sI rfl), ⟨_, rfl, by rw [esub (Int.toNat 0) rfl, show (us ++ t.take (c + 1)).length + 1 = us.length + 1 + (t.take (c + 1)).length by rw [aB]; omega]; exact .sl _ _ _ _ _ rfl⟩, ⟨_, rfl, .map _ _ rfl⟩, ⟨_, rfl, by rw [edrop]; exact .string _⟩, tv⟩ ⟨⟨by decide, _, rfl, RO.cells [_, _] [] _ _ (.cons _ _ _ _ (.map _ _ rfl) (.cons _ _ _ _ (.int _ _) .nil))⟩, ⟨by decide, _, rfl, RO.map _ _ _ (zAl _)⟩, ⟨by decide, _, rfl, RO.map _ _ _ (zAl _)⟩, ⟨by decide, _, rfl, zAv (by rw [esub (Int.toNat 0) rfl, h1s, aR, aD (by simp)]; simp <;> rfl) (zAb _)⟩, tv⟩ .nil
section
theorem zOq {F : Fence} {n : Nat} {P : Program} {c : Code} {Q Q' : Exit -> Act -> World -> Prop} {a : Act} {w : World} (h : zDt F n P c Q a w) (hq : ∀ e a' w', Q e a' w' -> Q' e a' w') : zDt F n P c Q' a w := fun b k cs h1 h2 h3 => by
 obtain ⟨e, a', w', q1, q2⟩ := h b k cs h1 h2 h3
 exact ⟨e, a', w', hq _ _ _ q1, q2⟩
theorem zQu {P : Program} {g0 k0 nt : Nat} {rd : Option Nat} {c : Code} {s s' : Fs} {x : Ex} (h : LoopOK P g0 nt rd c s x s') (hJ : s'.n <= JJ) (hW : ∀ k ∈ s'.wr, k < JJ) (hk : k0 <= s.n) : LSem P g0 k0 nt rd c s x s' := by
 obtain ⟨⟨hg, hwr⟩, hw⟩ := h
 refine ⟨aW hk hg.le, fun i hi _ => hwr i hi, fun E a w hf => ?_⟩
 have hfree : Free E s.n s'.n := fun k h1 h2 hd => by rcases hf.top k hd with h3 | h3 <;> omega
 refine zOq (hw E w E a w ⟨hf.tr, hf.hr, hf.lw, (Stp.refl E w).sub (fun _ h => by cases h), hf.df, hf.gl, hf.rd⟩ hfree) ?_
 rintro e a' w' ⟨E', hx, ht, hf', he⟩
 have hle := hg.le
 refine ⟨E', ⟨hf'.tr, hf'.hr, hf'.lw, hf'.df, hf'.gl, hf'.rd, fun k hd => ?_⟩, he, ⟨fun i hi => ?_, fun i _ hd => hx.ρ i hd, fun i _ hd => hx.tot i hd, fun i _ hd => hx.sz i hd, fun i _ hd => hx.sh i hd, fun i _ hd => hx.ro i hd, fun hn i hi hiJ hd => ?_, hf'.stp.os, hf'.stp.tape, hf'.stp.output, hf'.stp.size, fun b hb hx' => ?_, fun i hi hiJ hd => ?_, hx.fz, fun b ob hb => (hf'.stp.fz b ob hb).imp (fun h => h) (fun h => h.imp (fun h => h) (fun ⟨o, ho, hd', hr, e⟩ => ⟨o, ⟨hd', hW o ho, fun _ => ⟨ho, hr⟩⟩, e⟩))⟩⟩
 ·rcases (ht k).1 hd with h1 | h1
  ·rcases hf.top k h1 with h2 | h2
   ·exact .inl (by omega)
   exact .inr h2
  exact .inl h1.2
 ·rw [ht i]; exact ⟨fun h => h.resolve_right (by omega), .inl⟩
 ·by_cases h1 : E.dom i
  ·exact fun x => hn i hi hiJ h1 ((hx.ro i h1).1 x)
  exact (hf'.stp.fresh i h1 hd).1
 ·exact hf'.stp.block b hb (fun id hid hd hr => hx' id ⟨hd, hW id hid, fun _ => ⟨hid, hr⟩⟩)
 by_cases h1 : E.dom i
 ·exact .inr ⟨i, ⟨h1, hiJ, fun h => by omega⟩, (hx.ρ i h1).symm⟩
 exact (hf'.stp.fresh i h1 hd).2.imp (fun h => h) (fun ⟨o, ho, hd', hr, e⟩ => ⟨o, ⟨hd', hW o ho, fun _ => ⟨ho, hr⟩⟩, e.symm⟩)
theorem zNd {P : Program} {g0 k0 nt : Nat} {rd : Option Nat} {c : Code} {s s' : Fs} {x : Ex} {K : Ex -> Fs -> Prop} (h : mloop P g0 nt c s = some (.code x s')) (hJ : s'.n <= JJ) (hW : ∀ k ∈ s'.wr, k < JJ) (hk : K x s') : LW P g0 k0 nt rd c s K :=
 fun _ h2 => ⟨x, s', zQu (zVq h) hJ hW h2, hk⟩
section
variable {P : Program} {g0 nt : Nat}
theorem zXi {c : Code} {s : Fs} {L : MLoop} {K : MKeys} {b m since ck : Nat} (h1 : mparse c = some L) (h2 : mkeys L = some K) (h3 : aev s.T K.it0 = pt b) (h4 : s.H.get b = some (.mit m since)) (h5 : s.H.get m = some (.map [] ck)) (h6 : (since.beq ck && !(m.beq b)) = true)
  (h7 : (mend P g0 nt L K (s.H.set b none).get s.n b s.T).isSome = true) : mloop P g0 nt c s = some (.code (.exit L.x) { s with T := (mend P g0 nt L K (s.H.set b none).get s.n b s.T).get h7, H := s.H.set b none, wr := b :: s.wr }) := by
 obtain ⟨T, hm⟩ := Option.isSome_iff_exists.1 h7
 have eT : (mend P g0 nt L K (s.H.set b none).get s.n b s.T).get h7 = T := by simp [hm]
 rw [eT]
 unfold mloop
 simp only [h1, h2, h3, h4, h5, h6, cT, hm]
theorem zXj {c : Code} {s : Fs} {L : MLoop} {K : MKeys} {b m since ck B ckB : Nat} {e : MapEntry} {es esB : List MapEntry} {kt et : TypeId} (h1 : mparse c = some L) (h2 : mkeys L = some K) (h3 : aev s.T K.it0 = pt b) (h4 : s.H.get b = some (.mit m since)) (h5 : s.H.get m = some (.map (e :: es) ck)) (h6 : (since.beq ck && !(m.beq b)) = true)
  (h7 : (mslots P g0 nt L K (s.H.set b none).get s.n b s.T e).isSome = true) (h8 : aev ((mslots P g0 nt L K (s.H.set b none).get s.n b s.T e).get h7) K.um = .map (some B)) (h9 : (s.H.set b none).get B = some (.map esB ckB)) (h10 : P.underlying K.ut = some (.map kt et)) (h11 : B.beq m = false) (h12 : (P.underlying kt).isSome = true)
  (h13 : zAn (e :: es) = true) (h14 : zAn esB = true) (h15 : ((e :: es).all fun e => e.born.beq 0) = true) (h16 : ((e :: es).all fun e => keyOk P kt false e.key) = true) (h17 : ((e :: es).all fun e => zDb P kt e.key esB) = true) (h18 : zDp P kt (e :: es) = true)
  (h19 : ((e :: es).all fun x => mround P g0 nt L K ((s.H.set b none).set B none).get s.n b B (anonAll ((mslots P g0 nt L K (s.H.set b none).get s.n b s.T e).get h7) (mdsts L) s.T) s.T x) = true)
  (h20 : ((e :: es).all fun x => mround P g0 nt L K ((s.H.set b none).set B none).get s.n b B (anonAll ((mslots P g0 nt L K (s.H.set b none).get s.n b s.T e).get h7) (mdsts L) s.T) (anonAll ((mslots P g0 nt L K (s.H.set b none).get s.n b s.T e).get h7) (mdsts L) s.T) x) = true)
  (h21 : (mend P g0 nt L K ((s.H.set b none).set B none).get s.n b (anonAll ((mslots P g0 nt L K (s.H.set b none).get s.n b s.T e).get h7) (mdsts L) s.T)).isSome = true) :
  mloop P g0 nt c s = some (.code (.exit L.x) { s with T := (mend P g0 nt L K ((s.H.set b none).set B none).get s.n b (anonAll ((mslots P g0 nt L K (s.H.set b none).get s.n b s.T e).get h7) (mdsts L) s.T)).get h21, H := (s.H.set b none).set B (some (.map (esB ++ (e :: es)) (ckB + (e :: es).length))), wr := B :: b :: s.wr }) := by
 obtain ⟨Te, hTe⟩ : ∃ Te, mslots P g0 nt L K (s.H.set b none).get s.n b s.T e = some Te := Option.isSome_iff_exists.1 h7
 have eT : (mslots P g0 nt L K (s.H.set b none).get s.n b s.T e).get h7 = Te := by simp [hTe]
 simp only [eT] at h8 h19 h20 h21 ⊢
 obtain ⟨T, hm⟩ := Option.isSome_iff_exists.1 h21
 have eM : (mend P g0 nt L K ((s.H.set b none).set B none).get s.n b (anonAll Te (mdsts L) s.T)).get h21 = T := by simp [hm]
 rw [eM]
 unfold mloop
 simp only [h1, h2, h3, h4, h5, h6, cT, hTe, h8, h9, h10, h11, h12, h13, h14, h15, h16, h17, h18, Bool.not_false, Bool.and_self, h19, h20, hm]
end
noncomputable def pkL : MLoop := (mparse (loopAt Try.f70 1)).get (by kernel_rfl)
noncomputable def pkK : MKeys := (mkeys pkL).get (by kernel_rfl)
theorem not_elem {l : List Nat} {k : Nat} (h : l.elem k = false) : k ∉ l := fun hm => by rw [List.elem_eq_true_of_mem hm] at h; cases h
theorem all_lt {l : List Nat} (h : (l.all fun k => Nat.blt k JJ) = true) : ∀ k ∈ l, k < JJ := fun k hk => aE (aG.1 h k hk)
theorem zHe (T : List (Bl × Nat)) (a : Nat) : ∀ (f : Nat) (t : Bl) (o : Nat), (∀ q ∈ (packN T a f t o).2, lookT T q.1 = none /\ q.1.length <= t.length /\ q.2 < 16384) /\ ((packN T a f t o).2.map (·.1)).Nodup
 | 0, _, _ => ⟨(fun q hq => by cases hq), List.nodup_nil⟩
 | f + 1, t, o => by
  unfold packN
  by_cases hc : (t.getD 0 0).toNat = 0
  ·simp only [if_pos hc]; exact ⟨(fun q hq => by cases hq), List.nodup_nil⟩
  simp only [if_neg hc]
  cases hl : lookT T t with
  | some k => exact ⟨(fun q hq => by cases hq), List.nodup_nil⟩
  | none =>
   simp only []
   obtain ⟨h1, h2⟩ := zHe T a f (t.drop ((t.getD 0 0).toNat + 1)) (o + (t.getD 0 0).toNat + 1)
   have hpos : 0 < t.length := by
    cases t with
    | nil => exact ab rfl hc
    | cons x t => simp
   have hlt : ∀ q ∈ (packN T a f (t.drop ((t.getD 0 0).toNat + 1)) (o + (t.getD 0 0).toNat + 1)).2, q.1.length < t.length := fun q hq => by
    have := (h1 q hq).2.1
    rw [aM] at this; omega
   split
   ·rename_i hlt2
    refine ⟨fun q hq => ?_, ?_⟩
    ·rcases aK.1 hq with rfl | hq
     ·exact ⟨hl, aJ _, hlt2⟩
     exact ⟨(h1 q hq).1, Nat.le_of_lt (hlt q hq), (h1 q hq).2.2⟩
    rw [List.map_cons, List.nodup_cons]
    refine ⟨fun hm => ?_, h2⟩
    obtain ⟨q, hq, he⟩ := List.mem_map.1 hm
    have he : q.1 = t := he
    have := hlt q hq
    rw [he] at this; omega
   exact ⟨fun q hq => ⟨(h1 q hq).1, Nat.le_of_lt (hlt q hq), (h1 q hq).2.2⟩, h2⟩
theorem zUt {T : List (Bl × Nat)} {s : Bl} (h : lookT T s = none) : zDb Try.prog 9 (.string (mkS s)) (encT T) = true := by
 unfold zDb
 refine aG.2 fun x hx => ?_
 obtain ⟨q, hq, rfl⟩ := List.mem_map.1 hx
 have hne : s ≠ q.1 := fun e => zEe.1 h (by rw [e]; exact List.mem_map_of_mem hq)
 rw [zQj, zQv, aY hne]
theorem zKk : ∀ {F : List (Bl × Nat)}, (F.map (·.1)).Nodup -> zDp Try.prog 9 (encT F) = true
 | [], _ => rfl
 | p :: F, h => by
  rw [List.map_cons, List.nodup_cons] at h
  show (zDb Try.prog 9 (.string (mkS p.1)) (encT F) && ((encT F).all fun x => match eqK Try.prog 9 x.key { key := .string (mkS p.1), val := .int .i64 (p.2 : Int), born := 0 } with | some false => true | _ => false) && zDp Try.prog 9 (encT F)) = true
  rw [zUt (zEe.2 h.1), zKk h.2, Bool.true_and, Bool.and_true]
  refine aG.2 fun x hx => ?_
  obtain ⟨q, hq, rfl⟩ := List.mem_map.1 hx
  have hne : q.1 ≠ p.1 := fun e => h.1 (by rw [<- e]; exact List.mem_map_of_mem hq)
  show (match eqK Try.prog 9 (.string (mkS q.1)) { key := .string (mkS p.1), val := .int .i64 (p.2 : Int), born := 0 } with | some false => true | _ => false) = true
  rw [zQj, zQv, aY hne]
theorem born_of (F : List (Bl × Nat)) : ((encT F).all fun e => e.born.beq 0) = true := by
 refine aG.2 fun x hx => ?_
 obtain ⟨q, _, rfl⟩ := List.mem_map.1 hx; rfl
theorem keys_of (F : List (Bl × Nat)) : ((encT F).all fun e => keyOk Try.prog 9 false e.key) = true := by
 refine aG.2 fun x hx => ?_
 obtain ⟨q, _, rfl⟩ := List.mem_map.1 hx; exact zVk _ _
theorem zSx (T F : List (Bl × Nat)) : encT T ++ encT F = encT (T ++ F) := by unfold encT; rw [List.map_append]
theorem zSy (F : List (Bl × Nat)) : (encT F).length = F.length := by unfold encT; rw [aT]
theorem name_fn (a : Nat) (en : Nat) (T : List (Bl × Nat)) (ck : Nat) (B : Bl) (ha : a <= 65535) (hen : en <= a) (hT : goodT T) (hB : Nm B) (hlB : B.length <= 255) :
  ∃ r, FnS Try.prog 0 70 [pt 0, .int .i64 (a : Int), .string (mkS B)] (heap 2 [(0, .cells [.map (some 1), .int .i64 (en : Int)] 98), (1, .map (encT T) ck)]) 2 r /\
   ∃ H m wr b, r = .ret (.tuple #[sq b (packN T a B.length B 0).1.length U, .int .i64 0]) H m wr /\ (2 <= b /\ b < JJ /\ 0 ∈ wr /\ (1 ∈ wr \/ 1 ∉ wr /\ (packN T a B.length B 0).2 = [])) /\ H.get b = some (.cells ((packN T a B.length B 0).1.map byV) 5) /\
    H.get 0 = some (.cells [.map (some 1), .int .i64 ((a + (packN T a B.length B 0).1.length : Nat) : Int)] 98) /\ H.get 1 = some (.map (encT (T ++ (packN T a B.length B 0).2)) (ck + (packN T a B.length B 0).2.length)) := by
 have hsh : shortB (mkS B) = true := by unfold shortB; rw [zEz]; exact bL (by omega)
 have hlab : (labels (bs (mkS B))).2 = 0 := by rw [show bs (mkS B) = B from by simp [bs, mkS]]; exact (zCe B).2 ⟨hB, hlB⟩
 refine zBp mixed tbPk4 [1, 3, 900005, 900006] Try.func70 (c := bodyOf Try.f70) (by kernel_rfl) ?_
 refine aI hsh ?_
 refine ifK (fun g => by have g : ((labels (bs (mkS B))).2 != 0) = true := g; rw [hlab] at g; cases g) (fun _ => ?_)
 refine ifK (fun g => ab (oT g) (by omega)) (fun _ => ?_)
 refine ifK (fun g => ab (oT g) (by omega)) (fun _ => ?_)
 refine name_loop a (en : Int) T ck B ha hT hB hlB (rcq [2] ⟨(sP rfl rfl), (sI rfl), ⟨_, rfl, zAm 8 rfl⟩, ⟨_, rfl, .map _ _ rfl⟩, ⟨_, rfl, .string _⟩, tv⟩ ⟨⟨by decide, _, rfl, RO.cells [_, _] [] _ _ (.cons _ _ _ _ (.map _ _ rfl) (.cons _ _ _ _ (.int _ _) .nil))⟩, ⟨by decide, _, rfl, RO.map _ _ _ (zAl _)⟩, ⟨by decide, _, rfl, RO.map _ _ _ .nil⟩, tv⟩ .nil) ?_
 intro u us F f hR hl
 rw [<- hR]
 have hul : us.length + 1 <= 257 := hl
 have e2 : IntKind.i64.wrap ((a : Int) + ((us.length + 1 : Nat) : Int)) = ((a + (us.length + 1) : Nat) : Int) := by rw [zDk (by omega) (by omega)]; omega
 cases F with
 | nil =>
  refine zNd (zXi (L := pkL) (K := pkK) (b := 4) (m := 2) (since := 0) (ck := 0) (by kernel_rfl) (by kernel_rfl) (by kernel_rfl) (by kernel_rfl) (by kernel_rfl) (by kernel_rfl) (by kernel_rfl)) ?_ ?_ ?_
  ·exact aE (by kernel_rfl)
  ·exact all_lt (by kernel_rfl)
  refine ⟨_, _, _, 3, rfl, ⟨by decide, by decide, List.mem_of_elem_eq_true (by kernel_rfl), .inr ⟨not_elem (by kernel_rfl), rfl⟩⟩, rfl, ?_, ?_⟩
  ·show some (AObj.cells [.map (some 1), .int .i64 (IntKind.i64.wrap ((a : Int) + ((us.length + 1 : Nat) : Int)))] _) = _
   rw [e2]; rfl
  rw [aF]; rfl
 | cons p F =>
  obtain ⟨hf1, hnd⟩ := zHe T a B.length B 0
  rw [<- hR] at hf1 hnd
  have hbe : (Nat.beq (F.length + 1) (F.length + 1) && !(Nat.beq 2 4)) = true := by rw [show Nat.beq (F.length + 1) (F.length + 1) = true by simp]; rfl
  refine zNd (zXj (L := pkL) (K := pkK) (b := 4) (m := 2) (since := F.length + 1) (ck := F.length + 1) (B := 1) (ckB := ck) (e := { key := .string (mkS p.1), val := .int .i64 (p.2 : Int), born := 0 }) (es := encT F) (esB := encT T) (kt := 9) (et := 3) (by kernel_rfl) (by kernel_rfl) (by kernel_rfl) (by kernel_rfl) (by kernel_rfl) hbe (by kernel_rfl) (by kernel_rfl) (by kernel_rfl) (by kernel_rfl) (by kernel_rfl) (by kernel_rfl) ?_ ?_ ?_ ?_ ?_ ?_ ?_ ?_ (by kernel_rfl)) ?_ ?_ ?_
  ·exact zEi (p :: F)
  ·exact zEi T
  ·exact born_of (p :: F)
  ·exact keys_of (p :: F)
  ·refine aG.2 fun x hx => ?_
   have hx : x ∈ encT (p :: F) := hx
   obtain ⟨q, hq, rfl⟩ := List.mem_map.1 hx
   exact zUt (hf1 q hq).1
  ·exact zKk (F := p :: F) hnd
  ·refine aG.2 fun x hx => ?_
   have hx : x ∈ encT (p :: F) := hx
   obtain ⟨q, _, rfl⟩ := List.mem_map.1 hx
   exact Eq.trans (b := ((decide ((mkS q.1).data.toList = (mkS q.1).data.toList) && (decide (IntKind.i64 = IntKind.i64) && decide ((q.2 : Int) = (q.2 : Int)))) && true)) (by kernel_rfl) (by simp)
  ·refine aG.2 fun x hx => ?_
   have hx : x ∈ encT (p :: F) := hx
   obtain ⟨q, _, rfl⟩ := List.mem_map.1 hx
   exact Eq.trans (b := ((decide ((mkS q.1).data.toList = (mkS q.1).data.toList) && (decide (IntKind.i64 = IntKind.i64) && decide ((q.2 : Int) = (q.2 : Int)))) && true)) (by kernel_rfl) (by simp)
  ·exact aE (by kernel_rfl)
  ·exact all_lt (by kernel_rfl)
  refine ⟨_, _, _, 3, rfl, ⟨by decide, by decide, List.mem_of_elem_eq_true (by kernel_rfl), .inl (List.mem_of_elem_eq_true (by kernel_rfl))⟩, rfl, ?_, ?_⟩
  ·show some (AObj.cells [.map (some 1), .int .i64 (IntKind.i64.wrap ((a : Int) + ((us.length + 1 : Nat) : Int)))] _) = _
   rw [e2]; rfl
  show some (AObj.map (encT T ++ encT (p :: F)) (ck + (encT (p :: F)).length)) = _
  rw [zSx, zSy]
end
def pnE (en : Nat) (a : Int) (s : ByteArray) : Int := if (labels (bs s)).2 ≠ 0 then (labels (bs s)).2 else if a < 0 \/ a > 65535 then 2 else if a < en then 9 else 0
theorem nameE_fn (a : Int) (en : Nat) (T : List (Bl × Nat)) (ck : Nat) (s : ByteArray) (hs : shortB s = true) (he : pnE en a s ≠ 0) :
  ∃ r, FnS Try.prog 0 70 [pt 0, .int .i64 a, .string s] (heap 2 [(0, .cells [.map (some 1), .int .i64 (en : Int)] 98), (1, .map (encT T) ck)]) 2 r /\
   ∃ H m wr, r = .ret (.tuple #[.slice none 0 0, .int .i64 (pnE en a s)]) H m wr /\ ∀ k ∈ wr, 2 <= k := by
 refine zBp mixed tbPk4 [1, 3, 900005, 900006] Try.func70 (c := bodyOf Try.f70) (by kernel_rfl) ?_
 unfold pnE at he ⊢
 refine aI hs ?_
 refine ifK (fun g => ?_) (fun g => ?_)
 ·have g : (labels (bs s)).2 ≠ 0 := by have g : ((labels (bs s)).2 != 0) = true := g; simpa using g
  rw [if_pos g]; exact ⟨_, _, _, rfl, zAu rfl⟩
 have g : (labels (bs s)).2 = 0 := by have g : ((labels (bs s)).2 != 0) = false := g; simpa using g
 rw [if_neg (by simpa using g)] at he ⊢
 refine ifK (fun h1 => ?_) (fun h1 => ?_)
 ·have h1 := oT h1
  rw [if_pos (.inl h1)]; exact ⟨_, _, _, rfl, zAu rfl⟩
 have h1 := oF h1
 refine ifK (fun h2 => ?_) (fun h2 => ?_)
 ·have h2 := oT h2
  rw [if_pos (.inr h2)]; exact ⟨_, _, _, rfl, zAu rfl⟩
 have h2 := oF h2
 rw [if_neg (by omega)] at he ⊢
 refine ifK (fun h3 => ?_) (fun h3 => ?_)
 ·have h3 := oT h3
  rw [if_pos h3]; exact ⟨_, _, _, rfl, zAu rfl⟩
 have h3 := oF h3
 rw [if_neg h3] at he
 exact ab rfl he
theorem zOg : ∀ {T U : List (Bl × Nat)}, encT T = encT U -> T = U
 | [], [], _ => rfl
 | [], _ :: _, h => by cases h
 | _ :: _, [], h => by cases h
 | (a, i) :: T, (b, j) :: U, h => by
  have h : ({ key := Value.string (mkS a), val := .int .i64 (i : Int), born := 0 } : MapEntry) :: encT T = { key := .string (mkS b), val := .int .i64 (j : Int), born := 0 } :: encT U := h
  simp only [aQ, MapEntry.mk.injEq, Value.string.injEq, Value.int.injEq, true_and, and_true] at h
  obtain ⟨⟨h1, h2⟩, h3⟩ := h
  rw [mkS_inj h1, zOg h3, show i = j by omega]
structure PkX where
 pb : Nat
 mb : Nat
 en : Nat
 T : List (Bl × Nat)
 ck : Nat
 a : Int
 s : ByteArray
 er : Bool
 o : Bl
 F : List (Bl × Nat)
theorem zVy {en : Nat} {a : Int} {s : ByteArray} (he : pnE en a s = 0) : ∃ k : Nat, a = (k : Int) /\ k <= 65535 /\ en <= k /\ Nm (bs s) /\ (bs s).length <= 255 /\ mkS (bs s) = s := by
 unfold pnE at he
 have hl : (labels (bs s)).2 = 0 := by
  by_cases h : (labels (bs s)).2 = 0
  ·exact h
  rw [if_pos h] at he; exact ab he h
 rw [if_neg (by simpa using hl)] at he
 have ha : ¬ (a < 0 \/ a > 65535) := fun h => by rw [if_pos h] at he; cases he
 rw [if_neg ha] at he
 have hen : ¬ a < en := fun h => by rw [if_pos h] at he; cases he
 obtain ⟨hB, hlB⟩ := (zCe (bs s)).1 hl
 exact ⟨a.toNat, by omega, by omega, by omega, hB, hlB, by simp [mkS, bs]⟩
def pnR (en : Nat) (T : List (Bl × Nat)) (a : Int) (s : ByteArray) (er : Bool) (o : Bl) (F : List (Bl × Nat)) : Prop := er = decide (pnE en a s ≠ 0) /\ (er = false -> packN T a.toNat (bs s).length (bs s) 0 = (o, F))
theorem pnR.ne {en : Nat} {T : List (Bl × Nat)} {a : Int} {s : ByteArray} {o : Bl} {F : List (Bl × Nat)} (h : pnR en T a s true o F) : pnE en a s ≠ 0 := oT h.1.symm
theorem pnR.eq {en : Nat} {T : List (Bl × Nat)} {a : Int} {s : ByteArray} {o : Bl} {F : List (Bl × Nat)} (h : pnR en T a s false o F) : pnE en a s = 0 := Decidable.not_not.1 (oF h.1.symm)
theorem pnR.uniq {en : Nat} {T : List (Bl × Nat)} {a : Int} {s : ByteArray} {er er' : Bool} {o o' : Bl} {F F' : List (Bl × Nat)} (h : pnR en T a s er o F) (k : pnR en T a s er' o' F') : er = er' /\ (er = false -> o = o' /\ F = F') := by
 obtain ⟨h1, h2⟩ := h
 obtain ⟨k1, k2⟩ := k
 have e : er = er' := h1.trans k1.symm
 subst e
 refine ⟨rfl, fun e => ?_⟩
 have := (h2 e).symm.trans (k2 e)
 simp only [Prod.mk.injEq] at this; exact this
theorem zSp {f : FuncId} {args args0 : List Value} {H H0 H' : Tr AObj} {n m pb mb b e0 ck k : Nat} {wr : List Nat} {T : List (Bl × Nat)} {r : Bl × List (Bl × Nat)} (hF : FnS Try.prog 0 f args0 H0 2 (.ret (.tuple #[sq b r.1.length U, .int .i64 0]) H' m wr))
  (hA : [pb, mb].Nodup) (hcb : CallB Try.prog [pb, mb] H H0) (harg : RL (caR [pb, mb]) args args0) (h2 : H.get pb = some (.cells [.map (some mb), .int .i64 (e0 : Int)] 98)) (h3 : H.get mb = some (.map (encT T) ck)) (hb2 : 2 <= b) (hbJ : b < JJ) (w0 : 0 ∈ wr) (w1 : 1 ∈ wr \/ 1 ∉ wr /\ r.2 = [])
  (g1 : H'.get b = some (.cells (r.1.map byV) 5)) (g2 : H'.get 0 = some (.cells [.map (some 1), .int .i64 ((k + r.1.length : Nat) : Int)] 98)) (g3 : H'.get 1 = some (.map (encT (T ++ r.2)) (ck + r.2.length))) (hw0 : ∀ j, j < 2 -> ∀ o, H0.get j = some o -> ¬ o.isWin) :
  CallOK Try.prog 0 f args H n (.ret (.tuple #[sq n r.1.length U, .int .i64 0]) (((H.set pb (some (.cells [.map (some mb), .int .i64 ((k + r.1.length : Nat) : Int)] 98))).set mb (some (.map (encT (T ++ r.2)) (ck + r.2.length)))).set n (some (.cells (r.1.map byV) 5))) (n + 1) [pb, mb]) := by
 have hne : pb ≠ mb := fun e => by subst e; simp at hA
 refine zCx (A := [pb, mb]) (B := [b]) rfl hF (zDm hA) (ArgOK.of harg) hcb (by simp) (fun x hx => by simp at hx; subst hx; exact ⟨hb2, hbJ⟩) (fun x hx => by simp at hx; subst hx; show H'.get x ≠ none; rw [g1]; simp)
  (.ret _ _ _ _ _ _ _ _ (.tuple _ _ (.cons _ _ _ _ (.sl _ _ _ _ _ (zJd (A := [pb, mb]) hb2)) (.cons _ _ _ _ (.int _ _) .nil)))) rfl ?_ ?_ ?_
 ·refine ⟨Nat.le_succ _, fun j hj hm => ?_, fun h0 => ?_⟩
  ·simp only [aK, List.not_mem_nil, or_false, not_or] at hm
   rw [Tr.get_set_ne _ _ (by omega), Tr.get_set_ne _ _ hm.2, Tr.get_set_ne _ _ hm.1]
  have l1 := h0.lt (k := pb) (by rw [h2]; simp)
  have l2 := h0.lt (k := mb) (by rw [h3]; simp)
  intro j hj
  rw [Tr.get_set_ne _ _ (by omega), Tr.get_set_ne _ _ (by omega), Tr.get_set_ne _ _ (by omega)]
  exact h0 j (by omega)
 ·intro j hj hl
  have hl : j < 2 := hl
  refine ⟨hw0 j hl, fun i hi => ?_⟩
  match j, hi with
  | 0, hi => cases hi; exact ⟨⟨_, h2, fun h => h⟩, by show pb ∈ [pb, mb]; simp⟩
  | 1, hi => cases hi; exact ⟨⟨_, h3, fun h => h⟩, by show mb ∈ [pb, mb]; simp⟩
  | j + 2, _ => omega
 intro j o h
 have h : (((H.set pb (some (.cells [.map (some mb), .int .i64 ((k + r.1.length : Nat) : Int)] 98))).set mb (some (.map (encT (T ++ r.2)) (ck + r.2.length)))).set n (some (.cells (r.1.map byV) 5))).get j = some o := h
 by_cases hjn : j = n
 ·subst hjn
  rw [Tr.get_set_self] at h
  cases h
  exact .inr ⟨b, _, zJd (A := [pb, mb]) hb2, g1, .same (zAb _), fun h => by have h : b < 2 := h; omega⟩
 rw [Tr.get_set_ne _ _ hjn] at h
 by_cases hjm : j = mb
 ·subst hjm
  rw [Tr.get_set_self] at h
  cases h
  rcases w1 with w1 | ⟨w1, hr⟩
  ·exact .inr ⟨1, _, rfl, g3, RO.map _ _ _ (zAl _), fun _ => w1⟩
  refine .inl ⟨by rw [hr, aF]; exact h3, fun i hi hm => ?_⟩
  match i, hi with
  | 0, hi => cases hi; exact hne rfl
  | 1, _ => exact w1 hm
  | i + 2, hi => simp at hi
 rw [Tr.get_set_ne _ _ hjm] at h
 by_cases hjp : j = pb
 ·subst hjp
  rw [Tr.get_set_self] at h
  cases h
  exact .inr ⟨0, _, rfl, g2, RO.cells [_, _] [] _ _ (.cons _ _ _ _ (.map _ _ rfl) (.cons _ _ _ _ (.int _ _) .nil)), fun _ => w0⟩
 rw [Tr.get_set_ne _ _ hjp] at h
 refine .inl ⟨h, fun i hi hm => ?_⟩
 match i, hi with
 | 0, hi => cases hi; exact hjp rfl
 | 1, hi => cases hi; exact hjm rfl
 | i + 2, hi => simp at hi
def PkX.res (x : PkX) (H : Tr AObj) (n : Nat) : Res := match x.er with
 | true => .ret (.tuple #[.slice none 0 0, .int .i64 (pnE x.en x.a x.s)]) H n []
 | false => .ret (.tuple #[sq n x.o.length U, .int .i64 0]) (((H.set x.pb (some (.cells [.map (some x.mb), .int .i64 ((x.a.toNat + x.o.length : Nat) : Int)] 98))).set x.mb (some (.map (encT (x.T ++ x.F)) (x.ck + x.F.length)))).set n (some (.cells (x.o.map byV) 5))) (n + 1) [x.pb, x.mb]
noncomputable def zOc : Ct Try.prog 0 :=
 CtR.ct { f := 70, X := PkX,
          pre := fun x as0 H _ => as0 = [.pointer (some ⟨x.pb, 0, none⟩), .int .i64 x.a, .string x.s] /\ H.get x.pb = some (.cells [.map (some x.mb), .int .i64 (x.en : Int)] 98) /\ H.get x.mb = some (.map (encT x.T) x.ck) /\ goodT x.T /\ shortB x.s = true /\ pnR x.en x.T x.a x.s x.er x.o x.F,
          out := PkX.res,
          tr := fun x H n K => match x.er with
           | true => K (.ret (.tuple #[.slice none 0 0, .int .i64 (pnE x.en x.a x.s)]) H n [])
           | false => frcN x.pb fun pb => frcN x.mb fun mb => K (.ret (.tuple #[sq n x.o.length U, .int .i64 0]) (((H.set pb (some (.cells [.map (some mb), .int .i64 ((x.a.toNat + x.o.length : Nat) : Int)] 98))).set mb (some (.map (encT (x.T ++ x.F)) (x.ck + x.F.length)))).set n (some (.cells (x.o.map byV) 5))) (n + 1) [pb, mb]),
          trOk := fun x H n K h => by
           obtain ⟨pb, mb, en, T, ck, a, s, er, o, F⟩ := x
           cases er with
           | true => exact h
           | false =>
            have h : (frcN pb fun pb => frcN mb fun mb => _) := h
            rw [zDh, zDh] at h
            exact h,
          ok := fun x as0 H n ⟨h1, h2, h3, h4, h5, h6⟩ => by
           subst h1
           obtain ⟨pb, mb, en, T, ck, a, s, er, o, F⟩ := x
           have h2 : H.get pb = some (.cells [.map (some mb), .int .i64 (en : Int)] 98) := h2
           have h3 : H.get mb = some (.map (encT T) ck) := h3
           have h6 : pnR en T a s er o F := h6
           have hne : pb ≠ mb := fun e => by subst e; rw [h2] at h3; cases h3
           have hA : [pb, mb].Nodup := by simp [hne]
           have hro1 : ∀ σ : Nat -> Nat -> Prop, σ mb 1 -> RO Try.prog σ (.cells [.map (some mb), .int .i64 (en : Int)] 98) (.cells [.map (some 1), .int .i64 (en : Int)] 98) := fun σ hσ => RO.cells [_, _] [] _ _ (.cons _ _ _ _ (.map _ _ hσ) (.cons _ _ _ _ (.int _ _) .nil))
           have hcb : CallB Try.prog [pb, mb] H (heap 2 [(0, .cells [.map (some 1), .int .i64 (en : Int)] 98), (1, .map (encT T) ck)]) := zNy ⟨⟨pb, _, rfl, h2, hro1 _ rfl⟩, ⟨mb, _, rfl, h3, RO.map _ _ _ (zAl _)⟩, tv⟩
           have harg : RL (caR [pb, mb]) [pt pb, .int .i64 a, .string s] [pt 0, .int .i64 a, .string s] := .cons _ _ _ _ (.ptr _ _ _ rfl) (.cons _ _ _ _ (.int _ _) (.cons _ _ _ _ (.string _) .nil))
           cases er with
           | true =>
            obtain ⟨r, hF, H', m, wr, rfl, hw⟩ := nameE_fn a en T ck s h5 h6.ne
            show CallOK Try.prog 0 _ _ H n (.ret _ H n [])
            exact zDc [pb, mb] hF hw (zDm hA) harg hcb rfl
           | false =>
            obtain ⟨k, rfl, hk, hen, hB, hlB, es⟩ := zVy h6.eq
            obtain ⟨r, hF, H', m, wr, b, rfl, ⟨hb2, hbJ, w0, w1⟩, g1, g2, g3⟩ := name_fn k en T ck (bs s) hk hen h4 hB hlB
            rw [es] at hF
            have ek := h6.2 rfl
            rw [aO] at ek
            rw [ek] at hF w1 g1 g2 g3
            exact zSp (r := (o, F)) hF hA hcb harg h2 h3 hb2 hbJ w0 w1 g1 g2 g3 (fun j hj o ho => by
             match j, hj, ho with
             | 0, _, ho => have ho : some (AObj.cells _ _) = some o := ho; cases ho; exact fun h => h
             | 1, _, ho => have ho : some (AObj.map _ _) = some o := ho; cases ho; exact fun h => h),
          uniq := fun x y as0 H n ⟨h1, h2, h3, _, _, h6⟩ ⟨k1, k2, k3, _, _, k6⟩ => by
           obtain ⟨pb, mb, en, T, ck, a, s, er, o, F⟩ := x
           obtain ⟨pb', mb', en', T', ck', a', s', er', o', F'⟩ := y
           rw [h1] at k1
           simp only [aQ, Value.pointer.injEq, aP, Addr.mk.injEq, and_true, Value.int.injEq, true_and, Value.string.injEq] at k1
           obtain ⟨rfl, rfl, rfl⟩ := k1
           have h2 : H.get pb = some (.cells [.map (some mb), .int .i64 (en : Int)] 98) := h2
           have k2 : H.get pb = some (.cells [.map (some mb'), .int .i64 (en' : Int)] 98) := k2
           rw [h2] at k2
           simp only [aP, AObj.cells.injEq, aQ, Value.map.injEq, Value.int.injEq, true_and, and_true] at k2
           obtain ⟨rfl, e⟩ := k2
           have e : en = en' := by omega
           subst e
           have h3 : H.get mb = some (.map (encT T) ck) := h3
           have k3 : H.get mb = some (.map (encT T') ck') := k3
           rw [h3] at k3
           simp only [aP, AObj.map.injEq] at k3
           obtain ⟨e1, rfl⟩ := k3
           have := zOg e1
           subst this
           obtain ⟨rfl, e⟩ := pnR.uniq h6 k6
           cases er with
           | true => rfl
           | false => obtain ⟨rfl, rfl⟩ := e rfl; rfl }
theorem zIu (T : List (Bl × Nat)) (a : Nat) : ∀ (f : Nat) (t : Bl) (o : Nat), (packN T a f t o).2.length <= (packN T a f t o).1.length
 | 0, _, _ => aJ _
 | f + 1, t, o => by
  unfold packN
  by_cases hc : (t.getD 0 0).toNat = 0
  ·simp only [if_pos hc]; simp
  simp only [if_neg hc]
  cases lookT T t with
  | some k => simp
  | none =>
   have ih := zIu T a f (t.drop ((t.getD 0 0).toNat + 1)) (o + (t.getD 0 0).toNat + 1)
   cases t with
   | nil => exact ab rfl hc
   | cons x t =>
    simp only [aB]
    split <;> simp only [aC, aU] <;> omega
theorem zPb (T : List (Bl × Nat)) (a f : Nat) (t : Bl) (o : Nat) (hf : 0 < f) : (packN T a f t o).1 ≠ [] := by
 obtain ⟨f, rfl⟩ : ∃ g, f = g + 1 := ⟨f - 1, by omega⟩
 unfold packN
 by_cases hc : (t.getD 0 0).toNat = 0
 ·simp only [if_pos hc]; simp
 simp only [if_neg hc]
 cases lookT T t with
 | some k => simp
 | none =>
  cases t with
  | nil => exact ab rfl hc
  | cons x t => simp
theorem zEh {T : List (Bl × Nat)} (hT : goodT T) (a f : Nat) (t : Bl) (o : Nat) : goodT (T ++ (packN T a f t o).2) := by
 obtain ⟨h1, h2⟩ := zHe T a f t o
 refine ⟨?_, fun p hp => ?_⟩
 ·rw [List.map_append, List.nodup_append]
  refine ⟨hT.1, h2, fun x hx y hy e => ?_⟩
  subst e
  obtain ⟨q, hq, rfl⟩ := List.mem_map.1 hy
  exact zEe.1 (h1 q hq).1 hx
 rcases List.mem_append.1 hp with h | h
 ·exact hT.2 p h
 exact (h1 p h).2.2
theorem zCv (T : List (Bl × Nat)) (a : Nat) : ∀ (f : Nat) (t : Bl) (o : Nat), (packN T a f t o).1.length <= t.length + 2
 | 0, _, _ => by simp [packN]
 | f + 1, t, o => by
  unfold packN
  by_cases hc : (t.getD 0 0).toNat = 0
  ·simp only [hc, if_true]; simp
  simp only [hc, if_false]
  cases hl : lookT T t with
  | some k => simp
  | none =>
   have ih := zCv T a f (t.drop ((t.getD 0 0).toNat + 1)) (o + (t.getD 0 0).toNat + 1)
   simp only [aB, aU, aM] at ih ⊢
   omega
def wrN (a : Int) (T : List (Bl × Nat)) : List (Bs × Bool) -> Bl -> List (Bl × Nat) -> Nat -> Int × Bl × List (Bl × Nat) × Nat
 | [], out, F, en => (0, out, F, en)
 | (s, false) :: ps, out, F, en => wrN a T ps (out ++ s) F en
 | (s, true) :: ps, out, F, en =>
  let at' := IntKind.i64.wrap (a + (out.length : Int))
  if pnE en at' (mkS s) ≠ 0 then (pnE en at' (mkS s), [], F, en)
  else let r := packN (T ++ F) at'.toNat s.length s 0
   wrN a T ps (out ++ r.1) (F ++ r.2) (at'.toNat + r.1.length)
def pcsD (t : Int) (l : Bs) : List (Bs × Bool) := match ptsT t with | none => [(l, false)] | some _ => outP t l
def wrD (en : Nat) (T : List (Bl × Nat)) (a t : Int) (l : Bs) : Int × Bl × List (Bl × Nat) × Nat :=
 if checkD t l ≠ 0 then (checkD t l, [], [], en) else wrN a T (pcsD t l) [] [] en
theorem zPq (a : Int) {T : List (Bl × Nat)} : ∀ (ps : List (Bs × Bool)) (out : Bl) (F : List (Bl × Nat)) (en : Nat), goodT (T ++ F) -> goodT (T ++ (wrN a T ps out F en).2.2.1)
 | [], _, _, _, h => h
 | (s, false) :: ps, out, F, en, h => by unfold wrN; exact zPq a ps _ _ _ h
 | (s, true) :: ps, out, F, en, h => by
  unfold wrN
  simp only []
  split
  ·exact h
  refine zPq a ps _ _ _ ?_
  rw [<- aN]
  exact zEh h _ _ _ _
theorem zWk {en : Nat} {T : List (Bl × Nat)} {a t : Int} {l : Bs} (h : goodT T) : goodT (T ++ (wrD en T a t l).2.2.1) := by
 unfold wrD
 split
 ·simpa using h
 exact zPq a _ _ _ _ (by simpa using h)
theorem zHf {en : Nat} {a : Int} {s : ByteArray} (h : pnE en a s = 0) : (0 <= a /\ a <= 65535) /\ en <= a /\ (labels (bs s)).2 = 0 /\ (bs s).length <= 255 := by
 obtain ⟨k, rfl, h1, h2, h3, h4, _⟩ := zVy h
 exact ⟨⟨by omega, by omega⟩, by omega, (zCe _).2 ⟨h3, h4⟩, h4⟩
theorem zUj (a : Int) {T : List (Bl × Nat)} : ∀ (ps : List (Bs × Bool)) (out : Bl) (F : List (Bl × Nat)) (en : Nat), (∀ s, (s, true) ∈ ps -> s.length <= 255) ->
  (wrN a T ps out F en).2.1.length <= out.length + sumL ps + 2 * ps.length /\ (wrN a T ps out F en).2.2.1.length <= F.length + 257 * ps.length /\ ((wrN a T ps out F en).2.2.2 <= en \/ (wrN a T ps out F en).2.2.2 <= 65792)
 | [], _, _, _, _ => ⟨by simp [wrN, sumL], by simp [wrN], .inl (aJ _)⟩
 | (s, false) :: ps, out, F, en, h => by
  unfold wrN
  obtain ⟨h1, h2, h3⟩ := zUj a (T := T) ps (out ++ s) F en (fun s hs => h s (List.mem_cons_of_mem _ hs))
  refine ⟨?_, by simp only [aC]; omega, h3⟩
  simp only [sumL, List.flatMap_cons, aB, aC] at h1 ⊢; omega
 | (s, true) :: ps, out, F, en, h => by
  unfold wrN
  simp only []
  have hs := h s (List.mem_cons_self ..)
  split
  ·exact ⟨by simp, by simp, .inl (aJ _)⟩
  rename_i he
  have hp := zHf (Decidable.not_not.1 he)
  obtain ⟨r, hr⟩ : ∃ r, packN (T ++ F) (IntKind.i64.wrap (a + (out.length : Int))).toNat s.length s 0 = r := ⟨_, rfl⟩
  have l1 := zCv (T ++ F) (IntKind.i64.wrap (a + (out.length : Int))).toNat s.length s 0
  have l2 := zIu (T ++ F) (IntKind.i64.wrap (a + (out.length : Int))).toNat s.length s 0
  rw [hr] at l1 l2 ⊢
  obtain ⟨h1, h2, h3⟩ := zUj a (T := T) ps (out ++ r.1) (F ++ r.2) ((IntKind.i64.wrap (a + (out.length : Int))).toNat + r.1.length) (fun s hs => h s (List.mem_cons_of_mem _ hs))
  refine ⟨?_, ?_, .inr ?_⟩
  ·simp only [sumL, List.flatMap_cons, aB, aC] at h1 ⊢; omega
  ·simp only [aB, aC] at h2 ⊢; omega
  rcases h3 with h3 | h3
  ·omega
  exact h3
theorem cuts_nm : ∀ (ps : List Pt) (l : Bs) (o : List (Bs × Bool)) (r : Bs), cuts ps l = some (o, r) -> ∀ s, (s, true) ∈ o -> (labels s).2 = 0 /\ s.length <= 255
 | [], l, o, r, h, s, hs => by simp only [cuts, aP, Prod.mk.injEq] at h; obtain ⟨rfl, _⟩ := h; cases hs
 | p :: ps, l, o, r, h, s, hs => by
  simp only [cuts] at h
  cases hc : p.cut l with
  | none => rw [hc] at h; cases h
  | some n =>
   rw [hc] at h
   simp only [] at h
   obtain ⟨⟨o', r'⟩, h1, h2⟩ := Option.map_eq_some_iff.1 h
   simp only [Prod.mk.injEq] at h2
   obtain ⟨rfl, rfl⟩ := h2
   rcases aK.1 hs with e | e
   ·simp only [Prod.mk.injEq] at e
    obtain ⟨rfl, e2⟩ := e
    cases p with
    | nm =>
     obtain ⟨_, k2, k3, k4⟩ := zNa hc
     exact ⟨k4, by omega⟩
    | rest => cases e2
    | sz k => cases e2
   exact cuts_nm ps _ _ _ h1 s e
theorem zLm {t : Int} {l : Bs} (h : checkD t l = 0) : (∀ s, (s, true) ∈ pcsD t l -> (labels s).2 = 0 /\ s.length <= 255) /\ sumL (pcsD t l) = l.length /\ (pcsD t l).length <= 3 /\ l.length <= 65535 := by
 obtain ⟨h1, h2, h3, h4⟩ := zDz h
 unfold pcsD
 cases hp : ptsT t with
 | none => exact ⟨fun s hs => by simp at hs, by simp [sumL], by simp, h3⟩
 | some ps =>
  obtain ⟨o, q1, q2⟩ := zOn hp h4
  have e1 : outP t l = o := by unfold outP; rw [q2]
  obtain ⟨w1, w2⟩ := zOf _ _ _ _ q1
  simp only [e1]
  refine ⟨cuts_nm _ _ _ _ q1, ?_, ?_, h3⟩
  ·unfold sumL; rw [aF] at w2; rw [w2]
  rw [w1]
  rcases zLo hp with ⟨_, ⟨_, h⟩ | h⟩
  ·exact h
  rw [h]; decide
noncomputable def tbWr : Tb Try.prog 0 := tbOf mixed [zOc, zIo, zUy]
theorem zLy {G : Gh} {b c sz : Nat} {l : Bl} (hs : sz = 1) (hG : (G b).bind AObj.look = some (l.map byV)) : zAo G sz (sq b l.length c) = some (l.length, l.map byV) := by
 subst hs
 unfold zAo
 cases hl : Nat.beq l.length 0 with
 | true =>
  have : l = [] := List.length_eq_zero_iff.1 (aA hl)
  subst this
  simp [hl]
 | false =>
  simp only [hl, cF, hG]
  rw [show (0 + l.length * 1).ble (l.map byV).length = true from bL (by simp)]
  simp only [cT, List.drop_zero, aR]
  rw [aD (by simp)]
theorem oneB (l : Bl) : oneL (l.map byV) = true := by
 induction l with
 | nil => rfl
 | cons x l ih =>
  unfold oneL at ih ⊢
  rw [List.map_cons, List.all_cons, ih]; rfl
theorem map_ro {σ : Nat -> Nat -> Prop} (T F G : List (Bl × Nat)) (ck : Nat) : RO Try.prog σ (.map (encT ((T ++ F) ++ G)) (ck + F.length + G.length)) (.map (encT (T ++ (F ++ G))) (ck + (F ++ G).length)) := by
 rw [<- aN, aB, <- Nat.add_assoc]; exact RO.map _ _ _ (zAl _)
theorem zAy {σ : Nat -> Nat -> Prop} (b b' : Nat) (h : σ b b') (en : Nat) : RO Try.prog σ (.cells [.map (some b), .int .i64 (en : Int)] 98) (.cells [.map (some b'), .int .i64 (en : Int)] 98) := RO.cells [_, _] [] _ _ (.cons _ _ _ _ (.map _ _ h) (.cons _ _ _ _ (.int _ _) .nil))
def wrE (a : Int) (ps : List (Bs × Bool)) (c : Nat) (T : List (Bl × Nat)) (ck : Nat) (i : Nat) (out : Bl) (F : List (Bl × Nat)) (en : Nat) (f : Nat -> Option Value) : Fs := match out with
 | [] => ⟨slots 7 [(0, pt 0), (1, .int .i64 a), (15, .slice none 0 0), (40, sq 2 ps.length c), (41, .int .i64 ps.length), (42, .int .i64 (i : Int))] f, heap 3 [(0, .cells [.map (some 1), .int .i64 (en : Int)] 98), (1, .map (encT (T ++ F)) (ck + F.length)), (2, .cells (ps.flatMap pc) 127)], 3, [0, 1], []⟩
 | u :: us => ⟨slots 7 [(0, pt 0), (1, .int .i64 a), (15, sq 3 (us.length + 1) U), (40, sq 2 ps.length c), (41, .int .i64 ps.length), (42, .int .i64 (i : Int))] f, heap 3 [(0, .cells [.map (some 1), .int .i64 (en : Int)] 98), (1, .map (encT (T ++ F)) (ck + F.length)), (2, .cells (ps.flatMap pc) 127), (3, .cells ((u :: us).map byV) 5)], 4, [0, 1], []⟩
def wrpS (a : Int) (ps : List (Bs × Bool)) (c : Nat) (T : List (Bl × Nat)) (ck : Nat) (x : Nat × Bl × List (Bl × Nat) × Nat) (f : Nat -> Option Value) : Fs := wrE a ps c T ck x.1 x.2.1 x.2.2.1 x.2.2.2 f
theorem wr_loop (a : Int) (ps : List (Bs × Bool)) (c : Nat) (T : List (Bl × Nat)) (ck en0 : Nat) (hT : goodT T) (hps : ∀ p ∈ ps, p.1.length <= 65535) (hl : ps.length <= 1000) (R : Int × Bl × List (Bl × Nat) × Nat) (hR : wrN a T ps [] [] en0 = R) {s0 : Fs} {K : Ex -> Fs -> Prop}
  (h0 : ∃ f, RcM Try.prog 0 2 (4 + (Try.f73.ntmps - 4)) none s0 (wrpS a ps c T ck (0, [], [], en0) f))
  (hex : ∀ out F en f, R = (0, out, F, en) -> out.length <= 100000000 -> K (.exit 0) (wrE a ps c T ck ps.length out F en f))
  (hret : ∀ (e : Int) (F : List (Bl × Nat)) (en : Nat) f, e ≠ 0 -> R = (e, [], F, en) -> K .ret ⟨slots 7 [(8, .slice none 0 0), (9, .int .i64 e)] f, heap 3 [(0, .cells [.map (some 1), .int .i64 (en : Int)] 98), (1, .map (encT (T ++ F)) (ck + F.length))], 2, [0, 1], []⟩) :
  LW Try.prog 0 2 (4 + (Try.f73.ntmps - 4)) none (loopAt Try.f73 0) s0 K := by
 have h1s : (Try.prog.types[5]).size = 1 := by kernel_rfl
 have hby : (Try.prog.types[5]).bytes = 1 := by kernel_rfl
 have h2s : (Try.prog.types[127]).size = 2 := by kernel_rfl
 have pP : plainL (ps.flatMap pc) = true := zAe _ zCz ps
 refine zAr (wrpS a ps c T ck) (fun x => ps.length - x.1) (fun x => x.1 <= ps.length /\ goodT (T ++ x.2.2.1) /\ x.2.1.length <= 70000 * x.1 /\ wrN a T (ps.drop x.1) x.2.1 x.2.2.1 x.2.2.2 = R) (0, [], [], en0) ⟨aH _, by rw [aF]; exact hT, aJ _, by rw [List.drop_zero]; exact hR⟩ h0 ?_
 rintro ⟨i, out, F, en⟩ f ⟨hi, hg, hol, hR⟩
 have hi : i <= ps.length := hi
 have hg : goodT (T ++ F) := hg
 have hol : out.length <= 70000 * i := hol
 have hR : wrN a T (ps.drop i) out F en = R := hR
 have hend : ¬ i < ps.length -> i = ps.length /\ R = (0, out, F, en) := fun h => by
  have e : i = ps.length := by omega
  rw [e, List.drop_length] at hR
  exact ⟨e, hR.symm⟩
 have step : ∀ (h : i < ps.length) (s : Bs) (b : Bool), ps[i] = (s, b) -> wrN a T ((s, b) :: ps.drop (i + 1)) out F en = R /\ s.length <= 65535 /\ ((ps.flatMap pc).drop (i * 2)).take 2 = [.string (mkS s), .bool b] := fun h s b e => by
  refine ⟨by rw [<- e, <- bD h]; exact hR, ?_, ?_⟩
  ·have := hps _ (aV h)
   rw [e] at this; exact this
  have := (zIq pc 2 zJo ps i h).2
  rw [e] at this; exact this
 have ldOK : ∀ (h : i < ps.length), 0 + ((i : Int)).toNat * (Try.prog.types[127]).size + (Try.prog.types[127]).size <= (ps.flatMap pc).length := fun h => by
  rw [h2s, aO, aS]; exact (zIq pc 2 zJo ps i h).1
 have hdrop : ∀ s b, wrN a T ((s, b) :: ps.drop (i + 1)) out F en = wrN a T ((s, b) :: ps.drop (i + 1)) out F en := fun _ _ => rfl
 cases out with
 | nil =>
  refine zAt tbWr [2, 4] 2 _ none mixed _ _ _ ?_
  refine ifK (fun h1 => ?_) (fun h1 => ?_)
  ·have h1 : i < ps.length := by have := oT h1; omega
   obtain ⟨s, b, hp⟩ : ∃ s b, ps[i] = (s, b) := ⟨_, _, rfl⟩
   obtain ⟨hR, hsl, hat⟩ := step h1 s b hp
   refine ifK (fun _ => ?_) (fun h2 => ab h2 (by simp [inI]; omega))
   have hat2 : ((ps.flatMap pc).drop (0 + ((i : Int)).toNat * (Try.prog.types[127]).size)).take (Try.prog.types[127]).size = [.string (mkS s), .bool b] := by rw [h2s, aO, aS]; exact hat
   cases b with
   | false =>
    unfold wrN at hR
    refine eI (mkS s) (eI false (aI ⟨ldOK h1, hat2⟩ ?_))
    cases s with
    | nil =>
     refine ⟨(i + 1, [], F, en), ⟨h1, hg, by show 0 <= _; omega, by show wrN a T (ps.drop (i + 1)) _ F en = R; rw [aF] at hR; exact hR⟩, by show ps.length - (i + 1) < ps.length - i; omega, ?_⟩
     exact rcq [2] ⟨(sP rfl rfl), (sI rfl), ⟨_, rfl, zAm 8 rfl⟩, (sL rfl rfl), (sI rfl), zAc rfl (by rw [wrapN (by omega) (by omega)]; omega), tv⟩ ⟨⟨by decide, _, rfl, zAy 1 1 (by exact rfl) en⟩, ⟨by decide, _, rfl, RO.map _ _ _ (zAl _)⟩, bpo (pP), tv⟩ .nil
    | cons x s =>
     refine aI (by rw [hby, bA]; exact ⟨aX (show (x :: s).length * 1 <= 140737488355328 by omega), aX (show (x :: s).length <= 9223372036854775807 by omega)⟩) ?_
     refine ⟨(i + 1, x :: s, F, en), ⟨h1, hg, by show (x :: s).length <= _; omega, by show wrN a T (ps.drop (i + 1)) (x :: s) F en = R; exact hR⟩, by show ps.length - (i + 1) < ps.length - i; omega, ?_⟩
     exact rcq [2, 4] ⟨(sP rfl rfl), (sI rfl), (sL rfl rfl), (sL rfl rfl), (sI rfl), zAc rfl (by rw [wrapN (by omega) (by omega)]; omega), tv⟩ ⟨⟨by decide, _, rfl, zAy 1 1 (by exact rfl) en⟩, ⟨by decide, _, rfl, RO.map _ _ _ (zAl _)⟩, bpo (pP), bpo (zAb (x :: s)), tv⟩ .nil
   | true =>
    obtain ⟨a', ha'⟩ : ∃ a', a' = IntKind.i64.wrap (a + ((0 : Nat) : Int)) := ⟨_, rfl⟩
    unfold wrN at hR
    simp only [show (List.length ([] : Bl)) = 0 from rfl, <- ha'] at hR
    have hsh : shortB (mkS s) = true := by unfold shortB; rw [zEz]; exact bL (by omega)
    refine eI (mkS s) (eI true (aI ⟨ldOK h1, hat2⟩ ?_))
    by_cases he : pnE en a' (mkS s) ≠ 0
    ·rw [if_pos he] at hR
     refine eI (⟨0, 1, en, T ++ F, ck + F.length, a', mkS s, true, [], []⟩ : PkX) (aI ⟨(by rw [ha'] <;> rfl), (show Tr.get _ 0 = some (AObj.cells [.map (some 1), .int .i64 (en : Int)] _) from rfl), (show Tr.get _ 1 = some (AObj.map (encT (T ++ F)) (ck + F.length)) from rfl), hg, hsh, (aX he).symm, fun h => by cases h⟩ ?_)
     refine ifK (fun _ => ?_) (fun g => ab (show pnE en a' (mkS s) = 0 by have g : (pnE en a' (mkS s) != 0) = false := g; simpa using g) he)
     refine aI rfl (zAj (rcq [] (d := 7) (d2 := 3) (lv := [(8, .slice none 0 0), (9, .int .i64 (pnE en a' (mkS s)))]) (bs := [(0, .cells [.map (some 1), .int .i64 (en : Int)] 98), (1, .map (encT (T ++ F)) (ck + F.length))]) (W := [0, 1]) (m := 2) (df := []) ⟨⟨_, rfl, zAm 8 rfl⟩, (sI rfl), tv⟩ ⟨⟨by decide, _, rfl, zAy 1 1 (by exact rfl) en⟩, ⟨by decide, _, rfl, RO.map _ _ _ (zAl _)⟩, tv⟩ .nil) (fun f => ?_))
     exact hret _ F en f he hR.symm
    rw [if_neg he] at hR
    have he : pnE en a' (mkS s) = 0 := Decidable.not_not.1 he
    have eb : bs (mkS s) = s := by simp [bs, mkS]
    obtain ⟨⟨p1, p2⟩, p3, p4, p5⟩ := zHf he
    rw [eb] at p4 p5
    have hpos := ((zCe s).1 p4).1.pos
    obtain ⟨r, hr⟩ : ∃ r, packN (T ++ F) a'.toNat s.length s 0 = r := ⟨_, rfl⟩
    have hne := zPb (T ++ F) a'.toNat s.length s 0 hpos
    have hl1 := zCv (T ++ F) a'.toNat s.length s 0
    have hgd := zEh hg a'.toNat s.length s 0
    rw [hr] at hne hl1 hgd hR
    obtain ⟨o, F'⟩ := r
    cases o with
    | nil => exact ab rfl hne
    | cons v vs =>
     have hvl : vs.length + 1 <= s.length + 2 := hl1
     refine eI (⟨0, 1, en, T ++ F, ck + F.length, a', mkS s, false, v :: vs, F'⟩ : PkX) (aI ⟨(by rw [ha'] <;> rfl), (show Tr.get _ 0 = some (AObj.cells [.map (some 1), .int .i64 (en : Int)] _) from rfl), (show Tr.get _ 1 = some (AObj.map (encT (T ++ F)) (ck + F.length)) from rfl), hg, hsh, (aY (aL he)).symm, fun _ => by rw [eb]; exact hr⟩ ?_)
     refine eI ((v :: vs).map byV) (aI (zLy (l := v :: vs) h1s rfl) ?_)
     refine aI (by rw [hby]; simp only [bA]; exact ⟨aX (by simp; omega), aX (by simp; omega)⟩) ?_
     refine ⟨(i + 1, v :: vs, F ++ F', a'.toNat + (vs.length + 1)), ⟨h1, by rw [<- aN]; exact hgd, by show (v :: vs).length <= _; simp; omega, by show wrN a T (ps.drop (i + 1)) _ _ _ = R; exact hR⟩, by show ps.length - (i + 1) < ps.length - i; omega, ?_⟩
     exact rcq [2, 5] ⟨(sP rfl rfl), (sI rfl), (sL rfl rfl), (sL rfl rfl), (sI rfl), zAc rfl (by rw [wrapN (by omega) (by omega)]; omega), tv⟩ ⟨⟨by decide, _, rfl, zAy 1 1 (by exact rfl) _⟩, ⟨by decide, _, rfl, map_ro T F F' ck⟩, bpo (pP), bpo (zAb (v :: vs)), tv⟩ .nil
  obtain ⟨e1, e2⟩ := hend (by have := oF h1; omega)
  subst e1
  refine aI rfl (zAj (rcq [2] (d := 7) (d2 := 3) (lv := [(0, pt 0), (1, .int .i64 a), (15, .slice none 0 0), (40, sq 2 ps.length c), (41, .int .i64 ps.length), (42, .int .i64 ps.length)]) (bs := [(0, .cells [.map (some 1), .int .i64 (en : Int)] 98), (1, .map (encT (T ++ F)) (ck + F.length)), (2, .cells (ps.flatMap pc) 127)]) (W := [0, 1]) (m := 3) (df := []) ⟨(sP rfl rfl), (sI rfl), ⟨_, rfl, zAm 8 rfl⟩, (sL rfl rfl), (sI rfl), (sI rfl), tv⟩ ⟨⟨by decide, _, rfl, zAy 1 1 (by exact rfl) en⟩, ⟨by decide, _, rfl, RO.map _ _ _ (zAl _)⟩, bpo (pP), tv⟩ .nil) (fun f => ?_))
  exact hex _ F en f e2 (by first | (show us.length + 1 <= _; have := hl; have := hol; omega) | simp)
 | cons u us =>
  have hol : us.length + 1 <= 70000 * i := hol
  refine zAt tbWr [2, 5] 2 _ none mixed _ _ _ ?_
  refine ifK (fun h1 => ?_) (fun h1 => ?_)
  ·have h1 : i < ps.length := by have := oT h1; omega
   obtain ⟨s, b, hp⟩ : ∃ s b, ps[i] = (s, b) := ⟨_, _, rfl⟩
   obtain ⟨hR, hsl, hat⟩ := step h1 s b hp
   refine ifK (fun _ => ?_) (fun h2 => ab h2 (by simp [inI]; omega))
   have hat2 : ((ps.flatMap pc).drop (0 + ((i : Int)).toNat * (Try.prog.types[127]).size)).take (Try.prog.types[127]).size = [.string (mkS s), .bool b] := by rw [h2s, aO, aS]; exact hat
   cases b with
   | false =>
    unfold wrN at hR
    refine eI (mkS s) (eI false (aI ⟨ldOK h1, hat2⟩ ?_))
    cases s with
    | nil =>
     refine ⟨(i + 1, u :: us, F, en), ⟨h1, hg, by show us.length + 1 <= _; omega, by show wrN a T (ps.drop (i + 1)) _ F en = R; rw [aF] at hR; exact hR⟩, by show ps.length - (i + 1) < ps.length - i; omega, ?_⟩
     exact rcq [2, 3] ⟨(sP rfl rfl), (sI rfl), (sL rfl rfl), (sL rfl rfl), (sI rfl), zAc rfl (by rw [wrapN (by omega) (by omega)]; omega), tv⟩ ⟨⟨by decide, _, rfl, zAy 1 1 (by exact rfl) en⟩, ⟨by decide, _, rfl, RO.map _ _ _ (zAl _)⟩, bpo (pP), bpo (zAb (u :: us)), tv⟩ .nil
    | cons x s =>
     have hone : oneL ((x :: s).map byV) = true := oneB _
     have hsl : s.length + 1 <= 65535 := hsl
     refine aI (by rw [h1s, hby]; simp only [bA, dT]; exact ⟨⟨⟨⟨⟨⟨rfl, rfl⟩, bL (by simp)⟩, hone⟩, (show (us.length + 1 + (s.length + 1)) * 1 <= 140737488355328 by omega)⟩, (show us.length + 1 + (s.length + 1) <= 9223372036854775807 by omega)⟩, bL (by simp [mkS] <;> omega)⟩) ?_
     refine ⟨(i + 1, u :: (us ++ x :: s), F, en), ⟨h1, hg, by show (u :: (us ++ x :: s)).length <= _; simp at hsl ⊢; omega, by show wrN a T (ps.drop (i + 1)) _ F en = R; exact hR⟩, by show ps.length - (i + 1) < ps.length - i; omega, ?_⟩
     have ec : (List.take ((us.length + 1) * 1) (byV u :: us.map byV)) ++ (x :: s).map byV = (u :: (us ++ x :: s)).map byV := by rw [aR, aD (by simp)]; simp
     have el : us.length + 1 + (x :: s).length = (us ++ x :: s).length + 1 := by simp; omega
     exact rcq [2, 5] ⟨(sP rfl rfl), (sI rfl), ⟨_, rfl, by show RV _ (.slice _ (us.length + 1 + (x :: s).length) U) _; rw [el]; exact .sl _ _ _ _ _ rfl⟩, (sL rfl rfl), (sI rfl), zAc rfl (by rw [wrapN (by omega) (by omega)]; omega), tv⟩ ⟨⟨by decide, _, rfl, zAy 1 1 (by exact rfl) en⟩, ⟨by decide, _, rfl, RO.map _ _ _ (zAl _)⟩, bpo (pP), ⟨by decide, _, rfl, zAv (by rw [<- ec]; rfl) (zAb _)⟩, tv⟩ .nil
   | true =>
    obtain ⟨a', ha'⟩ : ∃ a', a' = IntKind.i64.wrap (a + (((us.length + 1) : Nat) : Int)) := ⟨_, rfl⟩
    unfold wrN at hR
    simp only [show (List.length (u :: us)) = (us.length + 1) from rfl, <- ha'] at hR
    have hsh : shortB (mkS s) = true := by unfold shortB; rw [zEz]; exact bL (by omega)
    refine eI (mkS s) (eI true (aI ⟨ldOK h1, hat2⟩ ?_))
    by_cases he : pnE en a' (mkS s) ≠ 0
    ·rw [if_pos he] at hR
     refine eI (⟨0, 1, en, T ++ F, ck + F.length, a', mkS s, true, [], []⟩ : PkX) (aI ⟨(by rw [ha'] <;> rfl), (show Tr.get _ 0 = some (AObj.cells [.map (some 1), .int .i64 (en : Int)] _) from rfl), (show Tr.get _ 1 = some (AObj.map (encT (T ++ F)) (ck + F.length)) from rfl), hg, hsh, (aX he).symm, fun h => by cases h⟩ ?_)
     refine ifK (fun _ => ?_) (fun g => ab (show pnE en a' (mkS s) = 0 by have g : (pnE en a' (mkS s) != 0) = false := g; simpa using g) he)
     refine aI rfl (zAj (rcq [] (d := 7) (d2 := 3) (lv := [(8, .slice none 0 0), (9, .int .i64 (pnE en a' (mkS s)))]) (bs := [(0, .cells [.map (some 1), .int .i64 (en : Int)] 98), (1, .map (encT (T ++ F)) (ck + F.length))]) (W := [0, 1]) (m := 2) (df := []) ⟨⟨_, rfl, zAm 8 rfl⟩, (sI rfl), tv⟩ ⟨⟨by decide, _, rfl, zAy 1 1 (by exact rfl) en⟩, ⟨by decide, _, rfl, RO.map _ _ _ (zAl _)⟩, tv⟩ .nil) (fun f => ?_))
     exact hret _ F en f he hR.symm
    rw [if_neg he] at hR
    have he : pnE en a' (mkS s) = 0 := Decidable.not_not.1 he
    have eb : bs (mkS s) = s := by simp [bs, mkS]
    obtain ⟨⟨p1, p2⟩, p3, p4, p5⟩ := zHf he
    rw [eb] at p4 p5
    have hpos := ((zCe s).1 p4).1.pos
    obtain ⟨r, hr⟩ : ∃ r, packN (T ++ F) a'.toNat s.length s 0 = r := ⟨_, rfl⟩
    have hne := zPb (T ++ F) a'.toNat s.length s 0 hpos
    have hl1 := zCv (T ++ F) a'.toNat s.length s 0
    have hgd := zEh hg a'.toNat s.length s 0
    rw [hr] at hne hl1 hgd hR
    obtain ⟨o, F'⟩ := r
    cases o with
    | nil => exact ab rfl hne
    | cons v vs =>
     have hvl : vs.length + 1 <= s.length + 2 := hl1
     refine eI (⟨0, 1, en, T ++ F, ck + F.length, a', mkS s, false, v :: vs, F'⟩ : PkX) (aI ⟨(by rw [ha'] <;> rfl), (show Tr.get _ 0 = some (AObj.cells [.map (some 1), .int .i64 (en : Int)] _) from rfl), (show Tr.get _ 1 = some (AObj.map (encT (T ++ F)) (ck + F.length)) from rfl), hg, hsh, (aY (aL he)).symm, fun _ => by rw [eb]; exact hr⟩ ?_)
     refine eI ((v :: vs).map byV) (aI (zLy (l := v :: vs) h1s rfl) ?_)
     have hone : oneL ((v :: vs).map byV) = true := oneB _
     refine aI (by rw [h1s, hby]; simp only [bA, dT]; exact ⟨⟨⟨⟨⟨⟨rfl, rfl⟩, bL (by simp)⟩, hone⟩, (by simp; omega)⟩, (by simp; omega)⟩, bL (by simp <;> omega)⟩) ?_
     have ec : (List.take ((us.length + 1) * 1) (byV u :: us.map byV)) ++ (v :: vs).map byV = (u :: (us ++ v :: vs)).map byV := by rw [aR, aD (by simp)]; simp
     have el : us.length + 1 + (v :: vs).length = (us ++ v :: vs).length + 1 := by simp; omega
     refine ⟨(i + 1, u :: (us ++ v :: vs), F ++ F', a'.toNat + (vs.length + 1)), ⟨h1, by rw [<- aN]; exact hgd, by show (u :: (us ++ v :: vs)).length <= _; simp; omega, by show wrN a T (ps.drop (i + 1)) _ _ _ = R; exact hR⟩, by show ps.length - (i + 1) < ps.length - i; omega, ?_⟩
     exact rcq [2, 6] ⟨(sP rfl rfl), (sI rfl), ⟨_, rfl, by show RV _ (.slice _ (us.length + 1 + (v :: vs).length) U) _; rw [el]; exact .sl _ _ _ _ _ rfl⟩, (sL rfl rfl), (sI rfl), zAc rfl (by rw [wrapN (by omega) (by omega)]; omega), tv⟩ ⟨⟨by decide, _, rfl, zAy 1 1 (by exact rfl) _⟩, ⟨by decide, _, rfl, map_ro T F F' ck⟩, bpo (pP), ⟨by decide, _, rfl, zAv (by rw [<- ec]; rfl) (zAb _)⟩, tv⟩ .nil
  obtain ⟨e1, e2⟩ := hend (by have := oF h1; omega)
  subst e1
  refine aI rfl (zAj (rcq [2, 3] (d := 7) (d2 := 3) (lv := [(0, pt 0), (1, .int .i64 a), (15, sq 3 (us.length + 1) U), (40, sq 2 ps.length c), (41, .int .i64 ps.length), (42, .int .i64 ps.length)]) (bs := [(0, .cells [.map (some 1), .int .i64 (en : Int)] 98), (1, .map (encT (T ++ F)) (ck + F.length)), (2, .cells (ps.flatMap pc) 127), (3, .cells ((u :: us).map byV) 5)]) (W := [0, 1]) (m := 4) (df := []) ⟨(sP rfl rfl), (sI rfl), (sL rfl rfl), (sL rfl rfl), (sI rfl), (sI rfl), tv⟩ ⟨⟨by decide, _, rfl, zAy 1 1 (by exact rfl) en⟩, ⟨by decide, _, rfl, RO.map _ _ _ (zAl _)⟩, bpo (pP), bpo (zAb (u :: us)), tv⟩ .nil) (fun f => ?_))
  exact hex _ F en f e2 (by first | (show us.length + 1 <= _; have := hl; have := hol; omega) | simp)
theorem FnS.wr {f : FuncId} {args : List Value} {H H' : Tr AObj} {n0 n : Nat} {v : Value} {wr : List Nat} (W : List Nat) (h : FnS Try.prog 0 f args H n0 (.ret v H' n wr)) : FnS Try.prog 0 f args H n0 (.ret v H' n (W ++ wr)) := fun E w args' h1 h2 h3 h4 h5 =>
 (h E w args' h1 h2 h3 h4 h5).mono fun e w' ⟨E', v', q1, q2, q3, q4⟩ => ⟨E', v', q1, q2, q3, q4.sub (fun k hk _ => List.mem_append.2 (.inr hk))⟩
def ovN (b : Nat) (o : Bl) : Value := match o with
 | [] => .slice none 0 0
 | _ :: l => sq b (l.length + 1) U
theorem zVx (en : Nat) : pnE en (-1) (mkS [0]) = 2 := by
 unfold pnE
 have h : (labels (bs (mkS [0]))).2 = 0 := (zCe _).2 ⟨.root, by decide⟩
 rw [if_neg (by simpa using h), if_pos (.inl (by decide))]
theorem checkD_no {t : Int} {l : Bs} (h : (checkD t l != 0) = false) : checkD t l = 0 := by simpa using h
theorem write_fn (a t : Int) (s : ByteArray) (en : Nat) (T : List (Bl × Nat)) (ck : Nat) (hT : goodT T) (hs : shortB s = true) (e : Int) (o : Bl) (F : List (Bl × Nat)) (en' : Nat) (hD : wrD en T a t (bs s) = (e, o, F, en')) :
  ∃ r, FnS Try.prog 0 73 [pt 0, .int .i64 a, .int .i64 t, .string s] (heap 2 [(0, .cells [.map (some 1), .int .i64 (en : Int)] 98), (1, .map (encT T) ck)]) 2 r /\
   ∃ H m wr b, r = .ret (.tuple #[ovN b o, .int .i64 e]) H m wr /\ (o ≠ [] -> 2 <= b /\ b < JJ /\ H.get b = some (.cells (o.map byV) 5)) /\ H.get 0 = some (.cells [.map (some 1), .int .i64 (en' : Int)] 98) /\ H.get 1 = some (.map (encT (T ++ F)) (ck + F.length)) := by
 refine zBp mixed tbWr [1] Try.func73 (c := bodyOf Try.f73) (by kernel_rfl) ?_
 have hroot : pnR en T (-1) (mkS [0]) true [] [] := ⟨by rw [zVx]; rfl, fun h => by cases h⟩
 refine eI (⟨0, 1, en, T, ck, -1, mkS [0], true, [], []⟩ : PkX) (aI ⟨rfl, rfl, (show Tr.get _ 1 = some (AObj.map (encT T) ck) from rfl), hT, rfl, hroot⟩ ?_)
 refine aI hs ?_
 unfold wrD at hD
 refine ifK (fun g => ?_) (fun g => ?_)
 ·have g : checkD t (bs s) ≠ 0 := by simpa using g
  rw [if_pos g] at hD
  simp only [Prod.mk.injEq] at hD
  obtain ⟨rfl, rfl, rfl, rfl⟩ := hD
  exact ⟨_, _, _, 0, rfl, fun h => ab rfl h, rfl, by rw [aF]; rfl⟩
 have g := checkD_no g
 rw [if_neg (by simpa using g)] at hD
 obtain ⟨k1, k2, k3, k4⟩ := zLm g
 have hps : ∀ p ∈ pcsD t (bs s), p.1.length <= 65535 := fun p hp => by
  obtain ⟨i, hi, e1⟩ := List.mem_iff_getElem.1 hp
  have := sumL_at _ i hi
  rw [e1] at this; omega
 refine aI hs ?_
 refine ifK (fun g1 => ?_) (fun g1 => ?_)
 ·obtain ⟨ps, hp⟩ := Option.isSome_iff_exists.1 g1
  have hpcs : pcsD t (bs s) = outP t (bs s) := by unfold pcsD; rw [hp]
  rw [hpcs] at hD hps k3
  refine ifK (fun g2 => ?_) (fun g2 => ?_)
  ·refine wr_loop a (outP t (bs s)) U T ck en hT hps (by omega) _ hD (rcq [2] ⟨(sP rfl rfl), (sI rfl), ⟨_, rfl, zAm 8 rfl⟩, (sL rfl rfl), (sI rfl), (sI rfl), tv⟩ ⟨⟨by decide, _, rfl, zAy 1 1 (by exact rfl) en⟩, ⟨by decide, _, rfl, (by show RO Try.prog _ (.map (encT T) ck) (.map (encT (T ++ [])) (ck + 0)); rw [aF]; exact RO.map _ _ _ (zAl _))⟩, bpo (zAe _ zCz _), tv⟩ .nil) ?_ ?_
   ·intro out G en2 f hR hl
    simp only [Prod.mk.injEq] at hR
    obtain ⟨rfl, rfl, rfl, rfl⟩ := hR
    cases o with
    | nil => exact ⟨_, _, _, 0, rfl, fun h => ab rfl h, rfl, rfl⟩
    | cons u us => exact ⟨_, _, _, 3, rfl, fun _ => ⟨by decide, by decide, rfl⟩, rfl, rfl⟩
   intro e2 G en2 f he hR
   simp only [Prod.mk.injEq] at hR
   obtain ⟨rfl, rfl, rfl, rfl⟩ := hR
   exact ⟨_, _, _, 0, rfl, fun h => ab rfl h, rfl, rfl⟩
  exfalso
  obtain ⟨o', _, q⟩ := zOn hp (zDz g).2.2.2
  rw [q] at g2; cases g2
 have hp : ptsT t = none := by simpa using g1
 have hpcs : pcsD t (bs s) = [(bs s, false)] := by unfold pcsD; rw [hp]
 rw [hpcs] at hD hps k3
 refine wr_loop a [(bs s, false)] 1 T ck en hT hps (by simp) _ hD (rcq [2] ⟨(sP rfl rfl), (sI rfl), ⟨_, rfl, zAm 8 rfl⟩, (sL rfl rfl), (sI rfl), (sI rfl), tv⟩ ⟨⟨by decide, _, rfl, zAy 1 1 (by exact rfl) en⟩, ⟨by decide, _, rfl, (by show RO Try.prog _ (.map (encT T) ck) (.map (encT (T ++ [])) (ck + 0)); rw [aF]; exact RO.map _ _ _ (zAl _))⟩, ⟨by decide, _, rfl, zAv (by rw [str_mk s]; rfl) rfl⟩, tv⟩ .nil) ?_ ?_
 ·intro out G en2 f hR hl
  simp only [Prod.mk.injEq] at hR
  obtain ⟨rfl, rfl, rfl, rfl⟩ := hR
  cases o with
  | nil => exact ⟨_, _, _, 0, rfl, fun h => ab rfl h, rfl, rfl⟩
  | cons u us => exact ⟨_, _, _, 3, rfl, fun _ => ⟨by decide, by decide, rfl⟩, rfl, rfl⟩
 intro e2 G en2 f he hR
 simp only [Prod.mk.injEq] at hR
 obtain ⟨rfl, rfl, rfl, rfl⟩ := hR
 exact ⟨_, _, _, 0, rfl, fun h => ab rfl h, rfl, rfl⟩
structure WrX where
 pb : Nat
 mb : Nat
 en : Nat
 T : List (Bl × Nat)
 ck : Nat
 a : Int
 t : Int
 s : ByteArray
 e : Int
 o : Bl
 F : List (Bl × Nat)
 en' : Nat
def packO (pb mb : Nat) (T : List (Bl × Nat)) (ck : Nat) (e : Int) (o : Bl) (F : List (Bl × Nat)) (en' : Nat) (H : Tr AObj) (n : Nat) : Res := match o with
 | [] => .ret (.tuple #[.slice none 0 0, .int .i64 e]) ((H.set pb (some (.cells [.map (some mb), .int .i64 (en' : Int)] 98))).set mb (some (.map (encT (T ++ F)) (ck + F.length)))) n [pb, mb]
 | u :: us => .ret (.tuple #[sq n (us.length + 1) U, .int .i64 e]) (((H.set pb (some (.cells [.map (some mb), .int .i64 (en' : Int)] 98))).set mb (some (.map (encT (T ++ F)) (ck + F.length)))).set n (some (.cells ((u :: us).map byV) 5))) (n + 1) [pb, mb]
theorem zJk {f : FuncId} {args args0 : List Value} {H H0 H' : Tr AObj} {n m pb mb b en ck en' : Nat} {wr : List Nat} {T F : List (Bl × Nat)} {e : Int} {o : Bl} (hF : FnS Try.prog 0 f args0 H0 2 (.ret (.tuple #[ovN b o, .int .i64 e]) H' m wr))
  (hA : [pb, mb].Nodup) (hcb : CallB Try.prog [pb, mb] H H0) (harg : RL (caR [pb, mb]) args args0) (h2 : H.get pb = some (.cells [.map (some mb), .int .i64 (en : Int)] 98)) (h3 : H.get mb = some (.map (encT T) ck)) (w0 : 0 ∈ wr) (w1 : 1 ∈ wr)
  (gb : o ≠ [] -> 2 <= b /\ b < JJ /\ H'.get b = some (.cells (o.map byV) 5)) (g2 : H'.get 0 = some (.cells [.map (some 1), .int .i64 (en' : Int)] 98)) (g3 : H'.get 1 = some (.map (encT (T ++ F)) (ck + F.length))) (hw0 : ∀ j, j < 2 -> ∀ o, H0.get j = some o -> ¬ o.isWin) :
  CallOK Try.prog 0 f args H n (packO pb mb T ck e o F en' H n) := by
 have hw : ∀ j ∈ [pb, mb], ∃ o, H.get j = some o /\ ¬ o.isWin := fun j hj => by
  simp only [aK, List.not_mem_nil, or_false] at hj
  rcases hj with rfl | rfl
  ·exact ⟨_, h2, fun h => h⟩
  exact ⟨_, h3, fun h => h⟩
 have hw0' : ∀ k o, H0.get k = some o -> k < [pb, mb].length -> ¬ o.isWin := fun k o h1 h2 => hw0 k h2 o h1
 have hbx : ∀ B : List Nat, RO Try.prog (tau [pb, mb] B n) (.cells [.map (some 1), .int .i64 (en' : Int)] 98) (.cells [.map (some mb), .int .i64 (en' : Int)] 98) := fun B => zAy 1 mb (zJe rfl) en'
 cases o with
 | nil =>
  refine zKp [pb, mb] [] [(pb, some (.cells [.map (some mb), .int .i64 (en' : Int)] 98)), (mb, some (.map (encT (T ++ F)) (ck + F.length)))] hF hA hcb harg hw0' hw List.nodup_nil (fun x hx => by cases hx) (.tuple _ _ (.cons _ _ _ _ (.snil _ _) (.cons _ _ _ _ (.int _ _) .nil)))
   (fun p hp => by simp at hp; rcases hp with rfl | rfl <;> simp) (fun k j e1 _ => .inl (by have := List.mem_of_getElem? e1; simp at this; rcases this with rfl | rfl <;> simp)) (fun j ob hm => ?_)
  rcases aK.1 hm with e | hm
  ·cases e; exact ⟨0, _, zJe rfl, g2, hbx _, fun _ => w0⟩
  rcases aK.1 hm with e | hm
  ·cases e; exact ⟨1, _, zJe rfl, g3, RO.map _ _ _ (zAl _), fun _ => w1⟩
  cases hm
 | cons u us =>
  obtain ⟨b1, b2, b3⟩ := gb (aZ _ _)
  refine zKp [pb, mb] [b] [(pb, some (.cells [.map (some mb), .int .i64 (en' : Int)] 98)), (mb, some (.map (encT (T ++ F)) (ck + F.length))), (n, some (.cells ((u :: us).map byV) 5))] hF hA hcb harg hw0' hw (by simp) (fun x hx => by simp at hx; subst hx; exact ⟨b1, b2, by rw [b3]; simp⟩) (.tuple _ _ (.cons _ _ _ _ (.sl _ _ _ _ _ (zJd (A := [pb, mb]) b1)) (.cons _ _ _ _ (.int _ _) .nil)))
   (fun p hp => by simp at hp; rcases hp with rfl | rfl | rfl <;> simp) (fun k j e1 _ => .inl (by have := List.mem_of_getElem? e1; simp at this; rcases this with rfl | rfl <;> simp)) (fun j ob hm => ?_)
  rcases aK.1 hm with e | hm
  ·cases e; exact ⟨0, _, zJe rfl, g2, hbx _, fun _ => w0⟩
  rcases aK.1 hm with e | hm
  ·cases e; exact ⟨1, _, zJe rfl, g3, RO.map _ _ _ (zAl _), fun _ => w1⟩
  rcases aK.1 hm with e | hm
  ·cases e; exact ⟨b, _, zJd (A := [pb, mb]) b1, b3, .same (zAb _), fun h => by have h : b < 2 := h; omega⟩
  cases hm
theorem packB {pb mb en : Nat} {T : List (Bl × Nat)} {ck : Nat} {H : Tr AObj} (h2 : H.get pb = some (.cells [.map (some mb), .int .i64 (en : Int)] 98)) (h3 : H.get mb = some (.map (encT T) ck)) :
  [pb, mb].Nodup /\ CallB Try.prog [pb, mb] H (heap 2 [(0, .cells [.map (some 1), .int .i64 (en : Int)] 98), (1, .map (encT T) ck)]) /\ ∀ j, j < 2 -> ∀ o, (heap 2 [(0, AObj.cells [.map (some 1), .int .i64 (en : Int)] 98), (1, .map (encT T) ck)]).get j = some o -> ¬ o.isWin := by
 have hne : pb ≠ mb := fun e => by subst e; rw [h2] at h3; cases h3
 refine ⟨by simp [hne], zNy ⟨⟨pb, _, rfl, h2, zAy mb 1 rfl en⟩, ⟨mb, _, rfl, h3, RO.map _ _ _ (zAl _)⟩, tv⟩, fun j hj ob ho => ?_⟩
 match j, hj, ho with
 | 0, _, ho => have ho : some (AObj.cells _ _) = some ob := ho; cases ho; exact fun h => h
 | 1, _, ho => have ho : some (AObj.map _ _) = some ob := ho; cases ho; exact fun h => h
theorem zRd {pb mb mb' en en' : Nat} {T T' : List (Bl × Nat)} {ck ck' : Nat} {H : Tr AObj} (h2 : H.get pb = some (.cells [.map (some mb), .int .i64 (en : Int)] 98)) (h3 : H.get mb = some (.map (encT T) ck)) (k2 : H.get pb = some (.cells [.map (some mb'), .int .i64 (en' : Int)] 98)) (k3 : H.get mb' = some (.map (encT T') ck')) : mb = mb' /\ en = en' /\ T = T' /\ ck = ck' := by
 rw [h2] at k2
 simp only [aP, AObj.cells.injEq, aQ, Value.map.injEq, Value.int.injEq, true_and, and_true] at k2
 obtain ⟨rfl, e⟩ := k2
 rw [h3] at k3
 simp only [aP, AObj.map.injEq] at k3
 exact ⟨rfl, by omega, zOg k3.1, k3.2⟩
theorem zRc {pb mb : Nat} {T : List (Bl × Nat)} {ck : Nat} {e : Int} {o : Bl} {F : List (Bl × Nat)} {en' : Nat} {H : Tr AObj} {n : Nat} {K : Res -> Prop} (h : frcN pb fun pb => frcN mb fun mb => K (packO pb mb T ck e o F en' H n)) : K (packO pb mb T ck e o F en' H n) := by rw [zDh, zDh] at h; exact h
noncomputable def ct_write : Ct Try.prog 0 :=
 CtR.ct { f := 73, X := WrX,
          pre := fun x as0 H _ => as0 = [.pointer (some ⟨x.pb, 0, none⟩), .int .i64 x.a, .int .i64 x.t, .string x.s] /\ H.get x.pb = some (.cells [.map (some x.mb), .int .i64 (x.en : Int)] 98) /\ H.get x.mb = some (.map (encT x.T) x.ck) /\ goodT x.T /\ shortB x.s = true /\ wrD x.en x.T x.a x.t (bs x.s) = (x.e, x.o, x.F, x.en'),
          out := fun x H n => packO x.pb x.mb x.T x.ck x.e x.o x.F x.en' H n,
          tr := fun x H n K => frcN x.pb fun pb => frcN x.mb fun mb => K (packO pb mb x.T x.ck x.e x.o x.F x.en' H n),
          trOk := fun x H n K h => zRc h,
          ok := fun x as0 H n ⟨h1, h2, h3, h4, h5, h6⟩ => by
           subst h1
           obtain ⟨pb, mb, en, T, ck, a, t, s, e, o, F, en'⟩ := x
           obtain ⟨q1, q2, q3⟩ := packB h2 h3
           obtain ⟨r, hF, H', m, wr, b, rfl, g1, g2, g3⟩ := write_fn a t s en T ck h4 h5 e o F en' h6
           have := zJk (n := n) (hF.wr [0, 1]) q1 q2 (.cons _ _ _ _ (.ptr _ _ _ rfl) (.cons _ _ _ _ (.int _ _) (.cons _ _ _ _ (.int _ _) (.cons _ _ _ _ (.string _) .nil)))) h2 h3 (by simp) (by simp) g1 g2 g3 q3
           cases o <;> exact this,
          uniq := fun x y as0 H n ⟨h1, h2, h3, _, _, h6⟩ ⟨k1, k2, k3, _, _, k6⟩ => by
           obtain ⟨pb, mb, en, T, ck, a, t, s, e, o, F, en1⟩ := x
           obtain ⟨pb', mb', en', T', ck', a', t', s', e', o', F', en1'⟩ := y
           rw [h1] at k1
           simp only [aQ, Value.pointer.injEq, aP, Addr.mk.injEq, and_true, Value.int.injEq, true_and, Value.string.injEq] at k1
           obtain ⟨rfl, rfl, rfl, rfl⟩ := k1
           obtain ⟨rfl, rfl, rfl, rfl⟩ := zRd h2 h3 k2 k3
           have := h6.symm.trans k6
           simp only [Prod.mk.injEq] at this
           obtain ⟨rfl, rfl, rfl, rfl⟩ := this
           rfl }
noncomputable def inl_put4 : Ct Try.prog 0 := Ct.inl (tbOf mixed []) mixed [] 90 Try.f90 Try.func90 (bodyOf Try.f90) (by kernel_rfl)
noncomputable def tbWr5 : Tb Try.prog 0 := tbOf mixed [inl_put4]
def by4 (v : Nat) : Bl := [UInt8.ofNat (v / 2 ^ 24), UInt8.ofNat (v / 2 ^ 16), UInt8.ofNat (v / 2 ^ 8), UInt8.ofNat (v / 2 ^ 0)]
def by2 (v : Nat) : Bl := [hi8 v, lo8 v]
theorem wrapD (v k : Nat) : IntKind.u8.wrap (Int.fdiv (v : Int) (2 ^ k)) = ((UInt8.ofNat (v / 2 ^ k)).toNat : Int) := by rw [fdivP]; exact wrap8
theorem put32_fn (v : Nat) (h : v < 4294967296) : ∃ r, FnS Try.prog 0 72 [.int .i64 (v : Int)] .e 0 r /\ ∃ H m wr, r = .ret (.tuple #[sq 8 4 U, .int .i64 0]) H m wr /\ H.get 8 = some (.cells ((by4 v).map byV) 5) := by
 have a1 : shrI .i64 (v : Int) (IntKind.i64.wrap (8 * 4)) = 0 := by
  show Int.fdiv (v : Int) (2 ^ 32) = 0
  rw [fdivP]; omega
 refine zBp mixed tbWr5 [] Try.func72 (c := bodyOf Try.f72) (by kernel_rfl) ?_
 refine ifK (fun g => by have g : (shrI .i64 (v : Int) (IntKind.i64.wrap (8 * 4)) != 0) = true := g; rw [a1] at g; cases g) (fun _ => ?_)
 refine aI (by kernel_rfl) ?_
 refine aI (by kernel_rfl) ?_
 refine aI (by kernel_rfl) ?_
 refine ⟨_, _, _, rfl, ?_⟩
 show some (AObj.cells [.int .u8 (IntKind.u8.wrap (Int.fdiv (v : Int) (2 ^ 24))), .int .u8 (IntKind.u8.wrap (Int.fdiv (v : Int) (2 ^ 16))), .int .u8 (IntKind.u8.wrap (Int.fdiv (v : Int) (2 ^ 8))), .int .u8 (IntKind.u8.wrap (Int.fdiv (v : Int) (2 ^ 0)))] _) = _
 rw [wrapD, wrapD, wrapD, wrapD]; rfl
noncomputable def ct_newB (f : FuncId) (b : Nat) (hb : b < JJ) (bound : Nat) (bytes : Nat -> Bl) (k : Nat) (ok : ∀ v, v < bound -> ∃ r, FnS Try.prog 0 f [.int .i64 (v : Int)] .e 0 r /\ ∃ H m wr, r = .ret (.tuple #[sq b k U, .int .i64 0]) H m wr /\ H.get b = some (.cells ((bytes v).map byV) 5)) : Ct Try.prog 0 :=
 CtR.ct { f := f, X := Nat, pre := fun v a _ _ => a = [.int .i64 (v : Int)] /\ v < bound,
          out := fun v H n => .ret (.tuple #[sq n k U, .int .i64 0]) (layN H n [((bytes v).map byV, 5)]) (n + 1) [],
          ok := fun v a H n ⟨h1, h2⟩ => by
           subst h1
           obtain ⟨r, hF, H', m, wr, rfl, hg⟩ := ok v h2
           refine zKo (fun n => .tuple #[sq n k U, .int .i64 0]) [] [b] [((bytes v).map byV, 5)] hF (fun k _ => aH k) (fun i j o hij hi => by simp at hi) (ArgOK.of (.cons _ _ _ _ (.int _ _) .nil)) (fun k o hk => by cases hk) (by simp) (fun x hx => by simp at hx; subst hx; exact ⟨aH _, hb⟩) rfl (fun i b xs e hb hc => ?_)
            (fun n => .tuple _ _ (.cons _ _ _ _ (.sl _ _ _ _ _ (tau_at 0 (by simp) (aH _) rfl)) (.cons _ _ _ _ (.int _ _) .nil)))
           match i, hb, hc with
           | 0, hb, hc => cases hb; cases hc; exact ⟨hg, zAb _⟩
           | i + 1, hb, hc => simp at hb,
          uniq := fun x y a H n ⟨h1, _⟩ ⟨k1, _⟩ => by
           rw [h1] at k1
           simp only [aQ, Value.int.injEq, true_and, and_true] at k1
           have : x = y := by omega
           rw [this] }
noncomputable def ct_put32 : Ct Try.prog 0 := ct_newB 72 8 (by decide) 4294967296 by4 4 put32_fn
noncomputable def tbR1 : Tb Try.prog 0 := tbOf mixed []
def numB (n m : Int) : Bool := decide (0 <= n /\ n <= m)
theorem number_fn (n m : Int) : ∃ r, FnS Try.prog 0 69 [.int .i64 n, .int .i64 m] .e 0 r /\ ∃ H k wr, r = .ret (.bool (numB n m)) H k wr := by
 refine zBp mixed tbR1 [] Try.func69 (c := bodyOf Try.f69) (by kernel_rfl) ?_
 unfold numB
 refine ifK (fun h1 => ?_) (fun h1 => ?_)
 ·have h1 := oT h1
  rw [show decide (0 <= n /\ n <= m) = decide (n <= m) by rw [decide_eq_decide]; exact ⟨fun h => h.2, fun h => ⟨h1, h⟩⟩]
  exact ⟨_, _, _, rfl⟩
 have h1 := oF h1
 rw [show decide (0 <= n /\ n <= m) = false by rw [decide_eq_false_iff_not]; exact fun h => h1 h.1]
 exact ⟨_, _, _, rfl⟩
theorem short_fn (n : Int) : ∃ r, FnS Try.prog 0 93 [.int .i64 n] .e 0 r /\ ∃ H k wr, r = .ret (.bool (numB n 65535)) H k wr := by
 refine zBp mixed tbR1 [] Try.func93 (c := bodyOf Try.f93) (by kernel_rfl) ?_
 unfold numB
 refine ifK (fun h1 => ?_) (fun h1 => ?_)
 ·have h1 := oT h1
  rw [show decide (0 <= n /\ n <= 65535) = decide (n <= 65535) by rw [decide_eq_decide]; exact ⟨fun h => h.2, fun h => ⟨h1, h⟩⟩]
  exact ⟨_, _, _, rfl⟩
 have h1 := oF h1
 rw [show decide (0 <= n /\ n <= 65535) = false by rw [decide_eq_false_iff_not]; exact fun h => h1 h.1]
 exact ⟨_, _, _, rfl⟩
def Ct.sh {X : Type} (f : FuncId) (mt : List Value -> Option X) (args : X -> List Value) (hm : ∀ l x, mt l = some x -> l = args x) (pre : X -> Bool) (out : X -> Value) (ha : ∀ x, plainL (args x) = true) (hp : ∀ x, plainV 8 (out x) = true) (ok : ∀ x, pre x = true -> ∃ H m wr, FnS Try.prog 0 f (args x) .e 0 (.ret (out x) H m wr)) : Ct Try.prog 0 where
 f := f
 res l H n := match mt l with | some x => bif pre x then .ret (out x) H n [] else .bad "not such" [] | none => .bad "arguments" []
 ok l H n := by
  cases h : mt l with
  | none => trivial
  | some x =>
   cases hx : pre x with
   | false => simp only [hx]; trivial
   | true =>
    simp only [hx, cT]
    rw [hm l x h]
    obtain ⟨_, _, _, hF⟩ := ok x hx
    exact zAw hF (ha x) (hp x) H n
 ck l H n K := match mt l with | some x => pre x = true /\ K (.ret (out x) H n []) | none => False
 imp l H n K h := by
  cases hm : mt l with
  | none => rw [hm] at h; exact h.elim
  | some x =>
   rw [hm] at h
   obtain ⟨h1, h2⟩ := h
   simp only [h1, cT]; exact h2
def mtI2 : List Value -> Option (Int × Int) | [.int .i64 a, .int .i64 b] => some (a, b) | _ => none
def Ct.i2 (f : FuncId) (out : Int -> Int -> Value) (hp : ∀ x y, plainV 8 (out x y) = true) (ok : ∀ x y, ∃ H m wr, FnS Try.prog 0 f [.int .i64 x, .int .i64 y] .e 0 (.ret (out x y) H m wr)) : Ct Try.prog 0 where
 f := f
 res l H n := match l with | [.int .i64 x, .int .i64 y] => .ret (out x y) H n [] | _ => .bad "arguments" []
 ok l H n := by
  split
  ·rename_i x y
   obtain ⟨_, _, _, h⟩ := ok x y
   exact zAw h rfl (hp x y) H n
  trivial
 ck l H n K := match l with | [.int .i64 x, .int .i64 y] => K (.ret (out x y) H n []) | _ => False
 imp l H n K h := by
  split at h
  ·exact h
  exact h.elim
def Ct.i1 (f : FuncId) (out : Int -> Value) (hp : ∀ x, plainV 8 (out x) = true) (ok : ∀ x, ∃ H m wr, FnS Try.prog 0 f [.int .i64 x] .e 0 (.ret (out x) H m wr)) : Ct Try.prog 0 where
 f := f
 res l H n := match l with | [.int .i64 x] => .ret (out x) H n [] | _ => .bad "arguments" []
 ok l H n := by
  split
  ·rename_i x
   obtain ⟨_, _, _, h⟩ := ok x
   exact zAw h rfl (hp x) H n
  trivial
 ck l H n K := match l with | [.int .i64 x] => K (.ret (out x) H n []) | _ => False
 imp l H n K h := by
  split at h
  ·exact h
  exact h.elim
def zQd : Ct Try.prog 0 := Ct.i2 69 (fun x y => .bool (numB x y)) (fun _ _ => rfl) (fun x y => by obtain ⟨r, h, H, m, wr, rfl⟩ := number_fn x y; exact ⟨H, m, wr, h⟩)
def ct_rshort : Ct Try.prog 0 := Ct.i1 93 (fun x => .bool (numB x 65535)) (fun _ => rfl) (fun x => by obtain ⟨r, h, H, m, wr, rfl⟩ := short_fn x; exact ⟨H, m, wr, h⟩)
structure RcX where
 n : ByteArray
 t : Int
 c : Int
 ttl : Int
 d : ByteArray
def RcX.v (x : RcX) : Value := .agg #[.string x.n, .int .i64 x.t, .int .i64 x.c, .int .i64 x.ttl, .string x.d]
def RcX.ok (x : RcX) : Bool := x.n.data.size.ble 100000000 && x.d.data.size.ble 100000000
noncomputable def tbR2 : Tb Try.prog 0 := tbOf mixed [zQd, ct_rshort, zHs, zQf, zIo, zSu]
def mtR : List Value -> Option RcX
 | [.agg ⟨[.string n, .int .i64 t, .int .i64 c, .int .i64 ttl, .string d]⟩] => some ⟨n, t, c, ttl, d⟩
 | _ => none
theorem mtR_ok (l : List Value) (x : RcX) (h : mtR l = some x) : l = [x.v] := by
 unfold mtR at h; split at h <;> cases h; rfl
theorem RcX.ok1 {x : RcX} (h : x.ok = true) : (bs x.n).length <= 100000000 /\ (bs x.d).length <= 100000000 := by
 unfold RcX.ok at h
 simp only [bA] at h
 rw [<- zAd, <- zAd]
 exact ⟨aE h.1, aE h.2⟩
def recC (x : RcX) : Int := if (labels (bs x.n)).2 ≠ 0 then (labels (bs x.n)).2 else if numB x.t 65535 && numB x.c 65535 && numB x.ttl 2147483647 then checkD x.t (bs x.d) else 5
theorem zXq (x : RcX) (hx : x.ok = true) : ∃ r, FnS Try.prog 0 53 [x.v] .e 0 r /\ ∃ H k wr, r = .ret (.int .i64 (recC x)) H k wr := by
 obtain ⟨hn, hd⟩ := RcX.ok1 hx
 refine zBp mixed tbR2 [] Try.func53 (c := bodyOf Try.f53) (by kernel_rfl) ?_
 unfold recC
 refine aI (zDf (by omega)) ?_
 refine ifK (fun h1 => ?_) (fun h1 => ?_)
 ·rw [if_pos (by simpa using h1)]; exact ⟨_, _, _, rfl⟩
 rw [if_neg (by simpa using h1)]
 refine ifK (fun h2 => ?_) (fun h2 => ?_)
 ·rw [show numB x.t 65535 = false by simpa using h2]; exact ⟨_, _, _, rfl⟩
 rw [show numB x.t 65535 = true by simpa using h2]
 refine ifK (fun h3 => ?_) (fun h3 => ?_)
 ·rw [show numB x.c 65535 = false by simpa using h3]; exact ⟨_, _, _, rfl⟩
 rw [show numB x.c 65535 = true by simpa using h3]
 refine ifK (fun h4 => ?_) (fun h4 => ?_)
 ·rw [show numB x.ttl 2147483647 = false by simpa using h4]; exact ⟨_, _, _, rfl⟩
 rw [show numB x.ttl 2147483647 = true by simpa using h4]
 refine aI (zDf (by omega)) ?_
 exact ⟨_, _, _, rfl⟩
def zKr : Ct Try.prog 0 := Ct.sh 53 mtR (fun x => [x.v]) mtR_ok RcX.ok (fun x => .int .i64 (recC x)) (fun _ => rfl) (fun _ => rfl) (fun x hx => by obtain ⟨r, h, H, m, wr, rfl⟩ := zXq x hx; exact ⟨H, m, wr, h⟩)
theorem zKe (T : List (Bl × Nat)) (a : Nat) : ∀ (f : Nat) (t : Bl) (o : Nat), Nm t -> (packN T a f t o).1.length <= t.length
 | 0, _, _, _ => aH _
 | f + 1, t, o, h => by
  unfold packN
  have hp := h.pos
  by_cases hc : (t.getD 0 0).toNat = 0
  ·simp only [hc, if_true]; exact hp
  simp only [hc, if_false]
  cases h with
  | root => exact ab rfl hc
  | lab c x r h1 h2 hx hr =>
   have hrp := hr.pos
   cases hl : lookT T (c :: (x ++ r)) with
   | some k => simp; omega
   | none =>
    have e : (c :: (x ++ r)).drop (((c :: (x ++ r)).getD 0 0).toNat + 1) = r := by
     show (c :: (x ++ r)).drop (c.toNat + 1) = r
     rw [List.drop_succ_cons, <- hx, List.drop_left]
    simp only [e]
    have ih := zKe T a f r (o + ((c :: (x ++ r)).getD 0 0).toNat + 1) hr
    have e2 : ((c :: (x ++ r)).getD 0 0).toNat = c.toNat := rfl
    simp only [aB, aU, aC, e2] at ih ⊢
    omega
theorem wrN_le (a : Int) {T : List (Bl × Nat)} : ∀ (ps : List (Bs × Bool)) (out : Bl) (F : List (Bl × Nat)) (en : Nat), (wrN a T ps out F en).2.1.length <= out.length + sumL ps
 | [], _, _, _ => by simp [wrN, sumL]
 | (s, false) :: ps, out, F, en => by
  unfold wrN
  have h := wrN_le a (T := T) ps (out ++ s) F en
  simp only [sumL, List.flatMap_cons, aB] at h ⊢; omega
 | (s, true) :: ps, out, F, en => by
  unfold wrN
  simp only []
  split
  ·exact aH _
  rename_i he
  obtain ⟨_, _, p4, p5⟩ := zHf (Decidable.not_not.1 he)
  have eb : bs (mkS s) = s := by simp [bs, mkS]
  rw [eb] at p4 p5
  have l1 := zKe (T ++ F) (IntKind.i64.wrap (a + (out.length : Int))).toNat s.length s 0 ((zCe s).1 p4).1
  have h := wrN_le a (T := T) ps (out ++ (packN (T ++ F) (IntKind.i64.wrap (a + (out.length : Int))).toNat s.length s 0).1) (F ++ (packN (T ++ F) (IntKind.i64.wrap (a + (out.length : Int))).toNat s.length s 0).2) ((IntKind.i64.wrap (a + (out.length : Int))).toNat + (packN (T ++ F) (IntKind.i64.wrap (a + (out.length : Int))).toNat s.length s 0).1.length)
  simp only [sumL, List.flatMap_cons, aB] at h l1 ⊢; omega
theorem wrD_le {en : Nat} {T : List (Bl × Nat)} {a t : Int} {l : Bs} : (wrD en T a t l).2.1.length <= l.length := by
 unfold wrD
 split
 ·exact aH _
 rename_i h
 have h2 := (zLm (Decidable.not_not.1 h)).2.1
 have := wrN_le a (T := T) (pcsD t l) [] [] en
 simp only [List.length_nil, aS] at this
 omega
def askD (en : Nat) (T : List (Bl × Nat)) (a : Int) (n : ByteArray) (t c : Int) : Int × Bl × List (Bl × Nat) × Nat :=
 if (labels (bs n)).2 ≠ 0 then ((labels (bs n)).2, [], [], en)
 else if numB t 65535 && numB c 65535 then
  (if pnE en a n ≠ 0 then (pnE en a n, [], [], en)
   else let r := packN T a.toNat (bs n).length (bs n) 0
    (0, r.1 ++ by2 t.toNat ++ by2 c.toNat, r.2, a.toNat + r.1.length))
 else (5, [], [], en)
def recD (en : Nat) (T : List (Bl × Nat)) (a : Int) (x : RcX) : Int × Bl × List (Bl × Nat) × Nat :=
 if recC x ≠ 0 then (recC x, [], [], en)
 else let A := askD en T a x.n x.t x.c
  if A.1 ≠ 0 then (A.1, [], [], en)
  else let out := A.2.1 ++ by4 x.ttl.toNat
   let D := wrD A.2.2.2 (T ++ A.2.2.1) ((a.toNat + out.length + 2 : Nat) : Int) x.t (bs x.d)
   if D.1 ≠ 0 then (D.1, [], A.2.2.1 ++ D.2.2.1, D.2.2.2) else (0, out ++ by2 D.2.1.length ++ D.2.1, A.2.2.1 ++ D.2.2.1, D.2.2.2)
theorem zPv {en : Nat} {T : List (Bl × Nat)} {a : Int} {n : ByteArray} {t c : Int} (h : goodT T) : goodT (T ++ (askD en T a n t c).2.2.1) := by
 unfold askD
 split
 ·simpa using h
 split
 ·split
  ·simpa using h
  exact zEh h _ _ _ _
 simpa using h
theorem recD_good {en : Nat} {T : List (Bl × Nat)} {a : Int} {x : RcX} (h : goodT T) : goodT (T ++ (recD en T a x).2.2.1) := by
 unfold recD
 split
 ·simpa using h
 simp only []
 split
 ·simpa using h
 have h1 : goodT (T ++ (askD en T a x.n x.t x.c).2.2.1) := zPv h
 split
 ·show goodT (T ++ (_ ++ _)); rw [<- aN]; exact zWk h1
 show goodT (T ++ (_ ++ _)); rw [<- aN]; exact zWk h1
structure RR where
 s : Bl
 next : Int
 e : Int
 pos : Int
def rrV (r : RR) : Value := .tuple #[str r.s, .int .i64 r.next, .agg #[.int .i64 r.e, .int .i64 r.pos]]
theorem rrV_plain (r : RR) : plainV 8 (rrV r) = true := rfl
def cB (B : Bl) (i : Nat) : Nat := (B.getD i 0).toNat
def toB (B : Bl) (i : Nat) : Nat := 256 * (cB B i - 192) + cB B (i + 1)
inductive Rd (B : Bl) (a : Nat) : Nat -> Nat -> Bl -> Int -> RR -> Prop
 | over {p i : Nat} {out : Bl} {bh : Int} (h : B.length <= i) : Rd B a p i out bh ⟨[], 0, 4, B.length⟩
 | zero {p i : Nat} {out : Bl} {bh : Int} (h : i < B.length) (hc : cB B i = 0) : Rd B a p i out bh ⟨out ++ [0], if bh < 0 then (i : Int) + 1 else bh, 0, 0⟩
 | pshort {p i : Nat} {out : Bl} {bh : Int} (h : i < B.length) (hc : 192 <= cB B i) (h2 : B.length < i + 2) : Rd B a p i out bh ⟨[], 0, 4, B.length⟩
 | ploop {p i : Nat} {out : Bl} {bh : Int} (h : i < B.length) (hc : 192 <= cB B i) (h2 : i + 2 <= B.length) (h3 : p <= toB B i) : Rd B a p i out bh ⟨[], 0, 150, i⟩
 | ptr {p i : Nat} {out : Bl} {bh : Int} {r : RR} (h : i < B.length) (hc : 192 <= cB B i) (h2 : i + 2 <= B.length) (h3 : toB B i < p) (hr : Rd B a (toB B i) (toB B i) out (if bh < 0 then (i : Int) + 2 else bh) r) : Rd B a p i out bh r
 | bad {p i : Nat} {out : Bl} {bh : Int} (h : i < B.length) (hc : 63 < cB B i) (hc2 : cB B i < 192) : Rd B a p i out bh ⟨[], 0, 4, i⟩
 | short {p i : Nat} {out : Bl} {bh : Int} (h : i < B.length) (hc : 0 < cB B i) (hc2 : cB B i <= 63) (h2 : B.length < i + (cB B i + 1)) : Rd B a p i out bh ⟨[], 0, 4, B.length⟩
 | long {p i : Nat} {out : Bl} {bh : Int} (h : i < B.length) (hc : 0 < cB B i) (hc2 : cB B i <= 63) (h2 : i + (cB B i + 1) <= B.length) (h3 : 254 < out.length + (cB B i + 1)) : Rd B a p i out bh ⟨[], 0, 3, a⟩
 | lab {p i : Nat} {out : Bl} {bh : Int} {r : RR} (h : i < B.length) (hc : 0 < cB B i) (hc2 : cB B i <= 63) (h2 : i + (cB B i + 1) <= B.length) (h3 : out.length + (cB B i + 1) <= 254) (hr : Rd B a p (i + (cB B i + 1)) (out ++ (B.drop i).take (cB B i + 1)) bh r) : Rd B a p i out bh r
theorem Rd.det {B : Bl} {a : Nat} {p i : Nat} {out : Bl} {bh : Int} {r r' : RR} (h : Rd B a p i out bh r) (k : Rd B a p i out bh r') : r = r' := by
 induction h generalizing r' with
 | ptr h hc h2 h3 hr ih => cases k <;> first | exact ih (by assumption) | (exfalso; omega)
 | lab h hc hc2 h2 h3 hr ih => cases k <;> first | exact ih (by assumption) | (exfalso; omega)
 | _ => cases k <;> first | rfl | (exfalso; omega)
def rdOk (B : Bl) (x : Int) (r : RR) : Prop := (x < 0 \/ (B.length : Int) < x) /\ r = ⟨[], 0, 5, 0⟩ \/ ∃ a : Nat, x = (a : Int) /\ a <= B.length /\ Rd B a a a [] (-1) r
theorem zAp {B : Bl} {x : Int} {r r' : RR} (h : rdOk B x r) (k : rdOk B x r') : r = r' := by
 rcases h with ⟨h1, rfl⟩ | ⟨a, rfl, h2, h3⟩ <;> rcases k with ⟨k1, rfl⟩ | ⟨b, k0, k2, k3⟩
 ·rfl
 ·omega
 ·omega
 have : a = b := by omega
 subst this
 exact h3.det k3
theorem cB_lt (B : Bl) (i : Nat) : cB B i < 256 := UInt8.toNat_lt _
theorem and_low (N : Nat) (h : N < 65536) : bitsI .and .i64 (N : Int) 16383 = ((N % 16384 : Nat) : Int) := by
 unfold bitsI
 simp only []
 have e : (BitVec.ofInt IntKind.i64.bits (N : Int) &&& BitVec.ofInt IntKind.i64.bits 16383).toNat = N % 16384 := by
  rw [BitVec.toNat_and, bvN _ (by omega), show (BitVec.ofInt IntKind.i64.bits 16383).toNat = 2 ^ 14 - 1 from rfl, Nat.and_two_pow_sub_one_eq_mod]
 rw [e, wrapM (by omega) (by omega)]
theorem two_eq (B : Bl) (i : Nat) (h : i + 2 <= B.length) (hc : 192 <= cB B i) : bitsI .and .i64 (beN ((B.drop i).take 2) : Int) 16383 = (toB B i : Int) := by
 have e : (B.drop i).take 2 = [B.getD i 0, B.getD (i + 1) 0] := by
  have g1 : B.getD i 0 = B[i]'(by omega) := by simp [List.getD_eq_getElem?_getD, gG (show i < B.length by omega)]
  have g2 : B.getD (i + 1) 0 = B[i + 1]'(by omega) := by simp [List.getD_eq_getElem?_getD, gG (show i + 1 < B.length by omega)]
  rw [g1, g2, bD (show i < B.length by omega), List.take_succ_cons, bD (show i + 1 < B.length by omega), List.take_succ_cons, List.take_zero]
 have h1 := cB_lt B i
 have h2 := cB_lt B (i + 1)
 have e2 : beN [B.getD i 0, B.getD (i + 1) 0] = 256 * cB B i + cB B (i + 1) := by
  show (0 * 256 + cB B i) * 256 + cB B (i + 1) = _; omega
 rw [e, e2, and_low _ (by omega)]
 unfold toB
 congr 1; omega
def wrS (o n c : Nat) (l : Bl) (a : Nat) (x : Nat × Nat × Bl × Int) (f : Nat -> Option Value) : Fs :=
 match x with
 | (p, i, out, bh) =>
  match out with
  | [] => ⟨slots 7 [(0, .slice (some ⟨0, o, none⟩) n c), (1, .int .i64 a), (6, .pointer (some ⟨1, 0, none⟩)), (7, .slice none 0 0), (8, .int .i64 p), (9, .int .i64 i), (10, .int .i64 bh)] f,
    heap 2 [(0, .win (l.map byV) 1), (1, .cells [.int .i64 0, .int .i64 0] 48)], 2, [], []⟩
  | u :: us => ⟨slots 7 [(0, .slice (some ⟨0, o, none⟩) n c), (1, .int .i64 a), (6, .pointer (some ⟨1, 0, none⟩)), (7, .slice (some ⟨2, 0, none⟩) (us.length + 1) U), (8, .int .i64 p), (9, .int .i64 i), (10, .int .i64 bh)] f,
    heap 3 [(0, .win (l.map byV) 1), (1, .cells [.int .i64 0, .int .i64 0] 48), (2, .cells ((u :: us).map byV) 5)], 3, [], []⟩
def muR (n : Nat) (x : Nat × Nat × Bl × Int) : Nat := x.1 * (n + 2) + (n + 1 - x.2.1)
inductive Nw (B : Bl) : Nat -> Nat -> Bl -> Nat -> Prop
 | zero {p i : Nat} (h : i < B.length) (hc : cB B i = 0) : Nw B p i [0] (i + 1)
 | lab {p i : Nat} {c : UInt8} {x r : Bl} {e : Nat} (h1 : c ≠ 0) (h2 : c.toNat <= 63) (hx : x.length = c.toNat) (h : i + (x.length + 1) <= B.length) (hb : (B.drop i).take (x.length + 1) = c :: x) (hr : Nw B p (i + (x.length + 1)) r e) : Nw B p i (c :: (x ++ r)) e
 | ptr {p i k : Nat} {s : Bl} {e : Nat} (h : i + 2 <= B.length) (hc : 192 <= cB B i) (hk : toB B i = k) (hp : k < p) (hr : Nw B k k s e) : Nw B p i s (i + 2)
theorem getD_app {B C : Bl} {i : Nat} (h : i < B.length) : (B ++ C).getD i 0 = B.getD i 0 := by
 rw [List.getD_eq_getElem?_getD, List.getD_eq_getElem?_getD, List.getElem?_append_left h]
theorem zHo {B C : Bl} {i : Nat} (h : i < B.length) : cB (B ++ C) i = cB B i := by unfold cB; rw [getD_app h]
theorem Nw.mono {B : Bl} {p q i : Nat} {s : Bl} {e : Nat} (h : Nw B p i s e) (hq : p <= q) : Nw B q i s e := by
 induction h with
 | zero h hc => exact .zero h hc
 | lab h1 h2 hx h hb hr ih => exact .lab h1 h2 hx h hb (ih hq)
 | ptr h hc hk hp hr ih => exact .ptr h hc hk (by omega) hr
theorem Nw.pos {B : Bl} {p i : Nat} {s : Bl} {e : Nat} (h : Nw B p i s e) : 1 <= s.length := by
 induction h with
 | zero => simp
 | lab => simp
 | ptr _ _ _ _ _ ih => exact ih
theorem Nw.rd {B : Bl} {a p i : Nat} {s : Bl} {e : Nat} (h : Nw B p i s e) : ∀ (out : Bl) (bh : Int), out.length + s.length <= 255 -> Rd B a p i out bh ⟨out ++ s, if bh < 0 then (e : Int) else bh, 0, 0⟩ := by
 induction h with
 | zero h hc => intro out bh _; exact .zero h hc
 | @lab p i c x r e h1 h2 hx h hb hr ih =>
  intro out bh hl
  have hpos := hr.pos
  simp only [aC, aB] at hl
  have hB : cB B i = c.toNat := by
   unfold cB
   have : (B.drop i).getD 0 0 = c := by
    have h0 : ((B.drop i).take (x.length + 1)).getD 0 0 = c := by rw [hb]; rfl
    rw [List.getD_eq_getElem?_getD, List.getElem?_take_of_lt (by omega), <- List.getD_eq_getElem?_getD] at h0; exact h0
   rw [List.getD_eq_getElem?_getD, List.getElem?_drop, Nat.add_zero, <- List.getD_eq_getElem?_getD] at this
   rw [this]
  have hc0 : 0 < c.toNat := by
   rcases Nat.eq_zero_or_pos c.toNat with h0 | h0
   ·exact ab (UInt8.toNat_inj.1 (h0.trans rfl)) h1
   exact h0
  have e1 : cB B i + 1 = x.length + 1 := by rw [hB, hx]
  refine .lab (by omega) (by omega) (by omega) (by omega) (by omega) ?_
  rw [e1, hb]
  have := ih (out ++ c :: x) bh (by simp; omega)
  rw [show out ++ c :: (x ++ r) = (out ++ c :: x) ++ r by simp]
  exact this
 | @ptr p i k s e h hc hk hp hr ih =>
  intro out bh hl
  refine .ptr (by omega) hc h (by omega) ?_
  rw [hk]
  have := ih out (if bh < 0 then (i : Int) + 2 else bh) hl
  by_cases hb : bh < 0
  ·rw [if_pos hb] at this ⊢
   rw [if_neg (by omega)] at this
   rw [if_pos hb]
   exact this
  rw [if_neg hb] at this ⊢
  rw [if_neg hb] at this
  rw [if_neg hb]
  exact this
def knowsN (B : Bl) (T : List (Bl × Nat)) (a : Nat) : Prop := ∀ t k, (t, k) ∈ T -> k < a /\ k < 16384 /\ ∃ e, Nw B k k t e
theorem knowsN.mono {B : Bl} {T : List (Bl × Nat)} {a b : Nat} (h : knowsN B T a) (hab : a <= b) : knowsN B T b := fun t k hm => let ⟨h1, h2, e, h3⟩ := h t k hm; ⟨by omega, h2, e, h3⟩
theorem zVn {s : Bl} {k : Nat} : ∀ {T : List (Bl × Nat)}, lookT T s = some k -> (s, k) ∈ T
 | [], h => by cases h
 | (t, j) :: T, h => by
  unfold lookT at h
  by_cases e : s = t
  ·rw [if_pos e] at h; cases h; subst e; exact List.mem_cons_self ..
  rw [if_neg e] at h; exact List.mem_cons_of_mem _ (zVn h)
theorem zIi {B o : Bl} {i k : Nat} (h : (B.drop i).take o.length = o) (hk : k <= o.length) : (B.drop (i + k)).take (o.length - k) = o.drop k := by
 rw [<- List.drop_drop, <- List.drop_take, h]
theorem zPc {B : Bl} {T : List (Bl × Nat)} {a : Nat} (hT : knowsN B T a) : ∀ (f : Nat) (t : Bl) (o : Nat), Nm t -> t.length <= f -> a + o + (packN T a f t o).1.length <= B.length -> (B.drop (a + o)).take (packN T a f t o).1.length = (packN T a f t o).1 ->
  Nw B a (a + o) t (a + o + (packN T a f t o).1.length) /\ ∀ s k, (s, k) ∈ (packN T a f t o).2 -> a <= k /\ k < a + o + (packN T a f t o).1.length /\ k < 16384 /\ ∃ e, Nw B k k s e
 | 0, t, o, hm, hl, _, _ => ab hm.pos (by omega)
 | f + 1, t, o, hm, hl, hB, hb => by
  cases hm with
  | root =>
   have e : packN T a (f + 1) [0] o = ([0], []) := by unfold packN; simp
   rw [e] at hB hb ⊢
   refine ⟨.zero (by simp at hB; omega) ?_, fun s k h => by cases h⟩
   unfold cB
   have : ((B.drop (a + o)).take 1).getD 0 0 = 0 := by
    have hb : (B.drop (a + o)).take 1 = [0] := hb
    rw [hb]; rfl
   rw [List.getD_eq_getElem?_getD, List.getElem?_take_of_lt (by omega), List.getElem?_drop, Nat.add_zero, <- List.getD_eq_getElem?_getD] at this
   rw [this]; rfl
  | lab c x r h1 h2 hx hr =>
   have hne : ¬ c.toNat = 0 := by omega
   have hc0 : c ≠ 0 := fun e => by subst e; simp at h1
   have e0 : ((c :: (x ++ r)).getD 0 0).toNat = c.toNat := rfl
   have edrop : (c :: (x ++ r)).drop (c.toNat + 1) = r := by rw [List.drop_succ_cons, <- hx, List.drop_left]
   have etake : (c :: (x ++ r)).take (c.toNat + 1) = c :: x := by rw [List.take_succ_cons, <- hx, List.take_left]
   cases hk : lookT T (c :: (x ++ r)) with
   | some k =>
    obtain ⟨k1, k2, e, k3⟩ := hT _ _ (zVn hk)
    have ep : packN T a (f + 1) (c :: (x ++ r)) o = ([UInt8.ofNat (192 + k / 256), UInt8.ofNat (k % 256)], []) := by
     unfold packN; simp only [e0, hne, if_false, hk]
    rw [ep] at hB hb ⊢
    have hB : a + o + 2 <= B.length := hB
    have hb : (B.drop (a + o)).take 2 = [UInt8.ofNat (192 + k / 256), UInt8.ofNat (k % 256)] := hb
    have g0 : cB B (a + o) = 192 + k / 256 := by
     have : ((B.drop (a + o)).take 2).getD 0 0 = UInt8.ofNat (192 + k / 256) := by rw [hb]; rfl
     rw [List.getD_eq_getElem?_getD, List.getElem?_take_of_lt (by omega), List.getElem?_drop, Nat.add_zero, <- List.getD_eq_getElem?_getD] at this
     unfold cB; rw [this]; simp; omega
    have g1 : cB B (a + o + 1) = k % 256 := by
     have : ((B.drop (a + o)).take 2).getD 1 0 = UInt8.ofNat (k % 256) := by rw [hb]; rfl
     rw [List.getD_eq_getElem?_getD, List.getElem?_take_of_lt (by omega), List.getElem?_drop, <- List.getD_eq_getElem?_getD] at this
     unfold cB; rw [this]; simp
    refine ⟨.ptr hB (by omega) (k := k) ?_ k1 k3, fun s k h => by cases h⟩
    unfold toB; rw [g0, g1]; omega
   | none =>
    obtain ⟨R, hR⟩ : ∃ R, packN T a f r (o + c.toNat + 1) = R := ⟨_, rfl⟩
    have ep : packN T a (f + 1) (c :: (x ++ r)) o = (c :: x ++ R.1, if a + o < 16384 then (c :: (x ++ r), a + o) :: R.2 else R.2) := by
     unfold packN; simp only [e0, hne, if_false, hk, edrop, etake, hR]
    rw [ep] at hB hb ⊢
    have hlen : (c :: x ++ R.1).length = c.toNat + 1 + R.1.length := by simp; omega
    have hB : a + o + (c :: x ++ R.1).length <= B.length := hB
    have hb : (B.drop (a + o)).take (c :: x ++ R.1).length = c :: x ++ R.1 := hb
    rw [hlen] at hB
    simp only [aC, aB] at hl
    have hb2 : (B.drop (a + (o + c.toNat + 1))).take R.1.length = R.1 := by
     have := zIi (B := B) (i := a + o) (k := c.toNat + 1) hb (by omega)
     rw [hlen, show c.toNat + 1 + R.1.length - (c.toNat + 1) = R.1.length by omega, show a + o + (c.toNat + 1) = a + (o + c.toNat + 1) by omega, <- hx] at this
     rw [<- hx, this]
     show List.drop (x.length + 1) (c :: (x ++ R.1)) = R.1
     rw [List.drop_succ_cons, List.drop_left]
    have hb1 : (B.drop (a + o)).take (x.length + 1) = c :: x := by
     have := congrArg (List.take (x.length + 1)) hb
     rw [List.take_take, Nat.min_eq_left (by rw [hlen]; omega)] at this
     rw [this]
     show List.take (x.length + 1) (c :: (x ++ R.1)) = c :: x
     rw [List.take_succ_cons, List.take_left]
    obtain ⟨ih1, ih2⟩ := zPc hT f r (o + c.toNat + 1) hr (by omega) (by rw [hR]; omega) (by rw [hR]; exact hb2)
    rw [hR] at ih1 ih2
    have hN : Nw B a (a + o) (c :: (x ++ r)) (a + o + (c :: x ++ R.1).length) := by
     refine .lab hc0 h2 hx (by omega) hb1 ?_
     rw [hlen, hx, show a + o + (c.toNat + 1) = a + (o + c.toNat + 1) by omega, show a + o + (c.toNat + 1 + R.1.length) = a + (o + c.toNat + 1) + R.1.length by omega]; exact ih1
    have hF : ∀ s k, (s, k) ∈ R.2 -> a <= k /\ k < a + o + (c :: x ++ R.1).length /\ k < 16384 /\ ∃ e, Nw B k k s e := fun s k h => by
     obtain ⟨q1, q2, q3⟩ := ih2 s k h
     exact ⟨q1, by rw [hlen]; omega, q3⟩
    refine ⟨hN, fun s k h => ?_⟩
    by_cases hlt : a + o < 16384
    ·have h : (s, k) ∈ (c :: (x ++ r), a + o) :: R.2 := by rw [if_pos hlt] at h; exact h
     rcases aK.1 h with e | h
     ·cases e
      exact ⟨by omega, by rw [hlen]; omega, hlt, _, hN.mono (by omega)⟩
     exact hF s k h
    have h : (s, k) ∈ R.2 := by rw [if_neg hlt] at h; exact h
    exact hF s k h
theorem lenB {l : Bl} {o n : Nat} (h : o + n <= l.length) : ((l.drop o).take n).length = n := by rw [aU, aM]; omega
theorem cellB {l : Bl} {o n i : Nat} (h : o + n <= l.length) (hi : i < n) : (l.map byV)[o + i * 1]? = some (.int .u8 (cB ((l.drop o).take n) i : Int)) := by
 have h1 : o + i < l.length := by omega
 have e : ((l.drop o).take n).getD i 0 = l[o + i] := by
  rw [List.getD_eq_getElem?_getD, List.getElem?_take_of_lt hi, List.getElem?_drop, gG h1]; rfl
 unfold cB
 rw [e, aR]
 simp [gG h1, byV]
theorem takeB {l : Bl} {o n i k : Nat} (hi : i + k <= n) : (l.drop (o + i)).take k = ((((l.drop o).take n)).drop i).take k := by
 rw [List.drop_take, List.take_take, List.drop_drop, Nat.min_eq_left (by omega)]
noncomputable def tbW3 : Tb Try.prog 0 := tbOf mixed [ct_bytes, zUx]
theorem read_loop (l : Bl) (o n c a : Nat) (h : o + n <= l.length) (hn : n <= 1000000000) (hcap : c = U \/ n <= c /\ c <= 9223372036854775807) (ha : a <= n) {s0 : Fs} {K : Ex -> Fs -> Prop}
  (h0 : ∃ f, RcM Try.prog 0 1 (2 + (Try.f99.ntmps - 2)) none s0 (wrS o n c l a (a, a, [], -1) f))
  (hret : ∀ e pos f, Rd ((l.drop o).take n) a a a [] (-1) ⟨[], 0, e, pos⟩ -> K .ret ⟨slots 7 [(4, .string ⟨#[]⟩), (5, .int .i64 0), (6, .pointer (some ⟨1, 0, none⟩))] f, heap 2 [(1, .cells [.int .i64 e, .int .i64 pos] 48)], 2, [], []⟩)
  (hex0 : ∀ bh f, Rd ((l.drop o).take n) a a a [] (-1) ⟨[0], bh, 0, 0⟩ -> K (.exit 0) ⟨slots 7 [(6, .pointer (some ⟨1, 0, none⟩)), (7, .slice none 0 0), (10, .int .i64 bh)] f, heap 2 [(1, .cells [.int .i64 0, .int .i64 0] 48)], 2, [], []⟩)
  (hex1 : ∀ u us bh f, (u :: us).length <= 254 -> Rd ((l.drop o).take n) a a a [] (-1) ⟨(u :: us) ++ [0], bh, 0, 0⟩ -> K (.exit 0) ⟨slots 7 [(6, .pointer (some ⟨1, 0, none⟩)), (7, .slice (some ⟨2, 0, none⟩) (us.length + 1) U), (10, .int .i64 bh)] f, heap 3 [(1, .cells [.int .i64 0, .int .i64 0] 48), (2, .cells ((u :: us).map byV) 5)], 3, [], []⟩) :
  LW Try.prog 0 1 (2 + (Try.f99.ntmps - 2)) none (loopAt Try.f99 0) s0 K := by
 obtain ⟨B, hB⟩ : ∃ B, B = (l.drop o).take n := ⟨_, rfl⟩
 have hlB : B.length = n := by rw [hB]; exact lenB h
 have hcell : ∀ i, i < n -> (l.map byV)[o + i * 1]? = some (.int .u8 (cB B i : Int)) := fun i hi => by rw [hB]; exact cellB h hi
 have htake : ∀ i k, i + k <= n -> (l.drop (o + i)).take k = (B.drop i).take k := fun i k hik => by rw [hB]; exact takeB hik
 rw [<- hB] at hret hex0 hex1
 refine zAr (wrS o n c l a) (muR n) (fun x => x.1 <= n /\ x.2.1 <= n /\ x.2.2.1.length <= 254 /\ (-1 <= x.2.2.2 /\ x.2.2.2 <= n) /\ ∀ r, Rd B a x.1 x.2.1 x.2.2.1 x.2.2.2 r -> Rd B a a a [] (-1) r) (a, a, [], -1) ⟨ha, ha, by simp, ⟨by simp, by show (-1 : Int) <= n; omega⟩, fun r hr => hr⟩ h0 ?_
 rintro ⟨p, i, out, bh⟩ f ⟨hp, hi, hout, ⟨hb1, hb2⟩, hinv⟩
 have hp : p <= n := hp
 have hi : i <= n := hi
 have hout : out.length <= 254 := hout
 have hb1 : -1 <= bh := hb1
 have hb2 : bh <= n := hb2
 have hinv : ∀ r, Rd B a p i out bh r -> Rd B a a a [] (-1) r := hinv
 have hb := cB_lt B i
 have hsz0 : (Try.prog.types[48]).size = 2 := by kernel_rfl
 have h1s : (Try.prog.types[5]).size = 1 := by kernel_rfl
 have hby : (Try.prog.types[5]).bytes = 1 := by kernel_rfl
 have hsz : 0 + (Try.prog.types[48]).size <= 2 := by rw [hsz0]; decide
 cases out with
 | nil =>
  refine zAt tbW3 [0, 2] 1 _ none mixed _ _ _ ?_
  refine ifK (fun h1 => ?_) (fun h1 => ?_)
  ·have h1 : n <= i := by have := oT h1; omega
   refine aI rfl (zAj (rcq [1] (d := 7) (d2 := 2) (lv := [(4, .string ⟨#[]⟩), (5, .int .i64 0), (6, .pointer (some ⟨1, 0, none⟩))]) (bs := [(1, .cells [.int .i64 (4), .int .i64 ((n : Int))] 48)]) (W := []) (m := 2) (df := []) ⟨⟨_, rfl, .string _⟩, (sI rfl), (sP rfl rfl), tv⟩ ⟨bpo rfl, tv⟩ .nil) (fun f => hret (4) ((n : Int)) f (hinv _ ?_)))
   rw [<- hlB]; exact .over (by omega)
  have h1 : i < n := by have := oF h1; omega
  refine ifK (fun _ => ?_) (fun h2 => ab h2 (by simp [inI]; omega))
  refine eI (cB B i : Int) (aI (by rw [aO]; exact hcell i h1) ?_)
  have ec : IntKind.i64.wrap (cB B i : Int) = (cB B i : Int) := wrapM (by omega) (by omega)
  refine ifK (fun h2 => ?_) (fun h2 => ?_)
  ·have h2 : cB B i = 0 := by rw [ec] at h2; have h9 : (cB B i : Int) = 0 := (by simpa using h2); omega
   have hz := hinv _ (Rd.zero (B := B) (a := a) (p := p) (i := i) (out := []) (bh := bh) (by omega) h2)
   refine ifK (fun h3 => ?_) (fun h3 => ?_)
   ·have h3 : bh < 0 := oT h3
    rw [if_pos h3] at hz
    rw [show (i : Int) + 1 = IntKind.i64.wrap ((i : Int) + 1) by rw [wrapM (by omega) (by omega)]] at hz
    exact aI rfl (zAj (rcq [1] (d := 7) (d2 := 2) (lv := [(6, .pointer (some ⟨1, 0, none⟩)), (7, .slice none 0 0), (10, .int .i64 (IntKind.i64.wrap ((i : Int) + 1)))]) (bs := [(1, .cells [.int .i64 0, .int .i64 0] 48)]) (W := []) (m := 2) (df := []) ⟨(sP rfl rfl), ⟨_, rfl, zAm 8 rfl⟩, (sI rfl), tv⟩ ⟨bpo rfl, tv⟩ .nil) (fun f => hex0 _ f hz))
   have h3 : ¬ bh < 0 := oF h3
   rw [if_neg h3] at hz
   exact aI rfl (zAj (rcq [1] (d := 7) (d2 := 2) (lv := [(6, .pointer (some ⟨1, 0, none⟩)), (7, .slice none 0 0), (10, .int .i64 (bh))]) (bs := [(1, .cells [.int .i64 0, .int .i64 0] 48)]) (W := []) (m := 2) (df := []) ⟨(sP rfl rfl), ⟨_, rfl, zAm 8 rfl⟩, (sI rfl), tv⟩ ⟨bpo rfl, tv⟩ .nil) (fun f => hex0 _ f hz))
  have h2 : 0 < cB B i := by rw [ec] at h2; have h9 : (cB B i : Int) ≠ 0 := (by simpa using h2); omega
  refine ifK (fun h3 => ?_) (fun h3 => ?_)
  ·have h3 : 192 <= cB B i := by rw [ec] at h3; have := oT h3; omega
   refine eI (⟨0, o, n, c, l⟩, (i : Int)) (aI ⟨rfl, ⟨rfl, h⟩, hn⟩ ?_)
   refine ifK (fun h4 => ab h4 (by simp; omega)) (fun _ => ?_)
   refine ifK (fun h4 => ?_) (fun h4 => ?_)
   ·have h4 : i + 2 <= n := aE (show Nat.ble (i + 2) n = true from h4)
    refine eI (0 : Int) (aI rfl ?_)
    have et : bitsI .and .i64 (beN ((l.drop (o + ((i : Nat) : Int).toNat)).take 2) : Int) 16383 = (toB B i : Int) := by rw [aO, htake i 2 h4, two_eq B i (by omega) h3]
    refine ifK (fun h5 => ?_) (fun h5 => ?_)
    ·have h5 : p <= toB B i := by have := oT h5; rw [et] at this; omega
     refine aI rfl (zAj (rcq [1] (d := 7) (d2 := 2) (lv := [(4, .string ⟨#[]⟩), (5, .int .i64 0), (6, .pointer (some ⟨1, 0, none⟩))]) (bs := [(1, .cells [.int .i64 (150), .int .i64 ((i : Int))] 48)]) (W := []) (m := 2) (df := []) ⟨⟨_, rfl, .string _⟩, (sI rfl), (sP rfl rfl), tv⟩ ⟨bpo rfl, tv⟩ .nil) (fun f => hret (150) ((i : Int)) f (hinv _ ?_)))
     exact .ploop (by omega) h3 (by omega) h5
    have h5 : toB B i < p := by have := oF h5; rw [et] at this; omega
    have hst : ∀ r, Rd B a (toB B i) (toB B i) [] (if bh < 0 then (i : Int) + 2 else bh) r -> Rd B a a a [] (-1) r := fun r hr => hinv r (.ptr (by omega) h3 (by omega) h5 hr)
    have hmu : (toB B i) * (n + 2) + (n + 1 - toB B i) < p * (n + 2) + (n + 1 - i) := by
     have := Nat.mul_le_mul_right (n + 2) (show toB B i + 1 <= p from h5)
     rw [Nat.add_mul, Nat.one_mul] at this; omega
    refine ifK (fun h6 => ?_) (fun h6 => ?_)
    ·have h6 : bh < 0 := oT h6
     simp only [if_pos h6] at hst
     refine ⟨(toB B i, toB B i, [], ((i + 2 : Nat) : Int)), ⟨by show toB B i <= n; omega, by show toB B i <= n; omega, hout, ⟨by show -1 <= ((i + 2 : Nat) : Int); omega, by show ((i + 2 : Nat) : Int) <= _; omega⟩, fun r hr => hst r (by have e : ((i + 2 : Nat) : Int) = (i : Int) + 2 := (by omega); rw [<- e]; exact hr)⟩, hmu, ?_⟩
     exact rcq [1] ⟨(sL rfl rfl), (sI rfl), (sP rfl rfl), ⟨_, rfl, zAm 8 rfl⟩, ⟨_, rfl, by rw [<- et]; exact .int _ _⟩, ⟨_, rfl, by rw [<- et]; exact .int _ _⟩, (sI rfl), tv⟩ ⟨bpo (zAb _), bpo rfl, tv⟩ .nil
    have h6 : ¬ bh < 0 := oF h6
    simp only [if_neg h6] at hst
    refine ⟨(toB B i, toB B i, [], bh), ⟨by show toB B i <= n; omega, by show toB B i <= n; omega, hout, ⟨by show -1 <= bh; omega, by show bh <= _; omega⟩, fun r hr => hst r hr⟩, hmu, ?_⟩
    exact rcq [1] ⟨(sL rfl rfl), (sI rfl), (sP rfl rfl), ⟨_, rfl, zAm 8 rfl⟩, ⟨_, rfl, by rw [<- et]; exact .int _ _⟩, ⟨_, rfl, by rw [<- et]; exact .int _ _⟩, (sI rfl), tv⟩ ⟨bpo (zAb _), bpo rfl, tv⟩ .nil
   have h4 : n < i + 2 := by have h9 : ¬ i + 2 <= n := fun e => (by have h8 := bL e; have h4 : Nat.ble (i + 2) n = false := h4; rw [h8] at h4; cases h4); omega
   refine eI (4 : Int) (aI rfl ?_)
   refine aI ?_ ?_
   ·kernel_rfl
   refine eI (4 : Int) (eI (n : Int) (aI ⟨hsz, rfl⟩ ?_))
   refine aI rfl (zAj (rcq [1] (d := 7) (d2 := 2) (lv := [(4, .string ⟨#[]⟩), (5, .int .i64 0), (6, .pointer (some ⟨1, 0, none⟩))]) (bs := [(1, .cells [.int .i64 (4), .int .i64 ((n : Int))] 48)]) (W := []) (m := 2) (df := []) ⟨⟨_, rfl, .string _⟩, (sI rfl), (sP rfl rfl), tv⟩ ⟨bpo rfl, tv⟩ .nil) (fun f => hret (4) ((n : Int)) f (hinv _ ?_)))
   rw [<- hlB]; exact .pshort (by omega) h3 (by omega)
  have h3 : cB B i < 192 := by rw [ec] at h3; have := oF h3; omega
  refine ifK (fun h4 => ?_) (fun h4 => ?_)
  ·have h4 : 63 < cB B i := by rw [ec] at h4; have := oT h4; omega
   refine aI rfl (zAj (rcq [1] (d := 7) (d2 := 2) (lv := [(4, .string ⟨#[]⟩), (5, .int .i64 0), (6, .pointer (some ⟨1, 0, none⟩))]) (bs := [(1, .cells [.int .i64 (4), .int .i64 ((i : Int))] 48)]) (W := []) (m := 2) (df := []) ⟨⟨_, rfl, .string _⟩, (sI rfl), (sP rfl rfl), tv⟩ ⟨bpo rfl, tv⟩ .nil) (fun f => hret (4) ((i : Int)) f (hinv _ ?_)))
   exact .bad (by omega) h4 h3
  have h4 : cB B i <= 63 := by rw [ec] at h4; have := oF h4; omega
  have ez : IntKind.i64.wrap (IntKind.i64.wrap (cB B i : Int) + 1) = ((cB B i + 1 : Nat) : Int) := by rw [ec, wrapM (by omega) (by omega)]; omega
  refine eI (⟨0, o, n, c, l⟩, ((i : Int), ((cB B i + 1 : Nat) : Int))) (aI ⟨by rw [ez]; rfl, ⟨rfl, h⟩, hn, hcap⟩ ?_)
  refine ifK (fun h5 => ab h5 (by simp; omega)) (fun _ => ?_)
  refine ifK (fun h5 => ?_) (fun h5 => ?_)
  ·have h5 : n < i + (cB B i + 1) := by have h5 : (n : Int) - (i : Int) < ((cB B i + 1 : Nat) : Int) := (oT h5); omega
   refine eI (4 : Int) (aI rfl ?_)
   refine aI ?_ ?_
   ·kernel_rfl
   refine eI (4 : Int) (eI (n : Int) (aI ⟨hsz, rfl⟩ ?_))
   refine aI rfl (zAj (rcq [1] (d := 7) (d2 := 2) (lv := [(4, .string ⟨#[]⟩), (5, .int .i64 0), (6, .pointer (some ⟨1, 0, none⟩))]) (bs := [(1, .cells [.int .i64 (4), .int .i64 ((n : Int))] 48)]) (W := []) (m := 2) (df := []) ⟨⟨_, rfl, .string _⟩, (sI rfl), (sP rfl rfl), tv⟩ ⟨bpo rfl, tv⟩ .nil) (fun f => hret (4) ((n : Int)) f (hinv _ ?_)))
   rw [<- hlB]; exact .short (by omega) h2 h4 (by omega)
  have h5 : i + (cB B i + 1) <= n := by have h5 : ¬ (n : Int) - (i : Int) < ((cB B i + 1 : Nat) : Int) := (oF h5); omega
  have hst : ∀ r, Rd B a p (i + (cB B i + 1)) ([] ++ (B.drop i).take (cB B i + 1)) bh r -> [].length + (cB B i + 1) <= 254 -> Rd B a a a [] (-1) r := fun r hr hl => hinv r (.lab (by omega) h2 h4 (by omega) hl hr)
  have htl : ((B.drop i).take (cB B i + 1)).length = cB B i + 1 := by rw [aU, aM]; omega
  have hsrc : ∀ G : Gh, G 2 = some (.cells (((l.drop (o + i)).take (cB B i + 1)).map byV) 5) -> zAo G 1 (.slice (some ⟨2, 0, none⟩) (cB B i + 1) U) = some (cB B i + 1, ((B.drop i).take (cB B i + 1)).map byV) := fun G hG => by
   unfold zAo
   simp only [hG, Option.bind_some, AObj.look, show (cB B i + 1).beq 0 = false from rfl, cF]
   rw [htake i _ h5, bL (by rw [aT, htl]; omega)]
   simp only [cT, List.drop_zero, aR]
   rw [aD (by rw [aT, htl]; omega)]
  refine eI (((B.drop i).take (cB B i + 1)).map byV) (aI (by rw [h1s]; exact hsrc _ rfl) ?_)
  refine aI (by rw [aO, hby]; simp; omega) ?_
  refine ifK (fun h6 => ab (oT h6) (by rw [aO]; omega)) (fun _ => ?_)
  obtain ⟨u, us, hu⟩ : ∃ u us, (B.drop i).take (cB B i + 1) = u :: us := by
   cases hq : (B.drop i).take (cB B i + 1) with
   | nil => rw [hq] at htl; cases htl
   | cons u us => exact ⟨u, us, rfl⟩
  have hul : us.length + 1 = cB B i + 1 := by rw [<- htl, hu]; rfl
  refine ⟨(p, i + (cB B i + 1), u :: us, bh), ⟨hp, h5, by show us.length + 1 <= 254; omega, ⟨hb1, hb2⟩, fun r hr => hst r (by rw [hu]; exact hr) (by simp; omega)⟩, ?_, ?_⟩
  ·show p * (n + 2) + (n + 1 - (i + (cB B i + 1))) < p * (n + 2) + (n + 1 - i); omega
  exact rcq [1, 4] ⟨(sL rfl rfl), (sI rfl), (sP rfl rfl), ⟨_, rfl, by rw [hul]; exact .sl _ _ _ _ _ rfl⟩, (sI rfl), ⟨_, rfl, by rw [show ((i + (cB B i + 1) : Nat) : Int) = (i : Int) + ((cB B i + 1 : Nat) : Int) by omega]; exact .int _ _⟩, (sI rfl), tv⟩ ⟨bpo (zAb _), bpo rfl, ⟨by decide, _, rfl, zAv (by rw [hu]) (zAb _)⟩, tv⟩ .nil
 | cons u us =>
  refine zAt tbW3 [0, 3] 1 _ none mixed _ _ _ ?_
  refine ifK (fun h1 => ?_) (fun h1 => ?_)
  ·have h1 : n <= i := by have := oT h1; omega
   refine aI rfl (zAj (rcq [1] (d := 7) (d2 := 2) (lv := [(4, .string ⟨#[]⟩), (5, .int .i64 0), (6, .pointer (some ⟨1, 0, none⟩))]) (bs := [(1, .cells [.int .i64 (4), .int .i64 ((n : Int))] 48)]) (W := []) (m := 2) (df := []) ⟨⟨_, rfl, .string _⟩, (sI rfl), (sP rfl rfl), tv⟩ ⟨bpo rfl, tv⟩ .nil) (fun f => hret (4) ((n : Int)) f (hinv _ ?_)))
   rw [<- hlB]; exact .over (by omega)
  have h1 : i < n := by have := oF h1; omega
  refine ifK (fun _ => ?_) (fun h2 => ab h2 (by simp [inI]; omega))
  refine eI (cB B i : Int) (aI (by rw [aO]; exact hcell i h1) ?_)
  have ec : IntKind.i64.wrap (cB B i : Int) = (cB B i : Int) := wrapM (by omega) (by omega)
  refine ifK (fun h2 => ?_) (fun h2 => ?_)
  ·have h2 : cB B i = 0 := by rw [ec] at h2; have h9 : (cB B i : Int) = 0 := (by simpa using h2); omega
   have hz := hinv _ (Rd.zero (B := B) (a := a) (p := p) (i := i) (out := (u :: us)) (bh := bh) (by omega) h2)
   refine ifK (fun h3 => ?_) (fun h3 => ?_)
   ·have h3 : bh < 0 := oT h3
    rw [if_pos h3] at hz
    rw [show (i : Int) + 1 = IntKind.i64.wrap ((i : Int) + 1) by rw [wrapM (by omega) (by omega)]] at hz
    exact aI rfl (zAj (rcq [1, 2] (d := 7) (d2 := 3) (lv := [(6, .pointer (some ⟨1, 0, none⟩)), (7, .slice (some ⟨2, 0, none⟩) (us.length + 1) U), (10, .int .i64 (IntKind.i64.wrap ((i : Int) + 1)))]) (bs := [(1, .cells [.int .i64 0, .int .i64 0] 48), (2, .cells ((u :: us).map byV) 5)]) (W := []) (m := 3) (df := []) ⟨(sP rfl rfl), (sL rfl rfl), (sI rfl), tv⟩ ⟨bpo rfl, bpo (zAb _), tv⟩ .nil) (fun f => hex1 _ _ _ f hout hz))
   have h3 : ¬ bh < 0 := oF h3
   rw [if_neg h3] at hz
   exact aI rfl (zAj (rcq [1, 2] (d := 7) (d2 := 3) (lv := [(6, .pointer (some ⟨1, 0, none⟩)), (7, .slice (some ⟨2, 0, none⟩) (us.length + 1) U), (10, .int .i64 (bh))]) (bs := [(1, .cells [.int .i64 0, .int .i64 0] 48), (2, .cells ((u :: us).map byV) 5)]) (W := []) (m := 3) (df := []) ⟨(sP rfl rfl), (sL rfl rfl), (sI rfl), tv⟩ ⟨bpo rfl, bpo (zAb _), tv⟩ .nil) (fun f => hex1 _ _ _ f hout hz))
  have h2 : 0 < cB B i := by rw [ec] at h2; have h9 : (cB B i : Int) ≠ 0 := (by simpa using h2); omega
  refine ifK (fun h3 => ?_) (fun h3 => ?_)
  ·have h3 : 192 <= cB B i := by rw [ec] at h3; have := oT h3; omega
   refine eI (⟨0, o, n, c, l⟩, (i : Int)) (aI ⟨rfl, ⟨rfl, h⟩, hn⟩ ?_)
   refine ifK (fun h4 => ab h4 (by simp; omega)) (fun _ => ?_)
   refine ifK (fun h4 => ?_) (fun h4 => ?_)
   ·have h4 : i + 2 <= n := aE (show Nat.ble (i + 2) n = true from h4)
    refine eI (0 : Int) (aI rfl ?_)
    have et : bitsI .and .i64 (beN ((l.drop (o + ((i : Nat) : Int).toNat)).take 2) : Int) 16383 = (toB B i : Int) := by rw [aO, htake i 2 h4, two_eq B i (by omega) h3]
    refine ifK (fun h5 => ?_) (fun h5 => ?_)
    ·have h5 : p <= toB B i := by have := oT h5; rw [et] at this; omega
     refine aI rfl (zAj (rcq [1] (d := 7) (d2 := 2) (lv := [(4, .string ⟨#[]⟩), (5, .int .i64 0), (6, .pointer (some ⟨1, 0, none⟩))]) (bs := [(1, .cells [.int .i64 (150), .int .i64 ((i : Int))] 48)]) (W := []) (m := 2) (df := []) ⟨⟨_, rfl, .string _⟩, (sI rfl), (sP rfl rfl), tv⟩ ⟨bpo rfl, tv⟩ .nil) (fun f => hret (150) ((i : Int)) f (hinv _ ?_)))
     exact .ploop (by omega) h3 (by omega) h5
    have h5 : toB B i < p := by have := oF h5; rw [et] at this; omega
    have hst : ∀ r, Rd B a (toB B i) (toB B i) (u :: us) (if bh < 0 then (i : Int) + 2 else bh) r -> Rd B a a a [] (-1) r := fun r hr => hinv r (.ptr (by omega) h3 (by omega) h5 hr)
    have hmu : (toB B i) * (n + 2) + (n + 1 - toB B i) < p * (n + 2) + (n + 1 - i) := by
     have := Nat.mul_le_mul_right (n + 2) (show toB B i + 1 <= p from h5)
     rw [Nat.add_mul, Nat.one_mul] at this; omega
    refine ifK (fun h6 => ?_) (fun h6 => ?_)
    ·have h6 : bh < 0 := oT h6
     simp only [if_pos h6] at hst
     refine ⟨(toB B i, toB B i, (u :: us), ((i + 2 : Nat) : Int)), ⟨by show toB B i <= n; omega, by show toB B i <= n; omega, hout, ⟨by show -1 <= ((i + 2 : Nat) : Int); omega, by show ((i + 2 : Nat) : Int) <= _; omega⟩, fun r hr => hst r (by have e : ((i + 2 : Nat) : Int) = (i : Int) + 2 := (by omega); rw [<- e]; exact hr)⟩, hmu, ?_⟩
     exact rcq [1, 2] ⟨(sL rfl rfl), (sI rfl), (sP rfl rfl), (sL rfl rfl), ⟨_, rfl, by rw [<- et]; exact .int _ _⟩, ⟨_, rfl, by rw [<- et]; exact .int _ _⟩, (sI rfl), tv⟩ ⟨bpo (zAb _), bpo rfl, bpo (zAb _), tv⟩ .nil
    have h6 : ¬ bh < 0 := oF h6
    simp only [if_neg h6] at hst
    refine ⟨(toB B i, toB B i, (u :: us), bh), ⟨by show toB B i <= n; omega, by show toB B i <= n; omega, hout, ⟨by show -1 <= bh; omega, by show bh <= _; omega⟩, fun r hr => hst r hr⟩, hmu, ?_⟩
    exact rcq [1, 2] ⟨(sL rfl rfl), (sI rfl), (sP rfl rfl), (sL rfl rfl), ⟨_, rfl, by rw [<- et]; exact .int _ _⟩, ⟨_, rfl, by rw [<- et]; exact .int _ _⟩, (sI rfl), tv⟩ ⟨bpo (zAb _), bpo rfl, bpo (zAb _), tv⟩ .nil
   have h4 : n < i + 2 := by have h9 : ¬ i + 2 <= n := fun e => (by have h8 := bL e; have h4 : Nat.ble (i + 2) n = false := h4; rw [h8] at h4; cases h4); omega
   refine eI (4 : Int) (aI rfl ?_)
   refine aI ?_ ?_
   ·kernel_rfl
   refine eI (4 : Int) (eI (n : Int) (aI ⟨hsz, rfl⟩ ?_))
   refine aI rfl (zAj (rcq [1] (d := 7) (d2 := 2) (lv := [(4, .string ⟨#[]⟩), (5, .int .i64 0), (6, .pointer (some ⟨1, 0, none⟩))]) (bs := [(1, .cells [.int .i64 (4), .int .i64 ((n : Int))] 48)]) (W := []) (m := 2) (df := []) ⟨⟨_, rfl, .string _⟩, (sI rfl), (sP rfl rfl), tv⟩ ⟨bpo rfl, tv⟩ .nil) (fun f => hret (4) ((n : Int)) f (hinv _ ?_)))
   rw [<- hlB]; exact .pshort (by omega) h3 (by omega)
  have h3 : cB B i < 192 := by rw [ec] at h3; have := oF h3; omega
  refine ifK (fun h4 => ?_) (fun h4 => ?_)
  ·have h4 : 63 < cB B i := by rw [ec] at h4; have := oT h4; omega
   refine aI rfl (zAj (rcq [1] (d := 7) (d2 := 2) (lv := [(4, .string ⟨#[]⟩), (5, .int .i64 0), (6, .pointer (some ⟨1, 0, none⟩))]) (bs := [(1, .cells [.int .i64 (4), .int .i64 ((i : Int))] 48)]) (W := []) (m := 2) (df := []) ⟨⟨_, rfl, .string _⟩, (sI rfl), (sP rfl rfl), tv⟩ ⟨bpo rfl, tv⟩ .nil) (fun f => hret (4) ((i : Int)) f (hinv _ ?_)))
   exact .bad (by omega) h4 h3
  have h4 : cB B i <= 63 := by rw [ec] at h4; have := oF h4; omega
  have ez : IntKind.i64.wrap (IntKind.i64.wrap (cB B i : Int) + 1) = ((cB B i + 1 : Nat) : Int) := by rw [ec, wrapM (by omega) (by omega)]; omega
  refine eI (⟨0, o, n, c, l⟩, ((i : Int), ((cB B i + 1 : Nat) : Int))) (aI ⟨by rw [ez]; rfl, ⟨rfl, h⟩, hn, hcap⟩ ?_)
  refine ifK (fun h5 => ab h5 (by simp; omega)) (fun _ => ?_)
  refine ifK (fun h5 => ?_) (fun h5 => ?_)
  ·have h5 : n < i + (cB B i + 1) := by have h5 : (n : Int) - (i : Int) < ((cB B i + 1 : Nat) : Int) := (oT h5); omega
   refine eI (4 : Int) (aI rfl ?_)
   refine aI ?_ ?_
   ·kernel_rfl
   refine eI (4 : Int) (eI (n : Int) (aI ⟨hsz, rfl⟩ ?_))
   refine aI rfl (zAj (rcq [1] (d := 7) (d2 := 2) (lv := [(4, .string ⟨#[]⟩), (5, .int .i64 0), (6, .pointer (some ⟨1, 0, none⟩))]) (bs := [(1, .cells [.int .i64 (4), .int .i64 ((n : Int))] 48)]) (W := []) (m := 2) (df := []) ⟨⟨_, rfl, .string _⟩, (sI rfl), (sP rfl rfl), tv⟩ ⟨bpo rfl, tv⟩ .nil) (fun f => hret (4) ((n : Int)) f (hinv _ ?_)))
   rw [<- hlB]; exact .short (by omega) h2 h4 (by omega)
  have h5 : i + (cB B i + 1) <= n := by have h5 : ¬ (n : Int) - (i : Int) < ((cB B i + 1 : Nat) : Int) := (oF h5); omega
  have hst : ∀ r, Rd B a p (i + (cB B i + 1)) ((u :: us) ++ (B.drop i).take (cB B i + 1)) bh r -> (u :: us).length + (cB B i + 1) <= 254 -> Rd B a a a [] (-1) r := fun r hr hl => hinv r (.lab (by omega) h2 h4 (by omega) hl hr)
  have htl : ((B.drop i).take (cB B i + 1)).length = cB B i + 1 := by rw [aU, aM]; omega
  have hsrc : ∀ G : Gh, G 3 = some (.cells (((l.drop (o + i)).take (cB B i + 1)).map byV) 5) -> zAo G 1 (.slice (some ⟨3, 0, none⟩) (cB B i + 1) U) = some (cB B i + 1, ((B.drop i).take (cB B i + 1)).map byV) := fun G hG => by
   unfold zAo
   simp only [hG, Option.bind_some, AObj.look, show (cB B i + 1).beq 0 = false from rfl, cF]
   rw [htake i _ h5, bL (by rw [aT, htl]; omega)]
   simp only [cT, List.drop_zero, aR]
   rw [aD (by rw [aT, htl]; omega)]
  refine eI (((B.drop i).take (cB B i + 1)).map byV) (aI (by rw [h1s]; exact hsrc _ rfl) ?_)
  have hul0 : us.length + 1 <= 254 := hout
  have hone : oneL (((B.drop i).take (cB B i + 1)).map byV) = true := by unfold oneL; exact aG.2 (fun v hv => by obtain ⟨b, _, rfl⟩ := List.mem_map.1 hv; rfl)
  refine aI (by rw [aO, hby, h1s]; simp only [bA, dT]; exact ⟨⟨⟨⟨⟨⟨rfl, rfl⟩, bL (by simp)⟩, hone⟩, (by omega)⟩, (by omega)⟩, bL (by rw [aT, aT, htl, aC]; omega)⟩) ?_
  refine ifK (fun h6 => ?_) (fun h6 => ?_)
  ·have h6 : 254 < (u :: us).length + (cB B i + 1) := by have h6 : (((us.length + 1 + (cB B i + 1) : Nat)) : Int) > 254 := (oT h6); simp only [aC]; omega
   refine aI rfl (zAj (rcq [1] (d := 7) (d2 := 2) (lv := [(4, .string ⟨#[]⟩), (5, .int .i64 0), (6, .pointer (some ⟨1, 0, none⟩))]) (bs := [(1, .cells [.int .i64 (3), .int .i64 ((a : Int))] 48)]) (W := []) (m := 2) (df := []) ⟨⟨_, rfl, .string _⟩, (sI rfl), (sP rfl rfl), tv⟩ ⟨bpo rfl, tv⟩ .nil) (fun f => hret (3) ((a : Int)) f (hinv _ ?_)))
   exact .long (by omega) h2 h4 (by omega) h6
  have h6 : (u :: us).length + (cB B i + 1) <= 254 := by have h6 : ¬ (((us.length + 1 + (cB B i + 1) : Nat)) : Int) > 254 := (oF h6); simp only [aC]; omega
  refine ⟨(p, i + (cB B i + 1), u :: (us ++ (B.drop i).take (cB B i + 1)), bh), ⟨hp, h5, by show (us ++ (B.drop i).take (cB B i + 1)).length + 1 <= 254; rw [aB, htl]; simp only [aC] at h6; omega, ⟨hb1, hb2⟩, fun r hr => hst r hr h6⟩, ?_, ?_⟩
  ·show p * (n + 2) + (n + 1 - (i + (cB B i + 1))) < p * (n + 2) + (n + 1 - i); omega
  refine rcq [1, 5] ⟨(sL rfl rfl), (sI rfl), (sP rfl rfl), ⟨_, rfl, ?_⟩, (sI rfl), ⟨_, rfl, by rw [show ((i + (cB B i + 1) : Nat) : Int) = (i : Int) + ((cB B i + 1 : Nat) : Int) by omega]; exact .int _ _⟩, (sI rfl), tv⟩ ⟨bpo (zAb _), bpo rfl, ⟨by decide, _, rfl, zAv ?_ (zAb _)⟩, tv⟩ .nil
  ·rw [show (us ++ (B.drop i).take (cB B i + 1)).length + 1 = us.length + 1 + (cB B i + 1) by rw [aB, htl]; omega]; exact .sl _ _ _ _ _ rfl
  rw [h1s, aR, aD (by simp)]; simp
def wrQ (B : Bl) (x : Int) (r : Res) : Prop := ∃ res, rdOk B x res /\ ∃ H m wr, r = .ret (rrV res) H m wr /\ ∀ k ∈ wr, 1 <= k
theorem read_fn (l : Bl) (o n c : Nat) (x : Int) (h : o + n <= l.length) (hn : n <= 1000000000) (hcap : c = U \/ n <= c /\ c <= 9223372036854775807) : ∃ r, FnS Try.prog 0 99 [.slice (some ⟨0, o, none⟩) n c, .int .i64 x] (heap 1 [(0, .win (l.map byV) 1)]) 1 r /\ wrQ ((l.drop o).take n) x r := by
 have hlB := lenB h
 refine zBp mixed tbW3 [0, 4] Try.func99 (c := bodyOf Try.f99) (by kernel_rfl) ?_
 refine ifK (fun h1 => ?_) (fun h1 => ?_)
 ·have h1 := oT h1
  exact ⟨⟨[], 0, 5, 0⟩, .inl ⟨.inl h1, rfl⟩, _, _, _, rfl, zAu rfl⟩
 have h1 := oF h1
 refine ifK (fun h2 => ?_) (fun h2 => ?_)
 ·have h2 := oT h2
  exact ⟨⟨[], 0, 5, 0⟩, .inl ⟨.inr (by rw [hlB]; omega), rfl⟩, _, _, _, rfl, zAu rfl⟩
 have h2 := oF h2
 obtain ⟨a, rfl⟩ : ∃ a : Nat, x = (a : Int) := ⟨x.toNat, by omega⟩
 have ha : a <= n := by omega
 refine read_loop l o n c a h hn hcap ha (rcq [1] ⟨(sL rfl rfl), (sI rfl), (sP rfl rfl), ⟨_, rfl, zAm 8 rfl⟩, (sI rfl), (sI rfl), (sI rfl), tv⟩ ⟨bpo (zAb l), bpo rfl, tv⟩ .nil) (fun e pos f hr => ?_) (fun bh f hr => ?_) (fun u us bh f hl hr => ?_)
 ·exact ⟨⟨[], 0, e, pos⟩, .inr ⟨a, rfl, by omega, hr⟩, _, _, _, rfl, zAu rfl⟩
 ·exact ⟨⟨[0], bh, 0, 0⟩, .inr ⟨a, rfl, by omega, hr⟩, _, _, _, rfl, zAu rfl⟩
 have h1s : (Try.prog.types[5]).size = 1 := by kernel_rfl
 have hby : (Try.prog.types[5]).bytes = 1 := by kernel_rfl
 have hl0 : us.length + 1 <= 254 := hl
 refine aI (by rw [hby, h1s]; simp only [bA, dT]; exact ⟨⟨⟨⟨⟨⟨rfl, rfl⟩, bL (by simp)⟩, rfl⟩, (by omega)⟩, (by omega)⟩, bL (by simp)⟩) ?_
 refine eI ((u :: us) ++ [0]) (aI ?_ ?_)
 ·have hsrc : ∀ G : Gh, G 4 = some (.cells ((((u :: us).map byV).take ((us.length + 1) * (Try.prog.types[5]).size)) ++ [.int .u8 0]) 5) -> zAo G 1 (.slice (some ⟨4, 0, none⟩) (us.length + 1 + 1) U) = some (us.length + 1 + 1, ((u :: us) ++ [0]).map fun b : UInt8 => Value.int .u8 (b.toNat : Int)) := fun G hG => by
   rw [h1s, aR, aD (by simp)] at hG
   unfold zAo
   simp only [hG, Option.bind_some, AObj.look, show (us.length + 1 + 1).beq 0 = false from rfl, cF]
   rw [bL (by simp)]
   simp only [cT, List.drop_zero, aR]
   rw [aD (by simp), List.map_append]; rfl
  exact hsrc _ rfl
 exact ⟨⟨(u :: us) ++ [0], bh, 0, 0⟩, .inr ⟨a, rfl, by omega, hr⟩, _, _, _, rfl, zAu rfl⟩
def RdB.B (x : RdB) : Bl := (x.l.drop x.o).take x.n
def RdB.small (x : RdB) : Prop := x.n <= 1000000000 /\ (x.c = U \/ x.n <= x.c /\ x.c <= 9223372036854775807)
noncomputable def zUw : CtQ Try.prog :=
 { f := 99, X := RdB × Int, pre := fun x a H _ => a = [x.1.sl, .int .i64 x.2] /\ x.1.at H /\ x.1.small, Q := fun x v => ∃ r : RR, v = rrV r /\ rdOk x.1.B x.2 r,
   ok := fun ⟨⟨b, o, n, c, l⟩, i⟩ a H m ⟨h1, h2, h3⟩ => by
    subst h1
    obtain ⟨r, hF, res, hr, H', m', wr, rfl, hw⟩ := read_fn l o n c i h2.2 h3.1 h3.2
    exact ⟨rrV res, zDc [b] hF hw zKs (.cons _ _ _ _ (.sl _ _ _ _ _ rfl) (zCk rfl)) (zFr h2.1 (zAb l)) (rrV_plain res), res, rfl, hr⟩,
   uniq := fun ⟨x, i⟩ ⟨y, j⟩ a H m ⟨h1, h2, _⟩ ⟨k1, k2, _⟩ => by
    rw [h1] at k1
    simp only [aQ, Value.int.injEq, true_and, and_true] at k1
    rw [RdB.uniq k1.1 h2 k2, k1.2] }
noncomputable def ct_wread : Ct Try.prog 0 := zUw.ct
theorem Rd.name {B : Bl} {a p i : Nat} {out : Bl} {bh : Int} {r : RR} (h : Rd B a p i out bh r) (ha : a <= B.length) (hi : i <= B.length) (hp : p <= B.length) (hbh : bh <= B.length) : (r.e = 0 \/ r.s = []) /\ (r.e ≠ 0 -> 0 <= r.pos /\ r.pos <= B.length) /\ (r.e = 0 -> r.next <= B.length) := by
 have z : ∀ k : Nat, (0 : Int) <= (k : Int) := fun k => Int.natCast_nonneg k
 have le : ∀ k m : Nat, k <= m -> (k : Int) <= (m : Int) := fun k m h => Int.ofNat_le.2 h
 induction h with
 | over h => exact ⟨.inr rfl, fun _ => ⟨z _, Int.le_refl _⟩, fun e => by cases e⟩
 | zero h hc =>
  refine ⟨.inl rfl, fun e => ab rfl e, fun _ => ?_⟩
  dsimp only
  split
  ·exact le (_ + 1) _ h
  exact hbh
 | pshort h hc h2 => exact ⟨.inr rfl, fun _ => ⟨z _, Int.le_refl _⟩, fun e => by cases e⟩
 | ploop h hc h2 h3 => exact ⟨.inr rfl, fun _ => ⟨z _, le _ _ (by omega)⟩, fun e => by cases e⟩
 | ptr h hc h2 h3 hr ih =>
  refine ih (by omega) (by omega) ?_
  split
  ·exact le (_ + 2) _ h2
  exact hbh
 | bad h hc hc2 => exact ⟨.inr rfl, fun _ => ⟨z _, le _ _ (by omega)⟩, fun e => by cases e⟩
 | short h hc hc2 h2 => exact ⟨.inr rfl, fun _ => ⟨z _, Int.le_refl _⟩, fun e => by cases e⟩
 | long h hc hc2 h2 h3 => exact ⟨.inr rfl, fun _ => ⟨z _, le _ _ ha⟩, fun e => by cases e⟩
 | lab h hc hc2 h2 h3 hr ih => exact ih h2 hp hbh
noncomputable def tbD7 (t : Int) (ps : List Pt) (ht : ∀ H n, partsGo t H n partsTab = partsOut ps.length (ps.flatMap Pt.cell) H n) : Tb Try.prog 0 := tbOf mixed [zGc t ps ht, ct_wread, zIo]
noncomputable def tbD7n (t : Int) (ht : ∀ H n, partsGo t H n partsTab = .ret (.tuple #[.slice none 0 0, .bool false]) H n []) : Tb Try.prog 0 := tbOf mixed [zMv t ht]
theorem Rd.fine {B : Bl} {a p i : Nat} {out : Bl} {bh : Int} {r : RR} (h : Rd B a p i out bh r) (hb : bh = -1 \/ 0 <= bh) (ho : out.length <= 254) : r.e = 0 -> 0 <= r.next /\ r.s.length <= 255 := by
 have z : ∀ k : Nat, (0 : Int) <= (k : Int) := fun k => Int.natCast_nonneg k
 induction h with
 | zero h hc =>
  intro _
  dsimp only
  refine ⟨?_, by rw [aB, List.length_singleton]; omega⟩
  split
  ·exact z (_ + 1)
  omega
 | ptr h hc h2 h3 hr ih =>
  refine ih ?_ ho
  split
  ·exact .inr (z (_ + 2))
  exact hb
 | lab h hc hc2 h2 h3 hr ih =>
  refine ih hb ?_
  rw [aB, aU, aM]; omega
 | _ => intro e; cases e
theorem rdOk.fine {B : Bl} {x : Int} {r : RR} (h : rdOk B x r) : (r.e ≠ 0 -> 0 <= r.pos /\ r.pos <= B.length) /\ (r.e = 0 -> 0 <= r.next /\ r.next <= B.length /\ r.s.length <= 255) := by
 rcases h with ⟨_, rfl⟩ | ⟨a, rfl, h1, h2⟩
 ·exact ⟨fun _ => ⟨Int.le_refl _, Int.natCast_nonneg _⟩, fun e => by cases e⟩
 obtain ⟨_, q1, q2⟩ := h2.name h1 h1 h1 (by omega)
 have q3 := h2.fine (.inl rfl) (by simp)
 exact ⟨q1, fun e => ⟨(q3 e).1, q2 e, (q3 e).2⟩⟩
inductive RdP (B : Bl) (a e t : Int) : List Pt -> Int -> Bs -> Bs × Int × Int -> Prop
 | fin {i : Int} {out : Bs} (h1 : i = e) (h2 : checkD t out = 0) : RdP B a e t [] i out (out, 0, 0)
 | off {i : Int} {out : Bs} (h : ¬ (i = e /\ checkD t out = 0)) : RdP B a e t [] i out ([], 4, a)
 | nmb {ps : List Pt} {i : Int} {out : Bs} {r : RR} (h : rdOk B i r) (he : r.e ≠ 0) : RdP B a e t (.nm :: ps) i out ([], r.e, r.pos)
 | nmo {ps : List Pt} {i : Int} {out : Bs} {r : RR} (h : rdOk B i r) (he : r.e = 0) (h2 : r.next > e) : RdP B a e t (.nm :: ps) i out ([], 4, a)
 | nmc {ps : List Pt} {i : Int} {out : Bs} {r : RR} {y : Bs × Int × Int} (h : rdOk B i r) (he : r.e = 0) (h2 : ¬ r.next > e) (k : RdP B a e t ps r.next (out ++ r.s) y) : RdP B a e t (.nm :: ps) i out y
 | rest {ps : List Pt} {i : Int} {out : Bs} {y : Bs × Int × Int} (k : RdP B a e t ps e (out ++ (B.drop i.toNat).take (e.toNat - i.toNat)) y) : RdP B a e t (.rest :: ps) i out y
 | szb {ps : List Pt} {z : Nat} {i : Int} {out : Bs} (h : e - i < z) : RdP B a e t (.sz z :: ps) i out ([], 4, a)
 | szc {ps : List Pt} {z : Nat} {i : Int} {out : Bs} {y : Bs × Int × Int} (h : ¬ e - i < z) (k : RdP B a e t ps (i + z) (out ++ (B.drop i.toNat).take ((i + z).toNat - i.toNat)) y) : RdP B a e t (.sz z :: ps) i out y
theorem RdP.det {B : Bl} {a e t : Int} {ps : List Pt} {i : Int} {out : Bs} {y y' : Bs × Int × Int} (h : RdP B a e t ps i out y) (k : RdP B a e t ps i out y') : y = y' := by
 induction h generalizing y' with
 | fin h1 h2 => cases k with | fin => rfl | off h => exact ab ⟨h1, h2⟩ h
 | off h => cases k with | fin h1 h2 => exact ab ⟨h1, h2⟩ h | off => rfl
 | nmb h he => cases k with | nmb h' => rw [zAp h h'] | nmo h' he' => rw [zAp h h'] at he; exact ab he' he | nmc h' he' => rw [zAp h h'] at he; exact ab he' he
 | nmo h he h2 => cases k with | nmb h' he' => rw [zAp h h'] at he; exact ab he he' | nmo => rfl | nmc h' he' h2' => rw [zAp h h'] at h2; exact ab h2 h2'
 | nmc h he h2 _ ih => cases k with | nmb h' he' => rw [zAp h h'] at he; exact ab he he' | nmo h' he' h2' => rw [zAp h h'] at h2; exact ab h2' h2 | nmc h' _ _ k' => rw [<- zAp h h'] at k'; exact ih k'
 | rest _ ih => cases k with | rest k' => exact ih k'
 | szb h => cases k with | szb => rfl | szc h' => exact ab h h'
 | szc h _ ih => cases k with | szb h' => exact ab h' h | szc _ k' => exact ih k'
def rrS (l : Bl) (o n c : Nat) (t a e : Int) (ps : List Pt) (x : Nat × Int × ByteArray) (f : Nat -> Option Value) : Fs :=
 ⟨slots 8 [(0, .slice (some ⟨0, o, none⟩) n c), (3, .int .i64 t), (9, pt 1), (10, .int .i64 e), (13, pt 3), (14, .string x.2.2), (15, .int .i64 x.2.1), (76, sq 2 ps.length ps.length), (77, .int .i64 ps.length), (78, .int .i64 x.1)] f,
  heap 3 [(0, .win (l.map byV) 1), (1, .cells [.int .i64 0, .int .i64 0] 48), (2, .cells (ps.flatMap Pt.cell) 144), (3, .cells [.int .i64 4, .int .i64 a] 48)], 4, [], []⟩
theorem rr_loop (l : Bl) (o n c : Nat) (t a e : Int) (ps : List Pt) (ht : ∀ H n, partsGo t H n partsTab = partsOut ps.length (ps.flatMap Pt.cell) H n) (hps : ps.length < 900) (h : o + n <= l.length) (hn : n <= 1000000) (hcap : c = U \/ n <= c /\ c <= 9223372036854775807) (ha : 0 <= a /\ a <= e /\ e <= n) {s0 : Fs} {K : Ex -> Fs -> Prop}
  (h0 : ∃ f, RcM Try.prog 0 1 (4 + (Try.f86.ntmps - 4)) none s0 (rrS l o n c t a e ps (0, a, ⟨#[]⟩) f))
  (hret : ∀ er pos f, er ≠ 0 -> 0 <= pos -> pos <= (n : Int) -> RdP ((l.drop o).take n) a e t ps a [] ([], er, pos) -> K .ret ⟨slots 8 [(8, .string ⟨#[]⟩), (9, pt 1)] f, heap 2 [(1, .cells [.int .i64 er, .int .i64 pos] 48)], 2, [], []⟩)
  (hex : ∀ i out f, (bs out).length <= 1000000000 -> (∀ y, RdP ((l.drop o).take n) a e t [] i (bs out) y -> RdP ((l.drop o).take n) a e t ps a [] y) -> K (.exit 1) ⟨slots 8 [(3, .int .i64 t), (9, pt 1), (10, .int .i64 e), (13, pt 3), (14, .string out), (15, .int .i64 i)] f, heap 3 [(1, .cells [.int .i64 0, .int .i64 0] 48), (3, .cells [.int .i64 4, .int .i64 a] 48)], 4, [], []⟩) :
  LW Try.prog 0 1 (4 + (Try.f86.ntmps - 4)) none (loopAt Try.f86 0) s0 K := by
 refine zAr (rrS l o n c t a e ps) (fun x => ps.length - x.1) (fun x => x.1 <= ps.length /\ (0 <= x.2.1 /\ x.2.1 <= e) /\ (bs x.2.2).length <= x.1 * 1001000 /\ ∀ y, RdP ((l.drop o).take n) a e t (ps.drop x.1) x.2.1 (bs x.2.2) y -> RdP ((l.drop o).take n) a e t ps a [] y) (0, a, ⟨#[]⟩) ⟨aH _, ⟨ha.1, ha.2.1⟩, by simp [bs], fun y hy => hy⟩ h0 ?_
 rintro ⟨k, i, out⟩ f ⟨hk, ⟨hi1, hi2⟩, hout, hinv⟩
 have hk : k <= ps.length := hk
 have hi1 : 0 <= i := hi1
 have hi2 : i <= e := hi2
 have hout : (bs out).length <= k * 1001000 := hout
 have hinv : ∀ y, RdP ((l.drop o).take n) a e t (ps.drop k) i (bs out) y -> RdP ((l.drop o).take n) a e t ps a [] y := hinv
 have htake : ∀ j m : Nat, j + m <= n -> (l.drop (o + j)).take m = (((l.drop o).take n).drop j).take m := fun j m hjm => by rw [List.drop_take, List.take_take, List.drop_drop, Nat.min_eq_left (by omega)]
 obtain ⟨ha1, ha2, ha3⟩ := ha
 have h1s : (Try.prog.types[5]).size = 1 := by kernel_rfl
 have lenB' : ((l.drop o).take n).length = n := lenB h
 have hmulk : k * 1001000 <= 900 * 1001000 := Nat.mul_le_mul_right _ (by omega)
 have side : ∀ (h1 : k < ps.length), (0 + ((k : Nat) : Int).toNat * 3 + 3 <= (ps.flatMap Pt.cell).length /\ List.take 3 (List.drop (0 + ((k : Nat) : Int).toNat * 3) (ps.flatMap Pt.cell)) = ps[k].cell) := fun h1 => by
  have := zIq Pt.cell 3 Pt.cell_len ps k h1
  rw [aO, aS]; exact this
 have srcs : ∀ (x y : Int) (o' c' : Nat) (G : Gh), 0 <= x -> x <= y -> y <= n -> (o' = o + x.toNat \/ y.toNat - x.toNat = 0) -> G 0 = some (.win (l.map byV) 1) -> zAo G 1 (.slice (some ⟨0, o', none⟩) (y.toNat - x.toNat) c') = some (y.toNat - x.toNat, (((l.drop (o + x.toNat)).take (y.toNat - x.toNat)).map fun b : UInt8 => Value.int .u8 (b.toNat : Int))) := fun x y o' c' G h1 h2 h3 ho hG => by
  unfold zAo
  by_cases hz : y.toNat - x.toNat = 0
  ·rw [hz]; simp
  have ho := ho.resolve_right hz
  subst ho
  have : (y.toNat - x.toNat).beq 0 = false := by cases hb : (y.toNat - x.toNat).beq 0; rfl; exact ab (aA hb) hz
  simp only [this, cF, hG, Option.bind_some, AObj.look]
  rw [bL (by simp; omega)]
  simp only [cT, aR, List.map_take, List.map_drop]; rfl
 refine zAt (tbD7 t ps ht) [0, 2] 1 _ none mixed _ _ _ ?_
 refine ifK (fun h1 => ?_) (fun h1 => ?_)
 ·have h1 : k < ps.length := by have := oT h1; omega
  have hsd := side h1
  have hst : ps.drop k = ps[k] :: ps.drop (k + 1) := bD h1
  have hmul1 : (k + 1) * 1001000 = k * 1001000 + 1001000 := by rw [Nat.add_mul, Nat.one_mul]
  refine ifK (fun _ => ?_) (fun h2 => ab h2 (by simp [inI]; omega))
  cases hp : ps[k] with
  | nm =>
   rw [hp] at hsd
   refine eI 0 (eI true (eI false (aI hsd ?_)))
   refine eI (⟨0, o, n, c, l⟩, i) (aI ⟨rfl, ⟨rfl, h⟩, by show n <= _; omega, hcap⟩ ?_)
   rintro v ⟨r, rfl, hr⟩
   obtain ⟨s, nx, er, pos⟩ := r
   obtain ⟨q1, q2⟩ := hr.fine
   have q1 : er ≠ 0 -> 0 <= pos /\ pos <= (((l.drop o).take n).length : Int) := q1
   have q2 : er = 0 -> 0 <= nx /\ nx <= (((l.drop o).take n).length : Int) /\ s.length <= 255 := q2
   rw [lenB'] at q1 q2
   refine ifK (fun h3 => ?_) (fun h3 => ?_)
   ·have h3 : er ≠ 0 := by simpa using h3
    refine aI ?_ ?_
    ·kernel_rfl
    exact aI rfl (zAj (rcq [1] (d := 8) (d2 := 2) (lv := [(8, .string ⟨#[]⟩), (9, pt 1)]) (bs := [(1, .cells [.int .i64 er, .int .i64 pos] 48)]) (W := []) (m := 2) (df := []) ⟨⟨_, rfl, .string _⟩, (sP rfl rfl), tv⟩ ⟨bpo rfl, tv⟩ .nil) (fun f => hret _ _ f h3 (q1 h3).1 (q1 h3).2 (hinv _ (by rw [hst, hp]; exact .nmb hr h3))))
   have h3 : er = 0 := by simpa using h3
   obtain ⟨q3, q4, q5⟩ := q2 h3
   refine ifK (fun h4 => ?_) (fun h4 => ?_)
   ·refine aI ?_ ?_
    ·kernel_rfl
    exact aI rfl (zAj (rcq [1] (d := 8) (d2 := 2) (lv := [(8, .string ⟨#[]⟩), (9, pt 1)]) (bs := [(1, .cells [.int .i64 4, .int .i64 a] 48)]) (W := []) (m := 2) (df := []) ⟨⟨_, rfl, .string _⟩, (sP rfl rfl), tv⟩ ⟨bpo rfl, tv⟩ .nil) (fun f => hret _ _ f (by decide) ha1 (by omega) (hinv _ (by rw [hst, hp]; exact .nmo hr h3 (oT h4)))))
   have h4 : ¬ nx > e := oF h4
   have eS : bs ⟨s.toArray⟩ = s := zWt s
   refine aI (zHq (by rw [eS]; have e9 : (bs (k, i, out).2.2).length = (bs out).length := rfl; omega)) ?_
   refine ⟨(k + 1, nx, catS out ⟨s.toArray⟩), ⟨h1, ⟨q3, by show nx <= e; omega⟩, ?_, fun y hy => hinv y (by rw [hst, hp]; exact .nmc hr h3 h4 (by have hy : RdP _ a e t (ps.drop (k + 1)) nx (bs (catS out ⟨s.toArray⟩)) y := hy; rw [zGu, eS] at hy; exact hy))⟩, ?_, ?_⟩
   ·show (bs (catS _ _)).length <= (k + 1) * 1001000
    rw [zGu, eS, aB]; omega
   ·show ps.length - (k + 1) < ps.length - k; omega
   exact rcq [1, 2, 3] ⟨(sL rfl rfl), (sI rfl), (sP rfl rfl), (sI rfl), (sP rfl rfl), ⟨_, rfl, .string _⟩, (sI rfl), (sL rfl rfl), (sI rfl), zAc rfl (by rw [wrapN (by omega) (by omega)]; omega), tv⟩ ⟨bpo (zAb l), bpo rfl, bpo (zAe _ Pt.cell_plain ps), bpo rfl, tv⟩ .nil
  | rest =>
   rw [hp] at hsd
   refine eI 0 (eI false (eI true (aI hsd ?_)))
   refine ifK (fun hcu => ?_) (fun hcu => ?_)
   ·refine aI (by simp only [inLH, bA, dT]; omega) ?_
    refine eI ((l.drop (o + i.toNat)).take ((e).toNat - i.toNat)) (aI (by rw [h1s]; exact srcs i (e) (o + i.toNat * (Try.prog.types[5]).size) _ _ hi1 (by omega) (by omega) (.inl (by rw [h1s]; omega)) rfl) ?_)
    have eS : bs ⟨((l.drop (o + i.toNat)).take ((e).toNat - i.toNat)).toArray⟩ = (l.drop (o + i.toNat)).take ((e).toNat - i.toNat) := zWt _
    have eL : ((l.drop (o + i.toNat)).take ((e).toNat - i.toNat)).length <= 1000000 := by rw [aU]; omega
    refine aI (zHq (by rw [eS]; have e9 : (bs (k, i, out).2.2).length = (bs out).length := rfl; omega)) ?_
    refine ⟨(k + 1, e, catS out ⟨((l.drop (o + i.toNat)).take ((e).toNat - i.toNat)).toArray⟩), ⟨h1, ⟨by show 0 <= e; omega, by show e <= e; omega⟩, ?_, fun y hy => hinv y (by rw [hst, hp]; refine .rest ?_; have hy : RdP _ a e t (ps.drop (k + 1)) e (bs (catS out ⟨((l.drop (o + i.toNat)).take ((e).toNat - i.toNat)).toArray⟩)) y := hy; rw [zGu, eS, htake _ _ (by omega)] at hy; exact hy)⟩, ?_, ?_⟩
    ·show (bs (catS _ _)).length <= (k + 1) * 1001000
     rw [zGu, eS, aB]; omega
    ·show ps.length - (k + 1) < ps.length - k; omega
    exact rcq [1, 2, 3] ⟨(sL rfl rfl), (sI rfl), (sP rfl rfl), (sI rfl), (sP rfl rfl), ⟨_, rfl, .string _⟩, (sI rfl), (sL rfl rfl), (sI rfl), zAc rfl (by rw [wrapN (by omega) (by omega)]; omega), tv⟩ ⟨bpo (zAb l), bpo rfl, bpo (zAe _ Pt.cell_plain ps), bpo rfl, tv⟩ .nil
   have hcU : c ≠ U := fun e0 => (by subst e0; cases hcu)
   obtain ⟨hc1, hc2⟩ := hcap.resolve_left hcU
   refine aI (by simp only [inLH, bA, dT]; exact ⟨⟨⟨⟨by omega, by omega⟩, by omega⟩, bL hc1⟩, bL (by omega)⟩) ?_
   refine eI ((l.drop (o + i.toNat)).take ((e).toNat - i.toNat)) (aI (by rw [h1s]; exact srcs i (e) (bif c.beq i.toNat then o else o + i.toNat * (Try.prog.types[5]).size) _ _ hi1 (by omega) (by omega) ((by cases hb : c.beq i.toNat with | true => (have hb2 := aA hb; exact .inr (by omega)) | false => exact .inl (by rw [cF, h1s]; omega))) rfl) ?_)
   have eS : bs ⟨((l.drop (o + i.toNat)).take ((e).toNat - i.toNat)).toArray⟩ = (l.drop (o + i.toNat)).take ((e).toNat - i.toNat) := zWt _
   have eL : ((l.drop (o + i.toNat)).take ((e).toNat - i.toNat)).length <= 1000000 := by rw [aU]; omega
   refine aI (zHq (by rw [eS]; have e9 : (bs (k, i, out).2.2).length = (bs out).length := rfl; omega)) ?_
   refine ⟨(k + 1, e, catS out ⟨((l.drop (o + i.toNat)).take ((e).toNat - i.toNat)).toArray⟩), ⟨h1, ⟨by show 0 <= e; omega, by show e <= e; omega⟩, ?_, fun y hy => hinv y (by rw [hst, hp]; refine .rest ?_; have hy : RdP _ a e t (ps.drop (k + 1)) e (bs (catS out ⟨((l.drop (o + i.toNat)).take ((e).toNat - i.toNat)).toArray⟩)) y := hy; rw [zGu, eS, htake _ _ (by omega)] at hy; exact hy)⟩, ?_, ?_⟩
   ·show (bs (catS _ _)).length <= (k + 1) * 1001000
    rw [zGu, eS, aB]; omega
   ·show ps.length - (k + 1) < ps.length - k; omega
   exact rcq [1, 2, 3] ⟨(sL rfl rfl), (sI rfl), (sP rfl rfl), (sI rfl), (sP rfl rfl), ⟨_, rfl, .string _⟩, (sI rfl), (sL rfl rfl), (sI rfl), zAc rfl (by rw [wrapN (by omega) (by omega)]; omega), tv⟩ ⟨bpo (zAb l), bpo rfl, bpo (zAe _ Pt.cell_plain ps), bpo rfl, tv⟩ .nil
  | sz z =>
   rw [hp] at hsd
   refine eI (z : Int) (eI false (eI false (aI hsd ?_)))
   have ew : IntKind.i64.wrap (e - i) = e - i := wrapN (by omega) (by omega)
   refine ifK (fun h3 => ?_) (fun h3 => ?_)
   ·refine aI ?_ ?_
    ·kernel_rfl
    exact aI rfl (zAj (rcq [1] (d := 8) (d2 := 2) (lv := [(8, .string ⟨#[]⟩), (9, pt 1)]) (bs := [(1, .cells [.int .i64 4, .int .i64 a] 48)]) (W := []) (m := 2) (df := []) ⟨⟨_, rfl, .string _⟩, (sP rfl rfl), tv⟩ ⟨bpo rfl, tv⟩ .nil) (fun f => hret _ _ f (by decide) ha1 (by omega) (hinv _ (by rw [hst, hp]; exact .szb (by have h3 := oT h3; rw [ew] at h3; exact h3)))))
   have h3 : ¬ e - i < z := by have h3 := oF h3; rw [ew] at h3; exact h3
   have ey : IntKind.i64.wrap (i + (z : Int)) = i + z := wrapN (by omega) (by omega)
   refine aI ?_ ?_
   ·kernel_rfl
   refine ifK (fun hcu => ?_) (fun hcu => ?_)
   ·refine aI (by simp only [inLH, bA, dT]; omega) ?_
    refine eI ((l.drop (o + i.toNat)).take ((IntKind.i64.wrap (i + (z : Int))).toNat - i.toNat)) (aI (by rw [h1s]; exact srcs i (IntKind.i64.wrap (i + (z : Int))) (o + i.toNat * (Try.prog.types[5]).size) _ _ hi1 (by omega) (by omega) (.inl (by rw [h1s]; omega)) rfl) ?_)
    have eS : bs ⟨((l.drop (o + i.toNat)).take ((IntKind.i64.wrap (i + (z : Int))).toNat - i.toNat)).toArray⟩ = (l.drop (o + i.toNat)).take ((IntKind.i64.wrap (i + (z : Int))).toNat - i.toNat) := zWt _
    have eL : ((l.drop (o + i.toNat)).take ((IntKind.i64.wrap (i + (z : Int))).toNat - i.toNat)).length <= 1000000 := by rw [aU]; omega
    refine aI (zHq (by rw [eS]; have e9 : (bs (k, i, out).2.2).length = (bs out).length := rfl; omega)) ?_
    refine ⟨(k + 1, IntKind.i64.wrap (i + (z : Int)), catS out ⟨((l.drop (o + i.toNat)).take ((IntKind.i64.wrap (i + (z : Int))).toNat - i.toNat)).toArray⟩), ⟨h1, ⟨by show 0 <= IntKind.i64.wrap (i + (z : Int)); omega, by show IntKind.i64.wrap (i + (z : Int)) <= e; omega⟩, ?_, fun y hy => hinv y (by rw [hst, hp]; refine .szc h3 ?_; have hy : RdP _ a e t (ps.drop (k + 1)) (IntKind.i64.wrap (i + (z : Int))) (bs (catS out ⟨((l.drop (o + i.toNat)).take ((IntKind.i64.wrap (i + (z : Int))).toNat - i.toNat)).toArray⟩)) y := hy; rw [zGu, eS, htake _ _ (by omega), ey] at hy; exact hy)⟩, ?_, ?_⟩
    ·show (bs (catS _ _)).length <= (k + 1) * 1001000
     rw [zGu, eS, aB]; omega
    ·show ps.length - (k + 1) < ps.length - k; omega
    exact rcq [1, 2, 3] ⟨(sL rfl rfl), (sI rfl), (sP rfl rfl), (sI rfl), (sP rfl rfl), ⟨_, rfl, .string _⟩, (sI rfl), (sL rfl rfl), (sI rfl), zAc rfl (by rw [wrapN (by omega) (by omega)]; omega), tv⟩ ⟨bpo (zAb l), bpo rfl, bpo (zAe _ Pt.cell_plain ps), bpo rfl, tv⟩ .nil
   have hcU : c ≠ U := fun e0 => (by subst e0; cases hcu)
   obtain ⟨hc1, hc2⟩ := hcap.resolve_left hcU
   refine aI (by simp only [inLH, bA, dT]; exact ⟨⟨⟨⟨by omega, by omega⟩, by omega⟩, bL hc1⟩, bL (by omega)⟩) ?_
   refine eI ((l.drop (o + i.toNat)).take ((IntKind.i64.wrap (i + (z : Int))).toNat - i.toNat)) (aI (by rw [h1s]; exact srcs i (IntKind.i64.wrap (i + (z : Int))) (bif c.beq i.toNat then o else o + i.toNat * (Try.prog.types[5]).size) _ _ hi1 (by omega) (by omega) ((by cases hb : c.beq i.toNat with | true => (have hb2 := aA hb; exact .inr (by omega)) | false => exact .inl (by rw [cF, h1s]; omega))) rfl) ?_)
   have eS : bs ⟨((l.drop (o + i.toNat)).take ((IntKind.i64.wrap (i + (z : Int))).toNat - i.toNat)).toArray⟩ = (l.drop (o + i.toNat)).take ((IntKind.i64.wrap (i + (z : Int))).toNat - i.toNat) := zWt _
   have eL : ((l.drop (o + i.toNat)).take ((IntKind.i64.wrap (i + (z : Int))).toNat - i.toNat)).length <= 1000000 := by rw [aU]; omega
   refine aI (zHq (by rw [eS]; have e9 : (bs (k, i, out).2.2).length = (bs out).length := rfl; omega)) ?_
   refine ⟨(k + 1, IntKind.i64.wrap (i + (z : Int)), catS out ⟨((l.drop (o + i.toNat)).take ((IntKind.i64.wrap (i + (z : Int))).toNat - i.toNat)).toArray⟩), ⟨h1, ⟨by show 0 <= IntKind.i64.wrap (i + (z : Int)); omega, by show IntKind.i64.wrap (i + (z : Int)) <= e; omega⟩, ?_, fun y hy => hinv y (by rw [hst, hp]; refine .szc h3 ?_; have hy : RdP _ a e t (ps.drop (k + 1)) (IntKind.i64.wrap (i + (z : Int))) (bs (catS out ⟨((l.drop (o + i.toNat)).take ((IntKind.i64.wrap (i + (z : Int))).toNat - i.toNat)).toArray⟩)) y := hy; rw [zGu, eS, htake _ _ (by omega), ey] at hy; exact hy)⟩, ?_, ?_⟩
   ·show (bs (catS _ _)).length <= (k + 1) * 1001000
    rw [zGu, eS, aB]; omega
   ·show ps.length - (k + 1) < ps.length - k; omega
   exact rcq [1, 2, 3] ⟨(sL rfl rfl), (sI rfl), (sP rfl rfl), (sI rfl), (sP rfl rfl), ⟨_, rfl, .string _⟩, (sI rfl), (sL rfl rfl), (sI rfl), zAc rfl (by rw [wrapN (by omega) (by omega)]; omega), tv⟩ ⟨bpo (zAb l), bpo rfl, bpo (zAe _ Pt.cell_plain ps), bpo rfl, tv⟩ .nil
 have h1 : ¬ k < ps.length := by have := oF h1; omega
 exact aI rfl (zAj (rcq [1, 99, 3] (d := 8) (d2 := 3) (lv := [(3, .int .i64 t), (9, pt 1), (10, .int .i64 e), (13, pt 3), (14, .string out), (15, .int .i64 i)]) (bs := [(1, .cells [.int .i64 0, .int .i64 0] 48), (3, .cells [.int .i64 4, .int .i64 a] 48)]) (W := []) (m := 4) (df := []) ⟨(sI rfl), (sP rfl rfl), (sI rfl), (sP rfl rfl), ⟨_, rfl, .string _⟩, (sI rfl), tv⟩ ⟨bpo rfl, bpo rfl, tv⟩ .nil) (fun f => hex _ _ f (by omega) (fun y hy => hinv y (by rw [show ps.drop k = [] from bE (by omega)]; exact hy))))
end Go.Proofs.Ytcggcoijhdagnaa
