/- DERIVED. Parts. -/
import Derived.Test.YtcggcoijhdagnaaZ12
import Derived.Test.YtcggcoijhdagnaaZ13
import Derived.Test.YtcggcoijhdagnaaZ16
set_option maxRecDepth 1000000
set_option maxHeartbeats 32000000
namespace Go.Proofs.Ytcggcoijhdagnaa
open Go Go.RowKit
def bs (s : ByteArray) : Bs := s.data.toList
theorem str_bs (s : ByteArray) : str (bs s) = .string s := by simp [str, bs]
def shortB (s : ByteArray) : Bool := s.data.size.ble 1000000000
theorem zGb {s : ByteArray} (h : shortB s = true) : (bs s).length <= 1000000000 := by unfold bs; rw [Array.length_toList]; exact aE h
def gStr : List Value -> Option Bool
 | [.string s] => some (shortB s)
 | _ => none
def Ct.str1 (f : FuncId) (out : ByteArray -> Value) (hp : ∀ s, plainV 8 (out s) = true) (ok : ∀ s w, (bs s).length <= 1000000000 -> Calls Try.prog f #[.string s] w fun e w' => e = .returned (out s) /\ Below w.heap.size w w') : Ct Try.prog 0 where
 f := f
 res l H n := match l with | [.string s] => bif shortB s then .ret (out s) H n [] else .bad "long" [] | _ => .bad "arguments" []
 ok l H n := by
  split
  ·rename_i s
   cases hs : shortB s with
   | false => trivial
   | true => exact zPt (fun w => ok s w (zGb hs)) rfl (hp s) H n
  trivial
 ck l H n K := match l with | [.string s] => shortB s = true /\ K (.ret (out s) H n []) | _ => False
 imp l H n K h := by
  split at h
  ·obtain ⟨h1, h2⟩ := h
   simp only [h1, cT]; exact h2
  exact h.elim
def zHt : Ct Try.prog 0 := Ct.str1 52 (fun s => .int .i64 (labels (bs s)).2) (fun _ => rfl) (fun s w hs => by have := zOt (bs s) w hs; rwa [str_bs] at this)
def mkS (l : Bl) : ByteArray := ⟨l.toArray⟩
def encT (T : List (Bl × Nat)) : List MapEntry := T.map fun p => { key := .string (mkS p.1), val := .int .i64 (p.2 : Int), born := 0 }
section
theorem zUv (em : Bool) (s : ByteArray) : keyOk Try.prog 9 em (.string s) = true := by cases em <;> kernel_rfl
theorem zQf (a b : ByteArray) (v : Value) (k : Nat) : eqK Try.prog 9 (.string a) { key := .string b, val := v, born := k } = some (a.data == b.data) := by kernel_rfl
theorem zOr {a b : Bl} (h : mkS a = mkS b) : a = b := by
 have := congrArg (fun x : ByteArray => x.data.toList) h
 simpa [mkS] using this
theorem zQr (a b : Bl) : ((mkS a).data == (mkS b).data) = decide (a = b) := by
 by_cases h : a = b
 ·subst h; simp
 rw [aY h]
 cases he : (mkS a).data == (mkS b).data
 ·rfl
 have h2 : (mkS a).data = (mkS b).data := eq_of_beq he
 exact ab (zOr (congrArg ByteArray.mk h2)) h
def lookT : List (Bl × Nat) -> Bl -> Option Nat
 | [], _ => none
 | (t, k) :: T, s => if s = t then some k else lookT T s
theorem zEo {s : Bl} : ∀ {T : List (Bl × Nat)}, lookT T s = none ↔ s ∉ T.map (·.1)
 | [] => by simp [lookT]
 | (t, k) :: T => by
  unfold lookT
  by_cases h : s = t
  ·subst h; simp
  rw [if_neg h, zEo (T := T)]; simp [h]
theorem zEq (T : List (Bl × Nat)) : zAj (encT T) = true := by
 unfold zAj encT
 rw [List.all_map]
 exact aG.2 fun _ _ => rfl
theorem zLa {s : Bl} : ∀ {T : List (Bl × Nat)} (i : Nat), lookT T s = none -> zEg Try.prog 9 (.string (mkS s)) (encT T) i = some none
 | [], _, _ => rfl
 | (t, k) :: T, i, h => by
  unfold lookT at h
  split at h
  ·cases h
  rename_i hne
  show zEg _ _ _ (_ :: encT T) i = _
  unfold zEg
  rw [zQf, zQr, aY hne]
  exact zLa (i + 1) h
theorem zQl {s : Bl} {v : Nat} : ∀ {T : List (Bl × Nat)} (i : Nat), (T.map (·.1)).Nodup -> lookT T s = some v -> ∃ j, zEg Try.prog 9 (.string (mkS s)) (encT T) i = some (some (j, .int .i64 (v : Int)))
 | (t, k) :: T, i, hn, h => by
  rw [List.map_cons, List.nodup_cons] at hn
  unfold lookT at h
  show ∃ j, zEg _ _ _ (_ :: encT T) i = _
  unfold zEg
  rw [zQf, zQr]
  split at h
  ·rename_i he
   subst he
   cases h
   refine ⟨i, ?_⟩
   have hall : ∀ x ∈ encT T, eqK Try.prog 9 (.string (mkS s)) x = some false := fun x hx => by
    obtain ⟨p, hp, rfl⟩ := List.mem_map.1 hx
    have hne : s ≠ p.1 := fun e => hn.1 (by show s ∈ _; rw [e]; exact List.mem_map_of_mem hp)
    rw [zQf, zQr, aY hne]
   have key : ∀ (p : MapEntry -> Bool), (∀ x ∈ encT T, p x = true) -> (encT T).all p = true := fun p hp => aG.2 hp
   simp only [decide_true]
   rw [key]
   ·rfl
   intro x hx
   rw [hall x hx]
  rename_i hne
  rw [aY hne]
  exact zQl (i + 1) hn.2 h
section
variable {ev : Operand -> Value} {G : Gh} {n : Nat} {o : Oper}
theorem zPo {t : TypeId} {x y : Operand} {r ck v : Nat} {T : List (Bl × Nat)} {s : Bl} (ho : o.op = .lookup t x y true) (hx : ev x = .map (some r)) (hy : ev y = .string (mkS s)) (hu : Try.prog.underlying t = some (.map 9 3)) (hG : G r = some (.map (encT T) ck)) (hn : (T.map (·.1)).Nodup) (h : lookT T s = some v) :
  aop Try.prog o ev G n = .val (.tuple #[.int .i64 (v : Int), .bool true]) [] 0 := by
 obtain ⟨j, hj⟩ := zQl 0 hn h
 unfold aop aop0 aStr
 simp only [ho, ORes.or]
 unfold zHa
 simp only [hu, hx, hy, hG, Try.underlying9, zEq, zUv, Bool.and_self, cT, hj]
theorem zPn {t : TypeId} {x y : Operand} {r ck : Nat} {T : List (Bl × Nat)} {s : Bl} (ho : o.op = .lookup t x y true) (hx : ev x = .map (some r)) (hy : ev y = .string (mkS s)) (hu : Try.prog.underlying t = some (.map 9 3)) (hG : G r = some (.map (encT T) ck)) (h : lookT T s = none) :
  aop Try.prog o ev G n = .val (.tuple #[.int .i64 0, .bool false]) [] 0 := by
 have hz : ((Try.prog.info? 3).bind (·.zero)) = some (.int .i64 0) := by kernel_rfl
 obtain ⟨i, h1, h2⟩ := bF.1 hz
 unfold aop aop0 aStr
 simp only [ho, ORes.or]
 unfold zHa
 simp only [hu, hx, hy, hG, Try.underlying9, zEq, zUv, Bool.and_self, cT, zLa 0 h, h1, h2]
 rfl
theorem zUi {t : TypeId} {x y z : Operand} {r ck k : Nat} {T : List (Bl × Nat)} {s : Bl} (ho : o.op = .mapUpdate t x y z) (hx : ev x = .map (some r)) (hy : ev y = .string (mkS s)) (hz : ev z = .int .i64 (k : Int)) (hu : Try.prog.underlying t = some (.map 9 3)) (hG : G r = some (.map (encT T) ck)) (h : lookT T s = none) :
  aop Try.prog o ev G n = .val undef [(r, some (.map (encT (T ++ [(s, k)])) (ck + 1)))] 0 := by
 unfold aop aop0 aStr
 simp only [ho, ORes.or]
 unfold zHb
 simp only [hu, hx, hy, hz, hG, Try.underlying9, zEq, zUv, Bool.and_self, cT, zLa 0 h]
 unfold encT
 rw [List.map_append]; rfl
end
def packN (T : List (Bl × Nat)) (a : Nat) : Nat -> Bl -> Nat -> Bl × List (Bl × Nat)
 | 0, _, _ => ([], [])
 | f + 1, t, o =>
  let c := (t.getD 0 0).toNat
  if c = 0 then ([0], []) else
  match lookT T t with
  | some k => ([UInt8.ofNat (192 + k / 256), UInt8.ofNat (k % 256)], [])
  | none =>
   let r := packN T a f (t.drop (c + 1)) (o + c + 1)
   (t.take (c + 1) ++ r.1, if a + o < 16384 then (t, a + o) :: r.2 else r.2)
end
noncomputable def inl_put : Ct Try.prog 0 := Ct.inl (tbOf mixed []) mixed [] 67 Try.f67 Try.func67 (bodyOf Try.f67) (by kernel_rfl)
noncomputable def tbPk3 : Tb Try.prog 0 := tbOf mixed [inl_put]
def hi8 (v : Nat) : UInt8 := UInt8.ofNat (v / 256)
def lo8 (v : Nat) : UInt8 := UInt8.ofNat (v % 256)
theorem fdivP (v : Nat) (k : Nat) : Int.fdiv (v : Int) (2 ^ k) = ((v / 2 ^ k : Nat) : Int) := by
 have : ((2 : Int) ^ k) = ((2 ^ k : Nat) : Int) := by norm_cast
 rw [this, Int.ofNat_fdiv]
theorem wrap8 {n : Nat} : IntKind.u8.wrap (n : Int) = ((UInt8.ofNat n).toNat : Int) := by
 have h : IntKind.u8.wrap (n : Int) = (n : Int) % 256 := rfl
 rw [h]; simp
theorem put16_fn (v : Nat) (h : v < 65536) : ∃ r, FnS Try.prog 0 43 [.int .i64 (v : Int)] .e 0 r /\ ∃ H m wr, r = .ret (.tuple #[sq 4 2 U, .int .i64 0]) H m wr /\ H.get 4 = some (.cells ([hi8 v, lo8 v].map byV) 5) := by
 have a1 : shrI .i64 (v : Int) (IntKind.i64.wrap (8 * 2)) = 0 := by
  show Int.fdiv (v : Int) (2 ^ 16) = 0
  rw [fdivP]; omega
 have a2 : IntKind.u8.wrap (shrI .i64 (v : Int) (IntKind.i64.wrap (8 * IntKind.i64.wrap (IntKind.i64.wrap (2 - 1) - 0)))) = ((hi8 v).toNat : Int) := by
  show IntKind.u8.wrap (Int.fdiv (v : Int) (2 ^ 8)) = _
  rw [fdivP]; exact wrap8
 have a3 : IntKind.u8.wrap (shrI .i64 (v : Int) (IntKind.i64.wrap (8 * IntKind.i64.wrap (IntKind.i64.wrap (2 - 1) - IntKind.i64.wrap (0 + 1))))) = ((lo8 v).toNat : Int) := by
  show IntKind.u8.wrap (Int.fdiv (v : Int) (2 ^ 0)) = _
  rw [fdivP]
  have : IntKind.u8.wrap ((v / 2 ^ 0 : Nat) : Int) = ((v / 2 ^ 0 : Nat) : Int) % 256 := rfl
  rw [this]; unfold lo8; simp
 refine zBh mixed tbPk3 [] Try.func43 (c := bodyOf Try.f43) (by kernel_rfl) ?_
 refine ifK (fun g => by have g : (shrI .i64 (v : Int) (IntKind.i64.wrap (8 * 2)) != 0) = true := g; rw [a1] at g; cases g) (fun _ => ?_)
 refine aI (by kernel_rfl) ?_
 refine ⟨_, _, _, rfl, ?_⟩
 show some (AObj.cells [.int .u8 _, .int .u8 _] _) = _
 rw [a2, a3]; rfl
noncomputable def zNy : Ct Try.prog 0 :=
 CtR.ct { f := 43, X := Nat, pre := fun v a _ _ => a = [.int .i64 (v : Int)] /\ v < 65536,
          out := fun v H n => .ret (.tuple #[sq n 2 U, .int .i64 0]) (layN H n [([hi8 v, lo8 v].map byV, 5)]) (n + 1) [],
          ok := fun v a H n ⟨h1, h2⟩ => by
           subst h1
           obtain ⟨r, hF, H', m, wr, rfl, hg⟩ := put16_fn v h2
           refine zHc (fun n => .tuple #[sq n 2 U, .int .i64 0]) [] [4] [([hi8 v, lo8 v].map byV, 5)] hF (fun k _ => aH k) (fun i j o hij hi => by simp at hi) (ArgOK.of (.cons _ _ _ _ (.int _ _) .nil)) (fun k o hk => by cases hk) (by decide) (fun x hx => by simp at hx; subst hx; exact ⟨aH _, by decide⟩) rfl (fun i b xs e hb hc => ?_)
            (fun n => .tuple _ _ (.cons _ _ _ _ (.sl _ _ _ _ _ (zDw 0 (by decide) (aH _) rfl)) (.cons _ _ _ _ (.int _ _) .nil)))
           match i, hb, hc with
           | 0, hb, hc => cases hb; cases hc; exact ⟨hg, zAa _⟩
           | i + 1, hb, hc => simp at hb,
          uniq := fun x y a H n ⟨h1, _⟩ ⟨k1, _⟩ => by
           rw [h1] at k1
           simp only [aQ, Value.int.injEq, true_and, and_true] at k1
           have : x = y := by omega
           rw [this] }
theorem zPs (s : ByteArray) (l h : Nat) : bs (subS s l h) = ((bs s).take h).drop l := by simp [bs, subS]
theorem zAd (s : ByteArray) : s.data.size = (bs s).length := by simp [bs]
theorem zNp (s : ByteArray) (i : Nat) (h : i < (bs s).length) : atS s (i : Int) = (bs s)[i] := by
 unfold atS
 rw [aO, List.getD_eq_getElem?_getD]
 show ((bs s)[i]?).getD 0 = _
 rw [gG h]; rfl
theorem wrapN {x : Int} (h1 : 0 <= x) (h2 : x < 9223372036854775808) : IntKind.i64.wrap x = x := zAp (by omega) h2
theorem zNr (c : UInt8) : c.toNat < 256 := UInt8.toNat_lt c
def txtF : Nat -> Bs -> Bool
 | 0, _ => false
 | _ + 1, [] => true
 | n + 1, c :: r => decide (c.toNat <= r.length) && txtF n (r.drop c.toNat)
theorem txtF_eq : ∀ (n m : Nat) (l : Bs), l.length < n -> l.length < m -> txtF n l = txtF m l
 | n + 1, m + 1, [], _, _ => rfl
 | n + 1, m + 1, c :: r, h1, h2 => by
  simp only [txtF]
  rw [txtF_eq n m (r.drop c.toNat) (by simp at h1 ⊢; omega) (by simp at h2 ⊢; omega)]
def txt (l : Bs) : Bool := txtF (l.length + 1) l
theorem txt_nil : txt [] = true := rfl
theorem txt_cons (c : UInt8) (r : Bs) : txt (c :: r) = (decide (c.toNat <= r.length) && txt (r.drop c.toNat)) := by
 unfold txt
 simp only [txtF, aC]
 rw [txtF_eq (r.length + 1) ((r.drop c.toNat).length + 1) _ (by simp; omega) (by omega)]
theorem txt_at (l : Bs) (i : Nat) (h : i < l.length) : txt (l.drop i) = (decide (i + 1 + l[i].toNat <= l.length) && txt (l.drop (i + 1 + l[i].toNat))) := by
 rw [bD h, txt_cons, List.drop_drop]
 congr 1
 rw [decide_eq_decide]; simp; omega
def texts (l : Bs) : Bool := !l.isEmpty && txt l
theorem texts_fn (s : ByteArray) (hs : (bs s).length <= 1000000000) : ∃ r, FnS Try.prog 0 107 [.string s] .e 0 r /\ ∃ H m wr, r = .ret (.bool (texts (bs s))) H m wr := by
 refine zBh mixed (tbOf mixed []) [] Try.func107 (c := bodyOf Try.f107) (by kernel_rfl) ?_
 refine zOo (fun i f => ⟨slots 6 [(0, .string s), (3, .int .i64 (i : Nat))] f, heap 0 [], 0, [], []⟩) (fun i => (bs s).length - i) (fun i => i <= (bs s).length /\ txt (bs s) = txt ((bs s).drop i)) 0 ⟨aH _, rfl⟩
  (zAz [] rfl rfl rfl (fun l e => by cases e) List.nodup_nil (fun x hx => by cases hx) rfl rfl (fun k hk _ => hk) ⟨⟨_, rfl, .string _⟩, (sI rfl), tv⟩ trivial .nil) ?_
 rintro i f ⟨hi, heq⟩
 refine zAm (tbOf mixed []) [] 0 _ none mixed _ _ _ ?_
 refine ifK (fun h1 => ?_) (fun h1 => ?_)
 ·have h1 : i < (bs s).length := by have := oT h1; rw [zAd] at this; omega
  have hb := zNr (bs s)[i]
  have hat := zNp s i h1
  have e1 : IntKind.i64.wrap ((i : Int) + IntKind.i64.wrap (1 + IntKind.i64.wrap ((atS s (i : Int)).toNat : Int))) = ((i + 1 + (bs s)[i].toNat : Nat) : Int) := by
   rw [hat, wrapN (x := (((bs s)[i]).toNat : Int)) (by omega) (by omega), wrapN (x := 1 + (((bs s)[i]).toNat : Int)) (by omega) (by omega), wrapN (by omega) (by omega)]; omega
  refine aI (by simp only [inI, zAd]; simp; omega) ?_
  have hstep := txt_at (bs s) i h1
  refine ifK (fun h2 => ?_) (fun h2 => ?_)
  ·have h2 := oT h2
   rw [e1, zAd] at h2
   have : texts (bs s) = false := by
    unfold texts; rw [heq, hstep, aY (by omega)]; simp
   rw [this]; exact ⟨_, _, _, rfl⟩
  have h2 := oF h2
  rw [e1, zAd] at h2
  refine ⟨i + 1 + (bs s)[i].toNat, ⟨by omega, ?_⟩, by omega, zAz [] rfl rfl rfl (fun l e => by cases e) List.nodup_nil (fun x hx => by cases hx) rfl rfl (fun k hk _ => hk) ⟨⟨_, rfl, .string _⟩, zAb rfl e1, tv⟩ trivial .nil⟩
  rw [heq, hstep, aX (by omega), Bool.true_and]
 have h1 : ¬ i < (bs s).length := by have := oF h1; rw [zAd] at this; omega
 have : texts (bs s) = !(s.data.toList == []) := by
  unfold texts
  rw [heq, bE (by omega), txt_nil, Bool.and_true]
  show (!(bs s).isEmpty) = !(bs s == [])
  cases bs s <;> rfl
 rw [this]; exact ⟨_, _, _, rfl⟩
def rOf (Q : Value -> Tr AObj -> Prop) (r : Res) : Prop := match r with | .ret v H _ _ => Q v H | _ => False
def resV (r : Res) : Value := match r with | .ret v _ _ _ => v | _ => .nilFunc
noncomputable def evP (t : Int) : Res := ev Try.prog 0 1000 (.call 102 [.int .i64 t]) ⟨.e, .e, 0, [], []⟩
theorem zCo (t : Int) (Q : Value -> Tr AObj -> Prop) : (frcTr (tmpsOf [.int .i64 t] 0 .e) fun T => sx (tbK mixed (g0 := 0) true []) [] 0 (1 + (Try.f102.ntmps - 1)) none (bodyOf Try.f102) ⟨T, .e, 0, [], []⟩ (fnK (tbK mixed (g0 := 0) true []) Try.f102 (rOf Q))) =
  brK (t == 1) (Q (resV (evP 1)) (resH (evP 1))) (brK (t == 28) (Q (resV (evP 28)) (resH (evP 1))) (brK (t == 2) (Q (resV (evP 2)) (resH (evP 1))) (brK (t == 5) (Q (resV (evP 5)) (resH (evP 1))) (brK (t == 12) (Q (resV (evP 12)) (resH (evP 1)))
   (brK (t == 15) (Q (resV (evP 15)) (resH (evP 1))) (brK (t == 6) (Q (resV (evP 6)) (resH (evP 1))) (brK (t == 16) (Q (resV (evP 16)) (resH (evP 1))) (Q (.tuple #[.slice none 0 0, .bool false]) (resH (evP 1)))))))))) := by kernel_rfl
def part (n : Int) (name rest : Bool) : List Value := [.int .i64 n, .bool name, .bool rest]
def partsTab : List (Int × Nat × List Value) :=
 [(1, 1, part 4 false false), (28, 1, part 16 false false), (2, 1, part 0 true false), (5, 1, part 0 true false), (12, 1, part 0 true false), (15, 2, part 2 false false ++ part 0 true false),
  (6, 3, part 0 true false ++ part 0 true false ++ part 20 false false), (16, 1, part 0 false true)]
def partsOut (len : Nat) (c : List Value) (H : Tr AObj) (n : Nat) : Res := .ret (.tuple #[.slice (some ⟨n, 0, none⟩) len len, .bool true]) (H.set n (some (.cells c 144))) (n + 1) []
def partsGo (t : Int) (H : Tr AObj) (n : Nat) : List (Int × Nat × List Value) -> Res
 | [] => .ret (.tuple #[.slice none 0 0, .bool false]) H n []
 | (k, len, c) :: l => bif t == k then partsOut len c H n else partsGo t H n l
theorem zVg (t : Int) (H : Tr AObj) (n : Nat) : CallOK Try.prog 0 102 [.int .i64 t] H n (partsGo t H n partsTab) := by
 have main : ∀ v, (frcTr (tmpsOf [.int .i64 t] 0 .e) fun T => sx (tbK mixed (g0 := 0) true []) [] 0 (1 + (Try.f102.ntmps - 1)) none (bodyOf Try.f102) ⟨T, .e, 0, [], []⟩ (fnK (tbK mixed (g0 := 0) true []) Try.f102 (rOf fun v' H' => v' = v /\ H' = resH (evP 1)))) -> ∃ m wr, FnS Try.prog 0 102 [.int .i64 t] .e 0 (.ret v (resH (evP 1)) m wr) := by
  intro v h
  obtain ⟨r, h1, h2⟩ := zBh mixed (tbK mixed true []) [] Try.func102 (c := bodyOf Try.f102) (by kernel_rfl) h
  cases r with
  | ret v' H' m wr => obtain ⟨rfl, rfl⟩ := h2; exact ⟨m, wr, h1⟩
  | _ => exact h2.elim
 have one : ∀ (b len : Nat) (c : List Value), (∃ m wr, FnS Try.prog 0 102 [.int .i64 t] .e 0 (.ret (.tuple #[.slice (some ⟨b, 0, none⟩) len len, .bool true]) (resH (evP 1)) m wr)) -> (resH (evP 1)).get b = some (.cells c 144) -> b < JJ -> plainL c = true -> CallOK Try.prog 0 102 [.int .i64 t] H n (partsOut len c H n) := by
  rintro b len c ⟨m, wr, hF⟩ hb hJ hp
  exact zDc (fun n => .tuple #[.slice (some ⟨n, 0, none⟩) len len, .bool true]) hF rfl hb hJ hp (fun n => .tuple _ _ (.cons _ _ _ _ (.sl _ _ _ _ _ (zJc _ _)) (.cons _ _ _ _ (.bool _) .nil))) H n
 unfold partsTab
 simp only [partsGo]
 cases h1 : (t == 1) with
 | true => exact one 2 1 _ (main _ (by rw [zCo, h1]; exact ⟨(by kernel_rfl), rfl⟩)) (by kernel_rfl) (by decide) rfl
 | false =>
 cases h2 : (t == 28) with
 | true => exact one 3 1 _ (main _ (by rw [zCo, h1, h2]; exact ⟨(by kernel_rfl), rfl⟩)) (by kernel_rfl) (by decide) rfl
 | false =>
 cases h3 : (t == 2) with
 | true => exact one 4 1 _ (main _ (by rw [zCo, h1, h2, h3]; exact ⟨(by kernel_rfl), rfl⟩)) (by kernel_rfl) (by decide) rfl
 | false =>
 cases h4 : (t == 5) with
 | true => exact one 5 1 _ (main _ (by rw [zCo, h1, h2, h3, h4]; exact ⟨(by kernel_rfl), rfl⟩)) (by kernel_rfl) (by decide) rfl
 | false =>
 cases h5 : (t == 12) with
 | true => exact one 6 1 _ (main _ (by rw [zCo, h1, h2, h3, h4, h5]; exact ⟨(by kernel_rfl), rfl⟩)) (by kernel_rfl) (by decide) rfl
 | false =>
 cases h6 : (t == 15) with
 | true => exact one 7 2 _ (main _ (by rw [zCo, h1, h2, h3, h4, h5, h6]; exact ⟨(by kernel_rfl), rfl⟩)) (by kernel_rfl) (by decide) rfl
 | false =>
 cases h7 : (t == 6) with
 | true => exact one 8 3 _ (main _ (by rw [zCo, h1, h2, h3, h4, h5, h6, h7]; exact ⟨(by kernel_rfl), rfl⟩)) (by kernel_rfl) (by decide) rfl
 | false =>
 cases h8 : (t == 16) with
 | true => exact one 9 1 _ (main _ (by rw [zCo, h1, h2, h3, h4, h5, h6, h7, h8]; exact ⟨(by kernel_rfl), rfl⟩)) (by kernel_rfl) (by decide) rfl
 | false =>
  obtain ⟨m, wr, hF⟩ := main (.tuple #[.slice none 0 0, .bool false]) (by rw [zCo, h1, h2, h3, h4, h5, h6, h7, h8]; exact ⟨rfl, rfl⟩)
  exact zAx hF rfl rfl H n
def zposF : Nat -> Bs -> Option Nat
 | 0, _ => none
 | _ + 1, [] => none
 | n + 1, c :: r => if c.toNat = 0 then some 0 else (zposF n (r.drop c.toNat)).map (· + (c.toNat + 1))
theorem zWa : ∀ (n m : Nat) (l : Bs), l.length < n -> l.length < m -> zposF n l = zposF m l
 | n + 1, m + 1, [], _, _ => rfl
 | n + 1, m + 1, c :: r, h1, h2 => by
  simp only [zposF]
  rw [zWa n m (r.drop c.toNat) (by simp at h1 ⊢; omega) (by simp at h2 ⊢; omega)]
def zpos (l : Bs) : Option Nat := zposF (l.length + 1) l
theorem zWb : zpos [] = none := rfl
theorem zRr (c : UInt8) (r : Bs) : zpos (c :: r) = if c.toNat = 0 then some 0 else (zpos (r.drop c.toNat)).map (· + (c.toNat + 1)) := by
 unfold zpos
 simp only [zposF, aC]
 rw [zWa (r.length + 1) ((r.drop c.toNat).length + 1) _ (by simp; omega) (by omega)]
theorem zpos_at (l : Bs) (i : Nat) (h : i < l.length) : zpos (l.drop i) = if l[i].toNat = 0 then some 0 else (zpos (l.drop (i + 1 + l[i].toNat))).map (· + (l[i].toNat + 1)) := by
 rw [bD h, zRr, List.drop_drop]
theorem zUb : ∀ (n : Nat) (l : Bs) (k : Nat), l.length <= n -> zpos l = some k -> k < l.length
 | 0, l, k, hn, h => by
  have : l = [] := List.length_eq_zero_iff.1 (by omega)
  subst this; cases h
 | n + 1, [], k, _, h => by cases h
 | n + 1, c :: r, k, hn, h => by
  rw [zRr] at h
  split at h
  ·cases h; simp
  obtain ⟨j, hj, rfl⟩ := Option.map_eq_some_iff.1 h
  have := zUb n (r.drop c.toNat) j (by simp at hn ⊢; omega) hj
  simp at this ⊢; omega
theorem zMv {l : Bs} (h : (labels l).2 = 0) : l.length <= 255 := by
 unfold labels at h
 split at h
 ·cases h
 split at h
 ·cases h
 omega
def front (l : Bs) : Option Nat := match zpos l with | some k => if (labels (l.take (k + 1))).2 = 0 then some (k + 1) else none | none => none
def unfitV : Value := .iface 148 (.agg #[])
noncomputable def tbD3 : Tb Try.prog 0 := tbOf mixed [zHt]
theorem first_fn (s : ByteArray) (hs : (bs s).length <= 1000000000) : ∃ r, FnS Try.prog 0 108 [.string s] .e 0 r /\ ∃ H m wr, (∃ k, front (bs s) = some k /\ r = .ret (.string (subS s 0 k)) H m wr) \/ (front (bs s) = none /\ r = .pan [(unfitV, false)] H m wr) := by
 refine zBh mixed tbD3 [] Try.func108 (c := bodyOf Try.f108) (by kernel_rfl) ?_
 refine zOo (fun i f => ⟨slots 6 [(0, .string s), (3, .int .i64 (i : Nat))] f, heap 0 [], 0, [], []⟩) (fun i => (bs s).length + 300 - i) (fun i => i <= (bs s).length + 256 /\ zpos (bs s) = (zpos ((bs s).drop i)).map (· + i)) 0 ⟨aH _, by simp⟩
  (zAz [] rfl rfl rfl (fun l e => by cases e) List.nodup_nil (fun x hx => by cases hx) rfl rfl (fun k hk _ => hk) ⟨⟨_, rfl, .string _⟩, (sI rfl), tv⟩ trivial .nil) ?_
 rintro i f ⟨hi, heq⟩
 refine zAm tbD3 [] 0 _ none mixed _ _ _ ?_
 refine ifK (fun h1 => ?_) (fun h1 => ?_)
 ·have h1 : i < (bs s).length := by have := oT h1; rw [zAd] at this; omega
  have hb := zNr (bs s)[i]
  have hat := zNp s i h1
  have hstep := zpos_at (bs s) i h1
  refine ifK (fun h2 => ?_) (fun h2 => ?_)
  ·have h2 := oT h2
   refine aI (by simp only [inI, zAd]; simp; omega) ?_
   refine ifK (fun h3 => ?_) (fun h3 => ?_)
   ·have h3 : (bs s)[i].toNat = 0 := by rw [hat] at h3; simpa using h3
    rw [if_pos h3] at hstep
    rw [hstep] at heq
    have hz : zpos (bs s) = some i := by rw [heq]; simp
    have e1 : IntKind.i64.wrap ((i : Int) + 1) = ((i + 1 : Nat) : Int) := by rw [wrapN (by omega) (by omega)]; omega
    have e2 : (IntKind.i64.wrap ((i : Int) + 1)).toNat = i + 1 := by rw [e1]; rfl
    refine aI (by rw [e1]; simp only [inLH, zAd]; simp; omega) ?_
    have hsub : bs (subS s (Int.toNat 0) (IntKind.i64.wrap ((i : Int) + 1)).toNat) = (bs s).take (i + 1) := by rw [zPs, e2]; simp
    refine aI (by unfold shortB; rw [zAd, hsub]; simp; omega) ?_
    refine ifK (fun h4 => ?_) (fun h4 => ?_)
    ·have h4 : (labels ((bs s).take (i + 1))).2 = 0 := by rw [hsub] at h4; simpa using h4
     have hf : front (bs s) = some (i + 1) := by unfold front; rw [hz]; simp [h4]
     exact ⟨_, _, _, .inl ⟨i + 1, hf, by rw [<- e2]; rfl⟩⟩
    have h4 : ¬ (labels ((bs s).take (i + 1))).2 = 0 := by rw [hsub] at h4; simpa using h4
    have hf : front (bs s) = none := by unfold front; rw [hz]; simp [h4]
    exact ⟨_, _, _, .inr ⟨hf, rfl⟩⟩
   have h3 : (bs s)[i].toNat ≠ 0 := by rw [hat] at h3; simpa using h3
   rw [if_neg h3] at hstep
   have e1 : IntKind.i64.wrap ((i : Int) + IntKind.i64.wrap (1 + IntKind.i64.wrap ((atS s (i : Int)).toNat : Int))) = ((i + 1 + (bs s)[i].toNat : Nat) : Int) := by
    rw [hat, wrapN (x := (((bs s)[i]).toNat : Int)) (by omega) (by omega), wrapN (x := 1 + (((bs s)[i]).toNat : Int)) (by omega) (by omega), wrapN (by omega) (by omega)]; omega
   refine aI (by simp only [inI, zAd]; simp; omega) ?_
   refine ⟨i + 1 + (bs s)[i].toNat, ⟨by omega, ?_⟩, by omega, zAz [] rfl rfl rfl (fun l e => by cases e) List.nodup_nil (fun x hx => by cases hx) rfl rfl (fun k hk _ => hk) ⟨⟨_, rfl, .string _⟩, zAb rfl e1, tv⟩ trivial .nil⟩
   rw [heq, hstep, Option.map_map]
   congr 1
   funext j; simp; omega
  have h2 : ¬ i < 255 := by have := oF h2; omega
  have hf : front (bs s) = none := by
   unfold front
   rw [heq]
   cases hz : zpos ((bs s).drop i) with
   | none => rfl
   | some j =>
    simp only [Option.map_some]
    rw [if_neg]
    intro hl
    have h5 := zMv hl
    have h6 := zUb _ _ _ (aJ _) hz
    simp at h5 h6; omega
  exact ⟨_, _, _, .inr ⟨hf, rfl⟩⟩
 have h1 : ¬ i < (bs s).length := by have := oF h1; rw [zAd] at this; omega
 have hf : front (bs s) = none := by
  unfold front
  rw [heq, bE (by omega), zWb]; rfl
 exact ⟨_, _, _, .inr ⟨hf, rfl⟩⟩
def Ct.strF (f : FuncId) (out : ByteArray -> Value) (hp : ∀ s, plainV 8 (out s) = true) (ok : ∀ s, (bs s).length <= 1000000000 -> ∃ H m wr, FnS Try.prog 0 f [.string s] .e 0 (.ret (out s) H m wr)) : Ct Try.prog 0 where
 f := f
 res l H n := match l with | [.string s] => bif shortB s then .ret (out s) H n [] else .bad "long" [] | _ => .bad "arguments" []
 ok l H n := by
  split
  ·rename_i s
   cases hs : shortB s with
   | false => trivial
   | true => obtain ⟨_, _, _, h⟩ := ok s (zGb hs); exact zAx h rfl (hp s) H n
  trivial
 ck l H n K := match l with | [.string s] => shortB s = true /\ K (.ret (out s) H n []) | _ => False
 imp l H n K h := by
  split at h
  ·obtain ⟨h1, h2⟩ := h
   simp only [h1, cT]; exact h2
  exact h.elim
def zNz : Ct Try.prog 0 := Ct.strF 107 (fun s => .bool (texts (bs s))) (fun _ => rfl) (fun s hs => by
 obtain ⟨r, h, H, m, wr, rfl⟩ := texts_fn s hs
 exact ⟨H, m, wr, h⟩)
def frontN (l : Bs) : Nat := (front l).getD 0
def zNw : Ct Try.prog 0 where
 f := 108
 res l H n := match l with | [.string s] => bif shortB s then (bif (front (bs s)).isSome then .ret (.string (subS s 0 (frontN (bs s)))) H n [] else .pan [(unfitV, false)] H n []) else .bad "long" [] | _ => .bad "arguments" []
 ok l H n := by
  split
  ·rename_i s
   cases hs : shortB s with
   | false => trivial
   | true =>
    obtain ⟨r, h, H', m, wr, ⟨k, hf, rfl⟩ | ⟨hf, rfl⟩⟩ := first_fn s (zGb hs)
    ·simp only [hf, Option.isSome_some, cT]
     have : frontN (bs s) = k := by simp [frontN, hf]
     rw [this]
     exact zAx h rfl rfl H n
    simp only [hf, Option.isSome_none, cT, cF]
    exact zMd h rfl rfl H n
  trivial
 ck l H n K := match l with | [.string s] => shortB s = true /\ brK (front (bs s)).isSome (K (.ret (.string (subS s 0 (frontN (bs s)))) H n [])) (K (.pan [(unfitV, false)] H n [])) | _ => False
 imp l H n K h := by
  split at h
  ·rename_i s
   obtain ⟨h1, h2⟩ := h
   simp only [h1, cT]
   cases hf : (front (bs s)).isSome with
   | true => rw [hf] at h2; exact h2
   | false => rw [hf] at h2; exact h2
  exact h.elim
inductive Pt where
 | nm
 | rest
 | sz (k : Nat)
def Pt.cell : Pt -> List Value
 | .nm => part 0 true false
 | .rest => part 0 false true
 | .sz k => part k false false
def Pt.isName : Pt -> Bool
 | .nm => true
 | _ => false
theorem Pt.cell_len (p : Pt) : p.cell.length = 3 := by cases p <;> rfl
theorem Pt.cell_plain (p : Pt) : plainL p.cell = true := by cases p <;> rfl
def pc (p : Bs × Bool) : List Value := [str p.1, .bool p.2]
theorem zJm (p : Bs × Bool) : (pc p).length = 2 := rfl
theorem zDk (p : Bs × Bool) : plainL (pc p) = true := rfl
def Pt.cut (p : Pt) (l : Bs) : Option Nat :=
 match p with
 | .nm => front l
 | .rest => if texts l then some l.length else none
 | .sz k => if k <= l.length then some k else none
def cuts : List Pt -> Bs -> Option (List (Bs × Bool) × Bs)
 | [], l => some ([], l)
 | p :: ps, l => match p.cut l with
  | none => none
  | some n => (cuts ps (l.drop n)).map fun x => ((l.take n, p.isName) :: x.1, x.2)
theorem zGn {l : Bs} {k : Nat} (h : front l = some k) : k <= l.length := by
 unfold front at h
 split at h
 ·rename_i j hj
  have := zUb _ _ _ (aJ _) hj
  split at h
  ·cases h; omega
  cases h
 cases h
def spS (ps : List Pt) (x : Nat × List (Bs × Bool) × ByteArray) (f : Nat -> Option Value) : Fs :=
 match x with
 | (i, acc, s) =>
  match acc with
  | [] => ⟨slots 7 [(1, .string s), (4, .pointer (some ⟨0, 0, none⟩)), (5, .pointer (some ⟨1, 0, none⟩)), (22, .slice (some ⟨2, 0, none⟩) ps.length ps.length), (23, .int .i64 ps.length), (24, .int .i64 i)] f,
    heap 3 [(0, .cells [.slice none 0 0] 123), (1, .cells [.bool false] 4), (2, .cells (ps.flatMap Pt.cell) 144)], 3, [], [.call 106 [.pointer (some ⟨0, 0, none⟩), .pointer (some ⟨1, 0, none⟩)] []]⟩
  | a :: l => ⟨slots 7 [(1, .string s), (4, .pointer (some ⟨0, 0, none⟩)), (5, .pointer (some ⟨1, 0, none⟩)), (22, .slice (some ⟨2, 0, none⟩) ps.length ps.length), (23, .int .i64 ps.length), (24, .int .i64 i)] f,
    heap 3 [(0, .cells [.slice (some ⟨3, 0, none⟩) (l.length + 1) U] 123), (1, .cells [.bool false] 4), (2, .cells (ps.flatMap Pt.cell) 144), (3, .cells ((a :: l).flatMap pc) 127)], 4, [], [.call 106 [.pointer (some ⟨0, 0, none⟩), .pointer (some ⟨1, 0, none⟩)] []]⟩
noncomputable def endS (tb : Tb Try.prog 0) (x : Ex) (s : Fs) : Res :=
 match modeOf x with
 | some u => (match evOut Try.prog tb.go s.df u s.H s.n s.wr with
  | .ok none H n wr => (match zBg Try.prog { s with H } Try.f91.results.toList with | some vs => .ret (tupleOf vs) H n wr | none => .bad "" [])
  | _ => .bad "" [])
 | none => .bad "" []
def hOf (r : Res) : Tr AObj := match r with | .ret _ H _ _ => H | _ => .e
def nOf (r : Res) : Nat := match r with | .ret _ _ n _ => n | _ => 0
def wOf (r : Res) : List Nat := match r with | .ret _ _ _ wr => wr | _ => []
noncomputable def sEnd0 (f2 : Nat -> Option Value) : Fs := ⟨slots 7 [(4, .pointer (some ⟨0, 0, none⟩)), (5, .pointer (some ⟨1, 0, none⟩))] f2, heap 2 [(0, .cells [.slice none 0 0] 123), (1, .cells [.bool false] 4)], 2, [], [.call 106 [.pointer (some ⟨0, 0, none⟩), .pointer (some ⟨1, 0, none⟩)] []]⟩
theorem zOc (tb : Tb Try.prog 0) (R : Res -> Prop) (f2 : Nat -> Option Value) : fnK tb Try.f91 R (.pan [(unfitV, false)]) (sEnd0 f2) = R (.ret (.tuple #[.slice none 0 0, .bool false]) (hOf (endS tb (.pan [(unfitV, false)]) (sEnd0 f2))) (nOf (endS tb (.pan [(unfitV, false)]) (sEnd0 f2))) (wOf (endS tb (.pan [(unfitV, false)]) (sEnd0 f2)))) := by kernel_rfl
noncomputable def sEnd1 (k : Nat) (f2 : Nat -> Option Value) : Fs := ⟨slots 7 [(4, .pointer (some ⟨0, 0, none⟩)), (5, .pointer (some ⟨1, 0, none⟩))] f2, heap 2 [(0, .cells [.slice (some ⟨2, 0, none⟩) (k + 1) U] 123), (1, .cells [.bool false] 4)], 3, [], [.call 106 [.pointer (some ⟨0, 0, none⟩), .pointer (some ⟨1, 0, none⟩)] []]⟩
theorem zOd (tb : Tb Try.prog 0) (R : Res -> Prop) (k : Nat) (f2 : Nat -> Option Value) : fnK tb Try.f91 R (.pan [(unfitV, false)]) (sEnd1 k f2) = R (.ret (.tuple #[.slice none 0 0, .bool false]) (hOf (endS tb (.pan [(unfitV, false)]) (sEnd1 k f2))) (nOf (endS tb (.pan [(unfitV, false)]) (sEnd1 k f2))) (wOf (endS tb (.pan [(unfitV, false)]) (sEnd1 k f2)))) := by kernel_rfl
noncomputable def sEnd2 (k : Nat) (b : Bool) (c : List Value) (f2 : Nat -> Option Value) : Fs := ⟨slots 7 [(4, .pointer (some ⟨0, 0, none⟩)), (5, .pointer (some ⟨1, 0, none⟩))] f2, heap 2 [(0, .cells [.slice (some ⟨2, 0, none⟩) (k + 1) U] 123), (1, .cells [.bool b] 4), (2, .cells c 127)], 3, [], [.call 106 [.pointer (some ⟨0, 0, none⟩), .pointer (some ⟨1, 0, none⟩)] []]⟩
theorem end_ret (tb : Tb Try.prog 0) (R : Res -> Prop) (k : Nat) (b : Bool) (c : List Value) (f2 : Nat -> Option Value) : fnK tb Try.f91 R .ret (sEnd2 k b c f2) = R (.ret (.tuple #[.slice (some ⟨2, 0, none⟩) (k + 1) U, .bool b]) (hOf (endS tb .ret (sEnd2 k b c f2))) (nOf (endS tb .ret (sEnd2 k b c f2))) (wOf (endS tb .ret (sEnd2 k b c f2)))) := by kernel_rfl
theorem zSq (tb : Tb Try.prog 0) (k : Nat) (b : Bool) (c : List Value) (f2 : Nat -> Option Value) : (hOf (endS tb .ret (sEnd2 k b c f2))).get 2 = some (.cells c 127) := by kernel_rfl
def zIo (t : Int) (ps : List Pt) (h : ∀ H n, partsGo t H n partsTab = partsOut ps.length (ps.flatMap Pt.cell) H n) : Ct Try.prog 0 where
 f := 102
 res l H n := match l with | [.int .i64 t'] => bif t' == t then partsOut ps.length (ps.flatMap Pt.cell) H n else .bad "type" [] | _ => .bad "arguments" []
 ok l H n := by
  split
  ·rename_i t'
   cases hb : (t' == t) with
   | false => trivial
   | true =>
    have hb : t' = t := by simpa using hb
    subst hb
    have := zVg t' H n
    rw [h] at this
    exact this
  trivial
 ck l H n K := match l with | [.int .i64 t'] => (t' == t) = true /\ K (partsOut ps.length (ps.flatMap Pt.cell) H n) | _ => False
 imp l H n K h := by
  split at h
  ·obtain ⟨h1, h2⟩ := h
   simp only [h1, cT]; exact h2
  exact h.elim
theorem zCf (s : ByteArray) (x : Int) (k : Nat) (h : x = k) : Value.string (subS s (Int.toNat 0) x.toNat) = str ((bs s).take k) := by
 subst h
 show _ = Value.string ⟨((bs s).take k).toArray⟩
 congr 1
theorem zAo (s : ByteArray) (x : Int) (k : Nat) (h : x = k) : bs (subS s x.toNat ((s.data.size : Int)).toNat) = (bs s).drop k := by
 subst h
 rw [zPs, aO, aO, zAd, List.take_length]
theorem zQd (ps : List Pt) (i : Nat) (h : i < ps.length) (l : Bs) : cuts (ps.drop i) l = match ps[i].cut l with
  | none => none
  | some n => (cuts (ps.drop (i + 1)) (l.drop n)).map fun x => ((l.take n, ps[i].isName) :: x.1, x.2) := by
 rw [bD h]; rfl
theorem zVv (t : Int) (ps : List Pt) (hps : 0 < ps.length) (hps2 : ps.length < 1000) (ht : ∀ H n, partsGo t H n partsTab = partsOut ps.length (ps.flatMap Pt.cell) H n) (s0 : ByteArray) (hs0 : (bs s0).length <= 1000000000) :
  ∃ r, FnS Try.prog 0 91 [.int .i64 t, .string s0] .e 0 r /\ ∃ H m wr,
   (∃ out rest b, cuts ps (bs s0) = some (out, rest) /\ r = .ret (.tuple #[.slice (some ⟨b, 0, none⟩) out.length U, .bool rest.isEmpty]) H m wr /\ H.get b = some (.cells (out.flatMap pc) 127) /\ b < JJ) \/
   (cuts ps (bs s0) = none /\ r = .ret (.tuple #[.slice none 0 0, .bool false]) H m wr) := by
 refine fn_sxR mixed (tbOf mixed [zIo t ps ht, zNz, zNw]) [2, 3] Try.func91 (c := bodyOf Try.f91) (by kernel_rfl) ?_
 refine aI (by simp) ?_
 refine zOo (spS ps) (fun x => ps.length - x.1) (fun x => x.1 <= ps.length /\ (bs x.2.2).length <= 1000000000 /\ x.2.1.length = x.1 /\ cuts ps (bs s0) = (cuts (ps.drop x.1) (bs x.2.2)).map fun y => (x.2.1 ++ y.1, y.2)) (0, [], s0) ⟨aH _, hs0, rfl, by simp⟩
  (zAz [0, 1, 2] rfl rfl rfl (fun l e => by cases e) (by decide) (by decide) rfl rfl (fun k hk h => by omega) ⟨⟨_, rfl, .string _⟩, (sP rfl rfl), (sP rfl rfl), (sL rfl rfl), (sI rfl), (sI rfl), tv⟩
   ⟨bpo rfl, bpo rfl, bpo (zAc _ Pt.cell_plain ps), tv⟩ (.fn _ _ _ _ _ _ _ (.cons _ _ _ _ (.ptr _ _ _ rfl) (.cons _ _ _ _ (.ptr _ _ _ rfl) .nil)) .nil .nil)) ?_
 rintro ⟨i, acc, s⟩ f ⟨hi, hs, hacc, heq⟩
 have hi : i <= ps.length := hi
 have hs : (bs s).length <= 1000000000 := hs
 have hacc : acc.length = i := hacc
 have heq : cuts ps (bs s0) = (cuts (ps.drop i) (bs s)).map fun y => (acc ++ y.1, y.2) := heq
 have hsB : shortB s = true := by unfold shortB; rw [zAd]; exact bL hs
 have side : ∀ (h1 : i < ps.length), (0 + ((i : Nat) : Int).toNat * 3 + 3 <= (ps.flatMap Pt.cell).length /\ List.take 3 (List.drop (0 + ((i : Nat) : Int).toNat * 3) (ps.flatMap Pt.cell)) = ps[i].cell) := fun h1 => by
  have := zHf Pt.cell 3 Pt.cell_len ps i h1
  rw [aO, aS]; exact this
 cases acc with
 | nil =>
  refine zAm (tbOf mixed [zIo t ps ht, zNz, zNw]) [2] 0 _ none mixed _ _ _ ?_
  refine ifK (fun h1 => ?_) (fun h1 => ?_)
  ·have h1 : i < ps.length := by have := oT h1; omega
   have hst := zQd ps i h1 (bs s)
   have hsd := side h1
   refine ifK (fun _ => ?_) (fun h2 => ab h2 (by simp [inI]; omega))
   cases hp : ps[i] with
   | nm =>
    rw [hp] at hst hsd
    refine eI 0 (eI true (eI false (aI hsd ?_)))
    refine aI hsB ?_
    refine ifK (fun h3 => ?_) (fun h3 => ?_)
    ·obtain ⟨k, hk⟩ := Option.isSome_iff_exists.1 h3
     have hcut : Pt.nm.cut (bs s) = some k := hk
     have hkn : frontN (bs s) = k := by simp [frontN, hk]
     have hkl := zGn hk
     have hx : ((subS s 0 (frontN (bs s))).data.size : Int) = (k : Nat) := by rw [zAd, zPs, hkn]; simp; omega
     refine aI (by kernel_rfl) ?_
     refine aI (by rw [hx]; simp only [inLH, zAd, bA, dT] <;> omega) ?_
     refine aI (by rw [hx]; simp only [inLH, zAd, bA, dT] <;> omega) ?_
     refine ⟨(i + 1, [] ++ [((bs s).take (k), true)], subS s (((subS s 0 (frontN (bs s))).data.size : Int)).toNat ((s.data.size : Int)).toNat), ⟨h1, ?_, ?_, ?_⟩, ?_, ?_⟩
     ·show (bs (subS s _ _)).length <= _; rw [zAo s _ _ hx]; simp <;> omega
     ·simp only [aB, hacc]; rfl
     ·show cuts ps (bs s0) = (cuts (ps.drop (i + 1)) (bs (subS s _ _))).map _; rw [zAo s _ _ hx, heq, hst, hcut]; simp only [Option.map_map]; exact congrArg (fun g => Option.map g _) (funext fun y => by simp [Pt.isName])
     ·show ps.length - (i + 1) < ps.length - i; omega
     refine zAz [0, 1, 2, 5] rfl rfl rfl (fun l e => by cases e) (by decide) (by decide) rfl rfl (fun k hk h => by omega) ⟨⟨_, rfl, .string _⟩, (sP rfl rfl), (sP rfl rfl), (sL rfl rfl), (sI rfl), zAb rfl (by rw [wrapN (by omega) (by omega)]; omega), tv⟩ ⟨⟨by decide, _, rfl, ?_⟩, bpo rfl, bpo (zAc _ Pt.cell_plain ps), ⟨by decide, _, rfl, ?_⟩, tv⟩ (.fn _ _ _ _ _ _ _ (.cons _ _ _ _ (.ptr _ _ _ rfl) (.cons _ _ _ _ (.ptr _ _ _ rfl) .nil)) .nil .nil)
     ·exact zBe rfl
     refine zAv ?_ (zAc pc zDk _)
     show [Value.string (subS s (Int.toNat 0) (((subS s 0 (frontN (bs s))).data.size : Int)).toNat), .bool true] = _
     rw [zCf s _ _ hx]; rfl
    have hcut : Pt.nm.cut (bs s) = none := by have : (front (bs s)).isSome = false := h3; simpa [Pt.cut] using this
    have hn : cuts ps (bs s0) = none := by rw [heq, hst, hcut]; rfl
    refine aI rfl (zAg (zAz [0, 1] (d := 7) (d2 := 2) (lv := [(4, .pointer (some ⟨0, 0, none⟩)), (5, .pointer (some ⟨1, 0, none⟩))]) (bs := [(0, .cells [.slice none 0 0] 123), (1, .cells [.bool false] 4)]) (W := []) (m := 2) (df := [.call 106 [.pointer (some ⟨0, 0, none⟩), .pointer (some ⟨1, 0, none⟩)] []]) rfl rfl rfl (fun l e => by cases e) (by decide) (by decide) rfl rfl (fun k hk h => by omega) ⟨(sP rfl rfl), (sP rfl rfl), tv⟩ ⟨bpo rfl, bpo rfl, tv⟩ (.fn _ _ _ _ _ _ _ (.cons _ _ _ _ (.ptr _ _ _ rfl) (.cons _ _ _ _ (.ptr _ _ _ rfl) .nil)) .nil .nil)) (fun f2 => ?_))
    refine Eq.mpr (zOc _ _ f2) ?_
    exact eI _ (eI _ (eI _ (Or.inr (aI hn rfl))))
   | rest =>
    rw [hp] at hst hsd
    refine eI 0 (eI false (eI true (aI hsd ?_)))
    refine aI hsB ?_
    refine ifK (fun h3 => ?_) (fun h3 => ?_)
    ·have hcut : Pt.rest.cut (bs s) = some (bs s).length := by have h3 : texts (bs s) = true := h3; simp [Pt.cut, h3]
     have hx : (s.data.size : Int) = ((bs s).length : Nat) := by rw [zAd]
     refine aI (by kernel_rfl) ?_
     refine aI (by rw [hx]; simp only [inLH, zAd, bA, dT] <;> omega) ?_
     refine aI (by rw [hx]; simp only [inLH, zAd, bA, dT] <;> omega) ?_
     refine ⟨(i + 1, [] ++ [((bs s).take ((bs s).length), false)], subS s ((s.data.size : Int)).toNat ((s.data.size : Int)).toNat), ⟨h1, ?_, ?_, ?_⟩, ?_, ?_⟩
     ·show (bs (subS s _ _)).length <= _; rw [zAo s _ _ hx]; simp <;> omega
     ·simp only [aB, hacc]; rfl
     ·show cuts ps (bs s0) = (cuts (ps.drop (i + 1)) (bs (subS s _ _))).map _; rw [zAo s _ _ hx, heq, hst, hcut]; simp only [Option.map_map]; exact congrArg (fun g => Option.map g _) (funext fun y => by simp [Pt.isName])
     ·show ps.length - (i + 1) < ps.length - i; omega
     refine zAz [0, 1, 2, 5] rfl rfl rfl (fun l e => by cases e) (by decide) (by decide) rfl rfl (fun k hk h => by omega) ⟨⟨_, rfl, .string _⟩, (sP rfl rfl), (sP rfl rfl), (sL rfl rfl), (sI rfl), zAb rfl (by rw [wrapN (by omega) (by omega)]; omega), tv⟩ ⟨⟨by decide, _, rfl, ?_⟩, bpo rfl, bpo (zAc _ Pt.cell_plain ps), ⟨by decide, _, rfl, ?_⟩, tv⟩ (.fn _ _ _ _ _ _ _ (.cons _ _ _ _ (.ptr _ _ _ rfl) (.cons _ _ _ _ (.ptr _ _ _ rfl) .nil)) .nil .nil)
     ·exact zBe rfl
     refine zAv ?_ (zAc pc zDk _)
     show [Value.string (subS s (Int.toNat 0) ((s.data.size : Int)).toNat), .bool false] = _
     rw [zCf s _ _ hx]; rfl
    have hcut : Pt.rest.cut (bs s) = none := by have h3 : texts (bs s) = false := h3; simp [Pt.cut, h3]
    have hn : cuts ps (bs s0) = none := by rw [heq, hst, hcut]; rfl
    refine aI rfl (zAg (zAz [0, 1] (d := 7) (d2 := 2) (lv := [(4, .pointer (some ⟨0, 0, none⟩)), (5, .pointer (some ⟨1, 0, none⟩))]) (bs := [(0, .cells [.slice none 0 0] 123), (1, .cells [.bool false] 4)]) (W := []) (m := 2) (df := [.call 106 [.pointer (some ⟨0, 0, none⟩), .pointer (some ⟨1, 0, none⟩)] []]) rfl rfl rfl (fun l e => by cases e) (by decide) (by decide) rfl rfl (fun k hk h => by omega) ⟨(sP rfl rfl), (sP rfl rfl), tv⟩ ⟨bpo rfl, bpo rfl, tv⟩ (.fn _ _ _ _ _ _ _ (.cons _ _ _ _ (.ptr _ _ _ rfl) (.cons _ _ _ _ (.ptr _ _ _ rfl) .nil)) .nil .nil)) (fun f2 => ?_))
    refine Eq.mpr (zOc _ _ f2) ?_
    exact eI _ (eI _ (eI _ (Or.inr (aI hn rfl))))
   | sz k =>
    rw [hp] at hst hsd
    refine eI (k : Int) (eI false (eI false (aI hsd ?_)))
    refine ifK (fun h3 => ?_) (fun h3 => ?_)
    ·have h3 : ¬ k <= (bs s).length := by have := oT h3; rw [zAd] at this; omega
     have hcut : (Pt.sz k).cut (bs s) = none := by simp [Pt.cut, h3]
     have hn : cuts ps (bs s0) = none := by rw [heq, hst, hcut]; rfl
     refine aI rfl (zAg (zAz [0, 1] (d := 7) (d2 := 2) (lv := [(4, .pointer (some ⟨0, 0, none⟩)), (5, .pointer (some ⟨1, 0, none⟩))]) (bs := [(0, .cells [.slice none 0 0] 123), (1, .cells [.bool false] 4)]) (W := []) (m := 2) (df := [.call 106 [.pointer (some ⟨0, 0, none⟩), .pointer (some ⟨1, 0, none⟩)] []]) rfl rfl rfl (fun l e => by cases e) (by decide) (by decide) rfl rfl (fun k hk h => by omega) ⟨(sP rfl rfl), (sP rfl rfl), tv⟩ ⟨bpo rfl, bpo rfl, tv⟩ (.fn _ _ _ _ _ _ _ (.cons _ _ _ _ (.ptr _ _ _ rfl) (.cons _ _ _ _ (.ptr _ _ _ rfl) .nil)) .nil .nil)) (fun f2 => ?_))
     refine Eq.mpr (zOc _ _ f2) ?_
     exact eI _ (eI _ (eI _ (Or.inr (aI hn rfl))))
    have h3 : k <= (bs s).length := by have := oF h3; rw [zAd] at this; omega
    have hcut : (Pt.sz k).cut (bs s) = some k := by simp [Pt.cut, h3]
    have hx : (k : Int) = (k : Nat) := rfl
    refine aI (by kernel_rfl) ?_
    refine aI (by rw [hx]; simp only [inLH, zAd, bA, dT] <;> omega) ?_
    refine aI (by rw [hx]; simp only [inLH, zAd, bA, dT] <;> omega) ?_
    refine ⟨(i + 1, [] ++ [((bs s).take (k), false)], subS s ((k : Int)).toNat ((s.data.size : Int)).toNat), ⟨h1, ?_, ?_, ?_⟩, ?_, ?_⟩
    ·show (bs (subS s _ _)).length <= _; rw [zAo s _ _ hx]; simp <;> omega
    ·simp only [aB, hacc]; rfl
    ·show cuts ps (bs s0) = (cuts (ps.drop (i + 1)) (bs (subS s _ _))).map _; rw [zAo s _ _ hx, heq, hst, hcut]; simp only [Option.map_map]; exact congrArg (fun g => Option.map g _) (funext fun y => by simp [Pt.isName])
    ·show ps.length - (i + 1) < ps.length - i; omega
    refine zAz [0, 1, 2, 5] rfl rfl rfl (fun l e => by cases e) (by decide) (by decide) rfl rfl (fun k hk h => by omega) ⟨⟨_, rfl, .string _⟩, (sP rfl rfl), (sP rfl rfl), (sL rfl rfl), (sI rfl), zAb rfl (by rw [wrapN (by omega) (by omega)]; omega), tv⟩ ⟨⟨by decide, _, rfl, ?_⟩, bpo rfl, bpo (zAc _ Pt.cell_plain ps), ⟨by decide, _, rfl, ?_⟩, tv⟩ (.fn _ _ _ _ _ _ _ (.cons _ _ _ _ (.ptr _ _ _ rfl) (.cons _ _ _ _ (.ptr _ _ _ rfl) .nil)) .nil .nil)
    ·exact zBe rfl
    refine zAv ?_ (zAc pc zDk _)
    show [Value.string (subS s (Int.toNat 0) ((k : Int)).toNat), .bool false] = _
    rw [zCf s _ _ hx]; rfl
  have h1 : ¬ i < ps.length := by have := oF h1; omega
  exact ab hacc (by simp; omega)
 | cons a l =>
  refine zAm (tbOf mixed [zIo t ps ht, zNz, zNw]) [2, 3] 0 _ none mixed _ _ _ ?_
  refine ifK (fun h1 => ?_) (fun h1 => ?_)
  ·have h1 : i < ps.length := by have := oT h1; omega
   have hst := zQd ps i h1 (bs s)
   have hsd := side h1
   refine ifK (fun _ => ?_) (fun h2 => ab h2 (by simp [inI]; omega))
   cases hp : ps[i] with
   | nm =>
    rw [hp] at hst hsd
    refine eI 0 (eI true (eI false (aI hsd ?_)))
    refine aI hsB ?_
    refine ifK (fun h3 => ?_) (fun h3 => ?_)
    ·obtain ⟨k, hk⟩ := Option.isSome_iff_exists.1 h3
     have hcut : Pt.nm.cut (bs s) = some k := hk
     have hkn : frontN (bs s) = k := by simp [frontN, hk]
     have hkl := zGn hk
     have hx : ((subS s 0 (frontN (bs s))).data.size : Int) = (k : Nat) := by rw [zAd, zPs, hkn]; simp; omega
     refine aI (by kernel_rfl) ?_
     refine aI (by rw [hx]; simp only [inLH, zAd, bA, dT] <;> omega) ?_
     refine aI (by rw [zAe pc 2 zJm]; have hT : (Try.prog.types[127]).size = 2 := (by kernel_rfl); have hB : (Try.prog.types[127]).bytes = 24 := (by kernel_rfl); have hl : l.length + 1 = i := hacc; simp [oneL, Value.oneCell', hT, hB]; omega) ?_
     refine aI (by rw [hx]; simp only [inLH, zAd, bA, dT] <;> omega) ?_
     refine ⟨(i + 1, (a :: l) ++ [((bs s).take (k), true)], subS s (((subS s 0 (frontN (bs s))).data.size : Int)).toNat ((s.data.size : Int)).toNat), ⟨h1, ?_, ?_, ?_⟩, ?_, ?_⟩
     ·show (bs (subS s _ _)).length <= _; rw [zAo s _ _ hx]; simp <;> omega
     ·simp only [aB, hacc]; rfl
     ·show cuts ps (bs s0) = (cuts (ps.drop (i + 1)) (bs (subS s _ _))).map _; rw [zAo s _ _ hx, heq, hst, hcut]; simp only [Option.map_map]; exact congrArg (fun g => Option.map g _) (funext fun y => by simp [Pt.isName])
     ·show ps.length - (i + 1) < ps.length - i; omega
     refine zAz [0, 1, 2, 6] rfl rfl rfl (fun l e => by cases e) (by decide) (by decide) rfl rfl (fun k hk h => by omega) ⟨⟨_, rfl, .string _⟩, (sP rfl rfl), (sP rfl rfl), (sL rfl rfl), (sI rfl), zAb rfl (by rw [wrapN (by omega) (by omega)]; omega), tv⟩ ⟨⟨by decide, _, rfl, ?_⟩, bpo rfl, bpo (zAc _ Pt.cell_plain ps), ⟨by decide, _, rfl, ?_⟩, tv⟩ (.fn _ _ _ _ _ _ _ (.cons _ _ _ _ (.ptr _ _ _ rfl) (.cons _ _ _ _ (.ptr _ _ _ rfl) .nil)) .nil .nil)
     ·have : (l ++ [((bs s).take (k), true)]).length = l.length + 1 := by simp
      show RO _ _ _ (.cells [.slice _ ((l ++ [_]).length + 1) U] _)
      rw [this]
      exact zBe rfl
     refine zAv ?_ (zAc pc zDk _)
     show List.take ((l.length + 1) * 2) ((a :: l).flatMap pc) ++ [Value.string (subS s (Int.toNat 0) (((subS s 0 (frontN (bs s))).data.size : Int)).toNat), .bool true] = _
     rw [zCf s _ _ hx, aD (by rw [zAe pc 2 zJm]; simp)]
     show _ = ((a :: l) ++ [_]).flatMap pc
     rw [zLd]; rfl
    have hcut : Pt.nm.cut (bs s) = none := by have : (front (bs s)).isSome = false := h3; simpa [Pt.cut] using this
    have hn : cuts ps (bs s0) = none := by rw [heq, hst, hcut]; rfl
    refine aI rfl (zAg (zAz [0, 1, 3] (d := 7) (d2 := 2) (lv := [(4, .pointer (some ⟨0, 0, none⟩)), (5, .pointer (some ⟨1, 0, none⟩))]) (bs := [(0, .cells [.slice (some ⟨2, 0, none⟩) (l.length + 1) U] 123), (1, .cells [.bool false] 4)]) (W := []) (m := 3) (df := [.call 106 [.pointer (some ⟨0, 0, none⟩), .pointer (some ⟨1, 0, none⟩)] []]) rfl rfl rfl (fun l e => by cases e) (by decide) (by decide) rfl rfl (fun k hk h => by omega) ⟨(sP rfl rfl), (sP rfl rfl), tv⟩ ⟨⟨by decide, _, rfl, zBe rfl⟩, bpo rfl, tv⟩ (.fn _ _ _ _ _ _ _ (.cons _ _ _ _ (.ptr _ _ _ rfl) (.cons _ _ _ _ (.ptr _ _ _ rfl) .nil)) .nil .nil)) (fun f2 => ?_))
    refine Eq.mpr (zOd _ _ l.length f2) ?_
    exact eI _ (eI _ (eI _ (Or.inr (aI hn rfl))))
   | rest =>
    rw [hp] at hst hsd
    refine eI 0 (eI false (eI true (aI hsd ?_)))
    refine aI hsB ?_
    refine ifK (fun h3 => ?_) (fun h3 => ?_)
    ·have hcut : Pt.rest.cut (bs s) = some (bs s).length := by have h3 : texts (bs s) = true := h3; simp [Pt.cut, h3]
     have hx : (s.data.size : Int) = ((bs s).length : Nat) := by rw [zAd]
     refine aI (by kernel_rfl) ?_
     refine aI (by rw [hx]; simp only [inLH, zAd, bA, dT] <;> omega) ?_
     refine aI (by rw [zAe pc 2 zJm]; have hT : (Try.prog.types[127]).size = 2 := (by kernel_rfl); have hB : (Try.prog.types[127]).bytes = 24 := (by kernel_rfl); have hl : l.length + 1 = i := hacc; simp [oneL, Value.oneCell', hT, hB]; omega) ?_
     refine aI (by rw [hx]; simp only [inLH, zAd, bA, dT] <;> omega) ?_
     refine ⟨(i + 1, (a :: l) ++ [((bs s).take ((bs s).length), false)], subS s ((s.data.size : Int)).toNat ((s.data.size : Int)).toNat), ⟨h1, ?_, ?_, ?_⟩, ?_, ?_⟩
     ·show (bs (subS s _ _)).length <= _; rw [zAo s _ _ hx]; simp <;> omega
     ·simp only [aB, hacc]; rfl
     ·show cuts ps (bs s0) = (cuts (ps.drop (i + 1)) (bs (subS s _ _))).map _; rw [zAo s _ _ hx, heq, hst, hcut]; simp only [Option.map_map]; exact congrArg (fun g => Option.map g _) (funext fun y => by simp [Pt.isName])
     ·show ps.length - (i + 1) < ps.length - i; omega
     refine zAz [0, 1, 2, 6] rfl rfl rfl (fun l e => by cases e) (by decide) (by decide) rfl rfl (fun k hk h => by omega) ⟨⟨_, rfl, .string _⟩, (sP rfl rfl), (sP rfl rfl), (sL rfl rfl), (sI rfl), zAb rfl (by rw [wrapN (by omega) (by omega)]; omega), tv⟩ ⟨⟨by decide, _, rfl, ?_⟩, bpo rfl, bpo (zAc _ Pt.cell_plain ps), ⟨by decide, _, rfl, ?_⟩, tv⟩ (.fn _ _ _ _ _ _ _ (.cons _ _ _ _ (.ptr _ _ _ rfl) (.cons _ _ _ _ (.ptr _ _ _ rfl) .nil)) .nil .nil)
     ·have : (l ++ [((bs s).take ((bs s).length), false)]).length = l.length + 1 := by simp
      show RO _ _ _ (.cells [.slice _ ((l ++ [_]).length + 1) U] _)
      rw [this]
      exact zBe rfl
     refine zAv ?_ (zAc pc zDk _)
     show List.take ((l.length + 1) * 2) ((a :: l).flatMap pc) ++ [Value.string (subS s (Int.toNat 0) ((s.data.size : Int)).toNat), .bool false] = _
     rw [zCf s _ _ hx, aD (by rw [zAe pc 2 zJm]; simp)]
     show _ = ((a :: l) ++ [_]).flatMap pc
     rw [zLd]; rfl
    have hcut : Pt.rest.cut (bs s) = none := by have h3 : texts (bs s) = false := h3; simp [Pt.cut, h3]
    have hn : cuts ps (bs s0) = none := by rw [heq, hst, hcut]; rfl
    refine aI rfl (zAg (zAz [0, 1, 3] (d := 7) (d2 := 2) (lv := [(4, .pointer (some ⟨0, 0, none⟩)), (5, .pointer (some ⟨1, 0, none⟩))]) (bs := [(0, .cells [.slice (some ⟨2, 0, none⟩) (l.length + 1) U] 123), (1, .cells [.bool false] 4)]) (W := []) (m := 3) (df := [.call 106 [.pointer (some ⟨0, 0, none⟩), .pointer (some ⟨1, 0, none⟩)] []]) rfl rfl rfl (fun l e => by cases e) (by decide) (by decide) rfl rfl (fun k hk h => by omega) ⟨(sP rfl rfl), (sP rfl rfl), tv⟩ ⟨⟨by decide, _, rfl, zBe rfl⟩, bpo rfl, tv⟩ (.fn _ _ _ _ _ _ _ (.cons _ _ _ _ (.ptr _ _ _ rfl) (.cons _ _ _ _ (.ptr _ _ _ rfl) .nil)) .nil .nil)) (fun f2 => ?_))
    refine Eq.mpr (zOd _ _ l.length f2) ?_
    exact eI _ (eI _ (eI _ (Or.inr (aI hn rfl))))
   | sz k =>
    rw [hp] at hst hsd
    refine eI (k : Int) (eI false (eI false (aI hsd ?_)))
    refine ifK (fun h3 => ?_) (fun h3 => ?_)
    ·have h3 : ¬ k <= (bs s).length := by have := oT h3; rw [zAd] at this; omega
     have hcut : (Pt.sz k).cut (bs s) = none := by simp [Pt.cut, h3]
     have hn : cuts ps (bs s0) = none := by rw [heq, hst, hcut]; rfl
     refine aI rfl (zAg (zAz [0, 1, 3] (d := 7) (d2 := 2) (lv := [(4, .pointer (some ⟨0, 0, none⟩)), (5, .pointer (some ⟨1, 0, none⟩))]) (bs := [(0, .cells [.slice (some ⟨2, 0, none⟩) (l.length + 1) U] 123), (1, .cells [.bool false] 4)]) (W := []) (m := 3) (df := [.call 106 [.pointer (some ⟨0, 0, none⟩), .pointer (some ⟨1, 0, none⟩)] []]) rfl rfl rfl (fun l e => by cases e) (by decide) (by decide) rfl rfl (fun k hk h => by omega) ⟨(sP rfl rfl), (sP rfl rfl), tv⟩ ⟨⟨by decide, _, rfl, zBe rfl⟩, bpo rfl, tv⟩ (.fn _ _ _ _ _ _ _ (.cons _ _ _ _ (.ptr _ _ _ rfl) (.cons _ _ _ _ (.ptr _ _ _ rfl) .nil)) .nil .nil)) (fun f2 => ?_))
     refine Eq.mpr (zOd _ _ l.length f2) ?_
     exact eI _ (eI _ (eI _ (Or.inr (aI hn rfl))))
    have h3 : k <= (bs s).length := by have := oF h3; rw [zAd] at this; omega
    have hcut : (Pt.sz k).cut (bs s) = some k := by simp [Pt.cut, h3]
    have hx : (k : Int) = (k : Nat) := rfl
    refine aI (by kernel_rfl) ?_
    refine aI (by rw [hx]; simp only [inLH, zAd, bA, dT] <;> omega) ?_
    refine aI (by rw [zAe pc 2 zJm]; have hT : (Try.prog.types[127]).size = 2 := (by kernel_rfl); have hB : (Try.prog.types[127]).bytes = 24 := (by kernel_rfl); have hl : l.length + 1 = i := hacc; simp [oneL, Value.oneCell', hT, hB]; omega) ?_
    refine aI (by rw [hx]; simp only [inLH, zAd, bA, dT] <;> omega) ?_
    refine ⟨(i + 1, (a :: l) ++ [((bs s).take (k), false)], subS s ((k : Int)).toNat ((s.data.size : Int)).toNat), ⟨h1, ?_, ?_, ?_⟩, ?_, ?_⟩
    ·show (bs (subS s _ _)).length <= _; rw [zAo s _ _ hx]; simp <;> omega
    ·simp only [aB, hacc]; rfl
    ·show cuts ps (bs s0) = (cuts (ps.drop (i + 1)) (bs (subS s _ _))).map _; rw [zAo s _ _ hx, heq, hst, hcut]; simp only [Option.map_map]; exact congrArg (fun g => Option.map g _) (funext fun y => by simp [Pt.isName])
    ·show ps.length - (i + 1) < ps.length - i; omega
    refine zAz [0, 1, 2, 6] rfl rfl rfl (fun l e => by cases e) (by decide) (by decide) rfl rfl (fun k hk h => by omega) ⟨⟨_, rfl, .string _⟩, (sP rfl rfl), (sP rfl rfl), (sL rfl rfl), (sI rfl), zAb rfl (by rw [wrapN (by omega) (by omega)]; omega), tv⟩ ⟨⟨by decide, _, rfl, ?_⟩, bpo rfl, bpo (zAc _ Pt.cell_plain ps), ⟨by decide, _, rfl, ?_⟩, tv⟩ (.fn _ _ _ _ _ _ _ (.cons _ _ _ _ (.ptr _ _ _ rfl) (.cons _ _ _ _ (.ptr _ _ _ rfl) .nil)) .nil .nil)
    ·have : (l ++ [((bs s).take (k), false)]).length = l.length + 1 := by simp
     show RO _ _ _ (.cells [.slice _ ((l ++ [_]).length + 1) U] _)
     rw [this]
     exact zBe rfl
    refine zAv ?_ (zAc pc zDk _)
    show List.take ((l.length + 1) * 2) ((a :: l).flatMap pc) ++ [Value.string (subS s (Int.toNat 0) ((k : Int)).toNat), .bool false] = _
    rw [zCf s _ _ hx, aD (by rw [zAe pc 2 zJm]; simp)]
    show _ = ((a :: l) ++ [_]).flatMap pc
    rw [zLd]; rfl
  have h1 : ¬ i < ps.length := by have := oF h1; omega
  have hc : cuts ps (bs s0) = some (a :: l, bs s) := by rw [heq, bE (by omega)]; simp [cuts]
  refine aI rfl ?_
  refine (zAg (zAz [0, 1, 3] (d := 7) (d2 := 2) (lv := [(4, .pointer (some ⟨0, 0, none⟩)), (5, .pointer (some ⟨1, 0, none⟩))]) (bs := [(0, .cells [.slice (some ⟨2, 0, none⟩) (l.length + 1) U] 123), (1, .cells [.bool (s.data.toList == [])] 4), (2, .cells ((a :: l).flatMap pc) 127)]) (W := []) (m := 3) (df := [.call 106 [.pointer (some ⟨0, 0, none⟩), .pointer (some ⟨1, 0, none⟩)] []]) rfl rfl rfl (fun l e => by cases e) (by decide) (by decide) rfl rfl (fun k hk h => by omega) ⟨(sP rfl rfl), (sP rfl rfl), tv⟩ ⟨⟨by decide, _, rfl, zBe rfl⟩, bpo rfl, bpo (zAc pc zDk _), tv⟩ (.fn _ _ _ _ _ _ _ (.cons _ _ _ _ (.ptr _ _ _ rfl) (.cons _ _ _ _ (.ptr _ _ _ rfl) .nil)) .nil .nil)) (fun f2 => ?_))
  refine Eq.mpr (end_ret _ _ l.length (s.data.toList == []) ((a :: l).flatMap pc) f2) ?_
  have hem : (bs s).isEmpty = (s.data.toList == []) := by show _ = (bs s == []); cases bs s <;> rfl
  refine ⟨?zH, ?zm, ?zw, Or.inl ⟨a :: l, bs s, 2, hc, ?zg, ?zh, by decide⟩⟩
  case zg => rw [hem]; exact rfl
  case zh => exact zSq _ _ _ _ _
def zFr : Ct Try.prog 0 := Ct.str1 55 (fun s => .int .i64 (labels (bs s)).2) (fun _ => rfl) (fun s w hs => by have := zRc (bs s) w hs; rwa [str_bs] at this)
def ptsT (t : Int) : Option (List Pt) :=
 bif t == 1 then some [.sz 4] else bif t == 28 then some [.sz 16] else bif t == 2 then some [.nm] else bif t == 5 then some [.nm] else bif t == 12 then some [.nm] else bif t == 15 then some [.sz 2, .nm]
 else bif t == 6 then some [.nm, .nm, .sz 20] else bif t == 16 then some [.rest] else none
theorem zQz {t : Int} {ps : List Pt} (h : ptsT t = some ps) : 0 < ps.length /\ ps.length < 1000 /\ ∀ H n, partsGo t H n partsTab = partsOut ps.length (ps.flatMap Pt.cell) H n := by
 unfold ptsT at h
 unfold partsTab
 simp only [partsGo]
 cases h1 : (t == 1) with
 | true => rw [h1] at h; cases h; exact ⟨by decide, by decide, fun _ _ => rfl⟩
 | false =>
 cases h2 : (t == 28) with
 | true => rw [h1, h2] at h; cases h; exact ⟨by decide, by decide, fun _ _ => rfl⟩
 | false =>
 cases h3 : (t == 2) with
 | true => rw [h1, h2, h3] at h; cases h; exact ⟨by decide, by decide, fun _ _ => rfl⟩
 | false =>
 cases h4 : (t == 5) with
 | true => rw [h1, h2, h3, h4] at h; cases h; exact ⟨by decide, by decide, fun _ _ => rfl⟩
 | false =>
 cases h5 : (t == 12) with
 | true => rw [h1, h2, h3, h4, h5] at h; cases h; exact ⟨by decide, by decide, fun _ _ => rfl⟩
 | false =>
 cases h6 : (t == 15) with
 | true => rw [h1, h2, h3, h4, h5, h6] at h; cases h; exact ⟨by decide, by decide, fun _ _ => rfl⟩
 | false =>
 cases h7 : (t == 6) with
 | true => rw [h1, h2, h3, h4, h5, h6, h7] at h; cases h; exact ⟨by decide, by decide, fun _ _ => rfl⟩
 | false =>
 cases h8 : (t == 16) with
 | true => rw [h1, h2, h3, h4, h5, h6, h7, h8] at h; cases h; exact ⟨by decide, by decide, fun _ _ => rfl⟩
 | false => rw [h1, h2, h3, h4, h5, h6, h7, h8] at h; cases h
theorem ptsT_none {t : Int} (h : ptsT t = none) : ∀ H n, partsGo t H n partsTab = .ret (.tuple #[.slice none 0 0, .bool false]) H n [] := by
 unfold ptsT at h
 unfold partsTab
 simp only [partsGo]
 cases h1 : (t == 1) with
 | true => rw [h1] at h; cases h
 | false =>
 cases h2 : (t == 28) with
 | true => rw [h1, h2] at h; cases h
 | false =>
 cases h3 : (t == 2) with
 | true => rw [h1, h2, h3] at h; cases h
 | false =>
 cases h4 : (t == 5) with
 | true => rw [h1, h2, h3, h4] at h; cases h
 | false =>
 cases h5 : (t == 12) with
 | true => rw [h1, h2, h3, h4, h5] at h; cases h
 | false =>
 cases h6 : (t == 15) with
 | true => rw [h1, h2, h3, h4, h5, h6] at h; cases h
 | false =>
 cases h7 : (t == 6) with
 | true => rw [h1, h2, h3, h4, h5, h6, h7] at h; cases h
 | false =>
 cases h8 : (t == 16) with
 | true => rw [h1, h2, h3, h4, h5, h6, h7, h8] at h; cases h
 | false => exact fun _ _ => rfl
def zWk (t : Int) (h : ∀ H n, partsGo t H n partsTab = .ret (.tuple #[.slice none 0 0, .bool false]) H n []) : Ct Try.prog 0 where
 f := 102
 res l H n := match l with | [.int .i64 t'] => bif t' == t then .ret (.tuple #[.slice none 0 0, .bool false]) H n [] else .bad "type" [] | _ => .bad "arguments" []
 ok l H n := by
  split
  ·rename_i t'
   cases hb : (t' == t) with
   | false => trivial
   | true =>
    have hb : t' = t := by simpa using hb
    subst hb
    have := zVg t' H n
    rw [h] at this
    exact this
  trivial
 ck l H n K := match l with | [.int .i64 t'] => (t' == t) = true /\ K (.ret (.tuple #[.slice none 0 0, .bool false]) H n []) | _ => False
 imp l H n K h := by
  split at h
  ·obtain ⟨h1, h2⟩ := h
   simp only [h1, cT]; exact h2
  exact h.elim
theorem zXm (t : Int) (ht : ∀ H n, partsGo t H n partsTab = .ret (.tuple #[.slice none 0 0, .bool false]) H n []) (s : ByteArray) :
  ∃ r, FnS Try.prog 0 91 [.int .i64 t, .string s] .e 0 r /\ ∃ H m wr b, r = .ret (.tuple #[.slice (some ⟨b, 0, none⟩) 1 1, .bool true]) H m wr /\ H.get b = some (.cells [.string s, .bool false] 127) /\ b < JJ := by
 refine zBh mixed (tbOf mixed [zWk t ht]) [] Try.func91 (c := bodyOf Try.f91) (by kernel_rfl) ?_
 refine aI (by simp) ?_
 exact ⟨_, _, _, _, rfl, rfl, by decide⟩
def outT (t : Int) (l : Bs) : Option (List (Bs × Bool) × Bs) := match ptsT t with | some ps => cuts ps l | none => none
def outP (t : Int) (l : Bs) : List (Bs × Bool) := match outT t l with | some x => x.1 | none => []
def outR (t : Int) (l : Bs) : Bs := match outT t l with | some x => x.2 | none => []
theorem zPv (t : Int) (s : ByteArray) (hs : (bs s).length <= 1000000000) (H : Tr AObj) (n : Nat) :
  (ptsT t = none -> CallOK Try.prog 0 91 [.int .i64 t, .string s] H n (.ret (.tuple #[.slice (some ⟨n, 0, none⟩) 1 1, .bool true]) (H.set n (some (.cells [.string s, .bool false] 127))) (n + 1) [])) /\
  ((ptsT t).isSome = true -> (outT t (bs s)).isSome = true -> CallOK Try.prog 0 91 [.int .i64 t, .string s] H n (.ret (.tuple #[.slice (some ⟨n, 0, none⟩) (outP t (bs s)).length U, .bool (outR t (bs s)).isEmpty]) (H.set n (some (.cells ((outP t (bs s)).flatMap pc) 127))) (n + 1) [])) /\
  ((ptsT t).isSome = true -> (outT t (bs s)).isSome = false -> CallOK Try.prog 0 91 [.int .i64 t, .string s] H n (.ret (.tuple #[.slice none 0 0, .bool false]) H n [])) := by
 refine ⟨fun h => ?_, fun h1 h2 => ?_, fun h1 h2 => ?_⟩
 ·obtain ⟨r, hF, H', m, wr, b, rfl, hb, hJ⟩ := zXm t (ptsT_none h) s
  exact zDc (fun n => .tuple #[.slice (some ⟨n, 0, none⟩) 1 1, .bool true]) hF rfl hb hJ rfl (fun n => .tuple _ _ (.cons _ _ _ _ (.sl _ _ _ _ _ (zJc _ _)) (.cons _ _ _ _ (.bool _) .nil))) H n
 ·obtain ⟨ps, hp⟩ := Option.isSome_iff_exists.1 h1
  obtain ⟨p1, p2, p3⟩ := zQz hp
  obtain ⟨⟨out, rest⟩, ho⟩ := Option.isSome_iff_exists.1 h2
  have hc : cuts ps (bs s) = some (out, rest) := by unfold outT at ho; rw [hp] at ho; exact ho
  have e1 : outP t (bs s) = out := by unfold outP; rw [ho]
  have e2 : outR t (bs s) = rest := by unfold outR; rw [ho]
  obtain ⟨r, hF, H', m, wr, ⟨out', rest', b, q1, rfl, q3, q4⟩ | ⟨q1, _⟩⟩ := zVv t ps p1 p2 p3 s hs
  ·rw [hc] at q1; cases q1
   rw [e1, e2]
   exact zDc (fun n => .tuple #[.slice (some ⟨n, 0, none⟩) out.length U, .bool rest.isEmpty]) hF rfl q3 q4 (zAc pc zDk _) (fun n => .tuple _ _ (.cons _ _ _ _ (.sl _ _ _ _ _ (zJc _ _)) (.cons _ _ _ _ (.bool _) .nil))) H n
  rw [hc] at q1; cases q1
 obtain ⟨ps, hp⟩ := Option.isSome_iff_exists.1 h1
 obtain ⟨p1, p2, p3⟩ := zQz hp
 have hc : cuts ps (bs s) = none := by unfold outT at h2; rw [hp] at h2; simpa using h2
 obtain ⟨r, hF, H', m, wr, ⟨out', rest', b, q1, _⟩ | ⟨_, rfl⟩⟩ := zVv t ps p1 p2 p3 s hs
 ·rw [hc] at q1; cases q1
 exact zAx hF rfl rfl H n
def zUl : Ct Try.prog 0 where
 f := 91
 res l H n := match l with
  | [.int .i64 t, .string s] => bif shortB s then (bif (ptsT t).isSome then (bif (outT t (bs s)).isSome then .ret (.tuple #[.slice (some ⟨n, 0, none⟩) (outP t (bs s)).length U, .bool (outR t (bs s)).isEmpty]) (H.set n (some (.cells ((outP t (bs s)).flatMap pc) 127))) (n + 1) [] else .ret (.tuple #[.slice none 0 0, .bool false]) H n [])
    else .ret (.tuple #[.slice (some ⟨n, 0, none⟩) 1 1, .bool true]) (H.set n (some (.cells [.string s, .bool false] 127))) (n + 1) []) else .bad "long" []
  | _ => .bad "arguments" []
 ok l H n := by
  split
  ·rename_i t s
   cases hs : shortB s with
   | false => trivial
   | true =>
    obtain ⟨c1, c2, c3⟩ := zPv t s (zGb hs) H n
    cases h1 : (ptsT t).isSome with
    | false => exact c1 (by simpa using h1)
    | true =>
     cases h2 : (outT t (bs s)).isSome with
     | true => exact c2 h1 h2
     | false => exact c3 h1 h2
  trivial
 ck l H n K := match l with
  | [.int .i64 t, .string s] => shortB s = true /\ brK (ptsT t).isSome (brK (outT t (bs s)).isSome (K (.ret (.tuple #[.slice (some ⟨n, 0, none⟩) (outP t (bs s)).length U, .bool (outR t (bs s)).isEmpty]) (H.set n (some (.cells ((outP t (bs s)).flatMap pc) 127))) (n + 1) [])) (K (.ret (.tuple #[.slice none 0 0, .bool false]) H n [])))
    (K (.ret (.tuple #[.slice (some ⟨n, 0, none⟩) 1 1, .bool true]) (H.set n (some (.cells [.string s, .bool false] 127))) (n + 1) []))
  | _ => False
 imp l H n K h := by
  split at h
  ·rename_i t s
   obtain ⟨h0, h⟩ := h
   simp only [h0, cT]
   cases h1 : (ptsT t).isSome with
   | false => rw [h1] at h; exact h
   | true =>
    rw [h1] at h
    cases h2 : (outT t (bs s)).isSome with
    | true => rw [h2] at h; exact h
    | false => rw [h2] at h; exact h
  exact h.elim
def fitsD (t : Int) (l : Bs) : Bool := bif (ptsT t).isSome then (outT t l).isSome && (outR t l).isEmpty else true
def checkD (t : Int) (l : Bs) : Int := if t < 0 \/ 65535 < t then 5 else if 65535 < l.length then 3 else if fitsD t l then 0 else 4
noncomputable def tbE2 : Tb Try.prog 0 := tbOf mixed [zUl]
theorem check_fn (t : Int) (s : ByteArray) (hs : (bs s).length <= 1000000000) : ∃ r, FnS Try.prog 0 80 [.int .i64 t, .string s] .e 0 r /\ ∃ H m wr, r = .ret (.int .i64 (checkD t (bs s))) H m wr := by
 have hsB : shortB s = true := by unfold shortB; rw [zAd]; exact bL hs
 refine zBh mixed tbE2 [] Try.func80 (c := bodyOf Try.f80) (by kernel_rfl) ?_
 unfold checkD fitsD
 refine ifK (fun h1 => ?_) (fun h1 => ?_)
 ·rw [if_pos (.inl (oT h1))]; exact ⟨_, _, _, rfl⟩
 have h1 := oF h1
 refine ifK (fun h2 => ?_) (fun h2 => ?_)
 ·rw [if_pos (.inr (oT h2))]; exact ⟨_, _, _, rfl⟩
 have h2 := oF h2
 rw [if_neg (by omega)]
 refine ifK (fun h3 => ?_) (fun h3 => ?_)
 ·have h3 := oT h3
  rw [zAd] at h3
  rw [if_pos (by omega)]; exact ⟨_, _, _, rfl⟩
 have h3 := oF h3
 rw [zAd] at h3
 rw [if_neg (by omega)]
 refine aI hsB ?_
 refine ifK (fun h4 => ?_) (fun h4 => ?_)
 ·rw [h4]
  refine ifK (fun h5 => ?_) (fun h5 => ?_)
  ·rw [h5]
   refine ifK (fun h6 => ?_) (fun h6 => ?_)
   ·rw [show (outR t (bs s)).isEmpty = false by simpa using h6]; exact ⟨_, _, _, rfl⟩
   rw [show (outR t (bs s)).isEmpty = true by simpa using h6]; exact ⟨_, _, _, rfl⟩
  rw [h5]; exact ⟨_, _, _, rfl⟩
 rw [h4]; exact ⟨_, _, _, rfl⟩
def Ct.intStr (f : FuncId) (out : Int -> ByteArray -> Value) (hp : ∀ t s, plainV 8 (out t s) = true) (ok : ∀ t s, (bs s).length <= 1000000000 -> ∃ H m wr, FnS Try.prog 0 f [.int .i64 t, .string s] .e 0 (.ret (out t s) H m wr)) : Ct Try.prog 0 where
 f := f
 res l H n := match l with | [.int .i64 t, .string s] => bif shortB s then .ret (out t s) H n [] else .bad "long" [] | _ => .bad "arguments" []
 ok l H n := by
  split
  ·rename_i t s
   cases hs : shortB s with
   | false => trivial
   | true => obtain ⟨_, _, _, h⟩ := ok t s (zGb hs); exact zAx h rfl (hp t s) H n
  trivial
 ck l H n K := match l with | [.int .i64 t, .string s] => shortB s = true /\ K (.ret (out t s) H n []) | _ => False
 imp l H n K h := by
  split at h
  ·obtain ⟨h1, h2⟩ := h
   simp only [h1, cT]; exact h2
  exact h.elim
def zMo : Ct Try.prog 0 := Ct.intStr 80 (fun t s => .int .i64 (checkD t (bs s))) (fun _ _ => rfl) (fun t s hs => by
 obtain ⟨r, h, H, m, wr, rfl⟩ := check_fn t s hs
 exact ⟨H, m, wr, h⟩)
theorem zCu {s : ByteArray} (h : (bs s).length <= 1000000000) : shortB s = true := by unfold shortB; rw [zAd]; exact bL h
def sumL (ps : List (Bs × Bool)) : Nat := (ps.flatMap fun p => p.1).length
theorem zTr (ps : List (Bs × Bool)) (i : Nat) (h : i < ps.length) : (ps[i].1).length <= sumL ps := by
 unfold sumL
 have : ps[i] ∈ ps := aV h
 revert this
 generalize ps[i] = p
 intro hm
 induction ps with
 | nil => cases hm
 | cons q r ih =>
  rw [List.flatMap_cons, aB]
  rcases aK.1 hm with e | e
  ·rw [e]; omega
  by_cases hr : r = []
  ·subst hr; cases e
  have : ∀ (l : List (Bs × Bool)), p ∈ l -> p.1.length <= (l.flatMap fun p => p.1).length := by
   intro l hl
   induction l with
   | nil => cases hl
   | cons x y ihy =>
    rw [List.flatMap_cons, aB]
    rcases aK.1 hl with e2 | e2
    ·rw [e2]; omega
    have := ihy e2; omega
  have := this r e; omega
theorem str_mk (s : ByteArray) : Value.string s = str (bs s) := by simp [str, bs]
theorem zOa : ∀ (ps : List Pt) (l : Bs) (o : List (Bs × Bool)) (r : Bs), cuts ps l = some (o, r) -> o.length = ps.length /\ (o.flatMap fun p => p.1) ++ r = l
 | [], l, o, r, h => by simp only [cuts, aP, Prod.mk.injEq] at h; obtain ⟨rfl, rfl⟩ := h; simp
 | p :: ps, l, o, r, h => by
  simp only [cuts] at h
  cases hc : p.cut l with
  | none => rw [hc] at h; cases h
  | some n =>
   rw [hc] at h
   simp only [] at h
   obtain ⟨⟨o', r'⟩, h1, h2⟩ := Option.map_eq_some_iff.1 h
   simp only [Prod.mk.injEq] at h2
   obtain ⟨rfl, rfl⟩ := h2
   obtain ⟨e1, e2⟩ := zOa ps _ _ _ h1
   refine ⟨by simp [e1], ?_⟩
   rw [List.flatMap_cons, aN, e2]; simp
theorem zCm {t : Int} {l : Bs} (h : checkD t l = 0) : 0 <= t /\ t <= 65535 /\ l.length <= 65535 /\ fitsD t l = true := by
 unfold checkD at h
 split at h
 ·cases h
 split at h
 ·cases h
 split at h
 ·rename_i h1 h2 h3
  exact ⟨by omega, by omega, by omega, h3⟩
 cases h
theorem zOi {t : Int} {ps : List Pt} {l : Bs} (hp : ptsT t = some ps) (h : fitsD t l = true) : ∃ o, cuts ps l = some (o, []) /\ outT t l = some (o, []) := by
 unfold fitsD at h
 rw [hp] at h
 simp only [Option.isSome_some, cT, bA] at h
 obtain ⟨⟨o, r⟩, ho⟩ := Option.isSome_iff_exists.1 h.1
 have hr : r = [] := by
  have := h.2
  unfold outR at this
  rw [ho] at this
  simpa using this
 subst hr
 refine ⟨o, ?_, ho⟩
 unfold outT at ho
 rw [hp] at ho; exact ho
noncomputable def tbF1 : Tb Try.prog 0 := tbOf mixed [zFr]
def formL (t : Int) : List Int := if t = 1 then [4] else if t = 28 then [16] else if t = 2 then [-1] else if t = 5 then [-1] else if t = 12 then [-1] else if t = 15 then [2, -1] else if t = 6 then [-1, -1, 20] else if t = 16 then [-2] else [-3]
def intV (i : Int) : Value := .int .i64 i
theorem zCc (l : List Int) : plainL (l.map intV) = true := by simp [plainL, plainV, intV]
theorem form_fn (t : Int) : ∃ r, FnS Try.prog 0 95 [.int .i64 t] .e 0 r /\ ∃ H m wr, r = .ret (.slice (some ⟨0, 0, none⟩) (formL t).length (formL t).length) H m wr /\ H.get 0 = some (.cells ((formL t).map intV) 3) := by
 refine zBh mixed tbF1 [] Try.func95 (c := bodyOf Try.f95) (by kernel_rfl) ?_
 unfold formL
 refine ifK (fun h => ?_) (fun h => ?_)
 ·rw [if_pos (by simpa using h)]; exact ⟨_, _, _, rfl, rfl⟩
 rw [if_neg (by simpa using h)]
 refine ifK (fun h => ?_) (fun h => ?_)
 ·rw [if_pos (by simpa using h)]; exact ⟨_, _, _, rfl, rfl⟩
 rw [if_neg (by simpa using h)]
 refine ifK (fun h => ?_) (fun h => ?_)
 ·rw [if_pos (by simpa using h)]; exact ⟨_, _, _, rfl, rfl⟩
 rw [if_neg (by simpa using h)]
 refine ifK (fun h => ?_) (fun h => ?_)
 ·rw [if_pos (by simpa using h)]; exact ⟨_, _, _, rfl, rfl⟩
 rw [if_neg (by simpa using h)]
 refine ifK (fun h => ?_) (fun h => ?_)
 ·rw [if_pos (by simpa using h)]; exact ⟨_, _, _, rfl, rfl⟩
 rw [if_neg (by simpa using h)]
 refine ifK (fun h => ?_) (fun h => ?_)
 ·rw [if_pos (by simpa using h)]; exact ⟨_, _, _, rfl, rfl⟩
 rw [if_neg (by simpa using h)]
 refine ifK (fun h => ?_) (fun h => ?_)
 ·rw [if_pos (by simpa using h)]; exact ⟨_, _, _, rfl, rfl⟩
 rw [if_neg (by simpa using h)]
 refine ifK (fun h => ?_) (fun h => ?_)
 ·rw [if_pos (by simpa using h)]; exact ⟨_, _, _, rfl, rfl⟩
 rw [if_neg (by simpa using h)]
 exact ⟨_, _, _, rfl, rfl⟩
def formOut (t : Int) (H : Tr AObj) (n : Nat) : Res := .ret (.slice (some ⟨n, 0, none⟩) (formL t).length (formL t).length) (H.set n (some (.cells ((formL t).map intV) 3))) (n + 1) []
def ct_form : Ct Try.prog 0 where
 f := 95
 res l H n := match l with | [.int .i64 t] => formOut t H n | _ => .bad "arguments" []
 ok l H n := by
  split
  ·rename_i t
   obtain ⟨r, hF, H', m, wr, rfl, hb⟩ := form_fn t
   exact zDc (fun n => .slice (some ⟨n, 0, none⟩) (formL t).length (formL t).length) hF rfl hb (by decide) (zCc _) (fun n => .sl _ _ _ _ _ (zJc _ _)) H n
  trivial
 ck l H n K := match l with | [.int .i64 t] => K (formOut t H n) | _ => False
 imp l H n K h := by
  split at h
  ·exact h
  exact h.elim
theorem rtexts_fn (s : ByteArray) (hs : (bs s).length <= 1000000000) : ∃ r, FnS Try.prog 0 110 [.string s] .e 0 r /\ ∃ H m wr, r = .ret (.bool (texts (bs s))) H m wr := by
 refine zBh mixed tbF1 [] Try.func110 (c := bodyOf Try.f110) (by kernel_rfl) ?_
 refine zAn (fun i f => ⟨slots 6 [(0, .string s), (3, .int .i64 (i : Nat))] f, heap 0 [], 0, [], []⟩) (fun i => (bs s).length - i) (fun i => i <= (bs s).length + 256 /\ (i <= (bs s).length -> txt (bs s) = txt ((bs s).drop i)) /\ ((bs s).length < i -> txt (bs s) = false)) 0 ⟨by omega, fun _ => rfl, fun h => by omega⟩
  (rcq [] ⟨⟨_, rfl, .string _⟩, (sI rfl), tv⟩ trivial .nil) ?_
 rintro i f ⟨hi, h1, h2⟩
 refine zAm tbF1 [] 0 _ none mixed _ _ _ ?_
 refine ifK (fun h3 => ?_) (fun h3 => ?_)
 ·have h3 : i < (bs s).length := by have := oT h3; rw [zAd] at this; omega
  have hb := zNr (bs s)[i]
  have hat := zNp s i h3
  have e1 : IntKind.i64.wrap (IntKind.i64.wrap ((i : Int) + 1) + IntKind.i64.wrap ((atS s (i : Int)).toNat : Int)) = ((i + 1 + (bs s)[i].toNat : Nat) : Int) := by
   rw [hat, wrapN (x := (((bs s)[i]).toNat : Int)) (by omega) (by omega), wrapN (x := (i : Int) + 1) (by omega) (by omega), wrapN (by omega) (by omega)]; omega
  refine aI (by simp only [inI, zAd]; simp; omega) ?_
  have hstep := txt_at (bs s) i h3
  refine ⟨i + 1 + (bs s)[i].toNat, ⟨by omega, fun h4 => ?_, fun h4 => ?_⟩, by omega, rcq [] ⟨⟨_, rfl, .string _⟩, zAb rfl e1, tv⟩ trivial .nil⟩
  ·rw [h1 (by omega), hstep, aX (by omega), Bool.true_and]
  rw [h1 (by omega), hstep, aY (by omega), Bool.false_and]
 have h3 : ¬ i < (bs s).length := by have := oF h3; rw [zAd] at this; omega
 refine aI rfl (zAg (rcq [] (d := 6) (d2 := 0) (lv := [(0, .string s), (3, .int .i64 (i : Nat))]) (bs := []) (W := []) (m := 0) (df := []) ⟨⟨_, rfl, .string _⟩, (sI rfl), tv⟩ trivial .nil) (fun f => ?_))
 refine ifK (fun h4 => ?_) (fun h4 => ?_)
 ·have hne : (bs s).isEmpty = false := by
   have : (!(bs s == [])) = true := h4
   cases hb : bs s with
   | nil => rw [hb] at this; cases this
   | cons a l => rfl
  have : texts (bs s) = ((i : Int) == (s.data.size : Int)) := by
   unfold texts
   rw [hne, Bool.not_false, Bool.true_and, zAd]
   by_cases hie : i = (bs s).length
   ·rw [h1 (by omega), bE (by omega), txt_nil, hie]; simp
   rw [h2 (by omega)]; symm; simp; omega
  rw [this]; exact ⟨_, _, _, rfl⟩
 have : texts (bs s) = false := by
  have : (!(bs s == [])) = false := h4
  cases hb : bs s with
  | nil => rfl
  | cons a l => rw [hb] at this; cases this
 rw [this]; exact ⟨_, _, _, rfl⟩
def ct_rtexts : Ct Try.prog 0 := Ct.strF 110 (fun s => .bool (texts (bs s))) (fun _ => rfl) (fun s hs => by
 obtain ⟨r, h, H, m, wr, rfl⟩ := rtexts_fn s hs
 exact ⟨H, m, wr, h⟩)
def frontI (l : Bs) : Int := match front l with | some k => (k : Int) | none => -1
theorem rfront_fn (s : ByteArray) (hs : (bs s).length <= 100000000) : ∃ r, FnS Try.prog 0 109 [.string s] .e 0 r /\ ∃ H m wr, r = .ret (.int .i64 (frontI (bs s))) H m wr := by
 refine zBh mixed tbF1 [] Try.func109 (c := bodyOf Try.f109) (by kernel_rfl) ?_
 refine zAn (fun i f => ⟨slots 6 [(0, .string s), (3, .int .i64 (i : Nat))] f, heap 0 [], 0, [], []⟩) (fun i => (bs s).length + 300 - i) (fun i => i <= (bs s).length + 256 /\ zpos (bs s) = (zpos ((bs s).drop i)).map (· + i)) 0 ⟨by omega, by simp⟩
  (rcq [] ⟨⟨_, rfl, .string _⟩, (sI rfl), tv⟩ trivial .nil) ?_
 rintro i f ⟨hi, heq⟩
 refine zAm tbF1 [] 0 _ none mixed _ _ _ ?_
 refine ifK (fun h1 => ?_) (fun h1 => ?_)
 ·have h1 : i < (bs s).length := by have := oT h1; rw [zAd] at this; omega
  have hb := zNr (bs s)[i]
  have hat := zNp s i h1
  have hstep := zpos_at (bs s) i h1
  refine aI (by simp only [inI, zAd]; simp; omega) ?_
  refine ifK (fun h3 => ?_) (fun h3 => ?_)
  ·have h3 : (bs s)[i].toNat ≠ 0 := by rw [hat] at h3; simpa using h3
   rw [if_neg h3] at hstep
   have e1 : IntKind.i64.wrap (IntKind.i64.wrap ((i : Int) + 1) + IntKind.i64.wrap ((atS s (i : Int)).toNat : Int)) = ((i + 1 + (bs s)[i].toNat : Nat) : Int) := by
    rw [hat, wrapN (x := (((bs s)[i]).toNat : Int)) (by omega) (by omega), wrapN (x := (i : Int) + 1) (by omega) (by omega), wrapN (by omega) (by omega)]; omega
   refine aI (by simp only [inI, zAd]; simp; omega) ?_
   refine ⟨i + 1 + (bs s)[i].toNat, ⟨by omega, ?_⟩, by omega, rcq [] ⟨⟨_, rfl, .string _⟩, zAb rfl e1, tv⟩ trivial .nil⟩
   rw [heq, hstep, Option.map_map]
   congr 1
   funext j; simp; omega
  have h3 : (bs s)[i].toNat = 0 := by rw [hat] at h3; simpa using h3
  rw [if_pos h3] at hstep
  rw [hstep] at heq
  have hz : zpos (bs s) = some i := by rw [heq]; simp
  refine aI rfl (zAg (rcq [] (d := 6) (d2 := 0) (lv := [(0, .string s), (3, .int .i64 (i : Nat))]) (bs := []) (W := []) (m := 0) (df := []) ⟨⟨_, rfl, .string _⟩, (sI rfl), tv⟩ trivial .nil) (fun f => ?_))
  refine ifK (fun _ => ?_) (fun h4 => ab h4 (by rw [zAd]; simp; omega))
  have e1 : IntKind.i64.wrap ((i : Int) + 1) = ((i + 1 : Nat) : Int) := by rw [wrapN (by omega) (by omega)]; omega
  have e2 : (IntKind.i64.wrap ((i : Int) + 1)).toNat = i + 1 := by rw [e1]; rfl
  refine aI (by rw [e1]; simp only [inLH, zAd]; simp; omega) ?_
  have hsub : bs (subS s (Int.toNat 0) (IntKind.i64.wrap ((i : Int) + 1)).toNat) = (bs s).take (i + 1) := by rw [zPs, e2]; simp
  refine aI (zCu (by rw [hsub]; simp; omega)) ?_
  refine ifK (fun h4 => ?_) (fun h4 => ?_)
  ·have h4 : (labels ((bs s).take (i + 1))).2 = 0 := by rw [hsub] at h4; simpa using h4
   have hf : frontI (bs s) = IntKind.i64.wrap ((i : Int) + 1) := by unfold frontI front; rw [hz, e1]; simp [h4]
   rw [hf]; exact ⟨_, _, _, rfl⟩
  have h4 : ¬ (labels ((bs s).take (i + 1))).2 = 0 := by rw [hsub] at h4; simpa using h4
  have hf : frontI (bs s) = -1 := by unfold frontI front; rw [hz]; simp [h4]
  rw [hf]; exact ⟨_, _, _, rfl⟩
 have h1 : ¬ i < (bs s).length := by have := oF h1; rw [zAd] at this; omega
 have hf : frontI (bs s) = -1 := by
  unfold frontI front
  rw [heq, bE (by omega), zWb]; rfl
 rw [hf]
 refine aI rfl (zAg (rcq [] (d := 6) (d2 := 0) (lv := [(0, .string s), (3, .int .i64 (i : Nat))]) (bs := []) (W := []) (m := 0) (df := []) ⟨⟨_, rfl, .string _⟩, (sI rfl), tv⟩ trivial .nil) (fun f => ?_))
 refine ifK (fun h4 => ab h4 (by rw [zAd]; simp; omega)) (fun _ => ?_)
 exact ⟨_, _, _, rfl⟩
def ct_rfront : Ct Try.prog 0 where
 f := 109
 res l H n := match l with | [.string s] => bif s.data.size.ble 100000000 then .ret (.int .i64 (frontI (bs s))) H n [] else .bad "long" [] | _ => .bad "arguments" []
 ok l H n := by
  split
  ·rename_i s
   cases hs : s.data.size.ble 100000000 with
   | false => trivial
   | true =>
    obtain ⟨r, h, H', m, wr, rfl⟩ := rfront_fn s (by rw [<- zAd]; exact aE hs)
    exact zAx h rfl rfl H n
  trivial
 ck l H n K := match l with | [.string s] => s.data.size.ble 100000000 = true /\ brK (front (bs s)).isSome (K (.ret (.int .i64 (frontN (bs s) : Int)) H n [])) (K (.ret (.int .i64 (-1)) H n [])) | _ => False
 imp l H n K h := by
  split at h
  ·rename_i s
   obtain ⟨h1, h2⟩ := h
   simp only [h1, cT]
   unfold frontI
   cases hf : front (bs s) with
   | none => rw [hf] at h2; exact h2
   | some k => rw [hf] at h2; simp only [frontN, hf, Option.getD_some] at h2; exact h2
  exact h.elim
inductive Pr where
 | nm
 | rest
 | all
 | sz (k : Nat)
def Pr.i : Pr -> Int
 | .nm => -1
 | .rest => -2
 | .all => -3
 | .sz k => (k : Int)
def Pr.cut (p : Pr) (l : Bs) : Option Nat :=
 match p with
 | .nm => front l
 | .rest => if texts l then some l.length else none
 | .all => some l.length
 | .sz k => if k <= l.length then some k else none
def cutsR : List Pr -> Bs -> Option (List Bs × Bs)
 | [], l => some ([], l)
 | p :: ps, l => match p.cut l with
  | none => none
  | some n => (cutsR ps (l.drop n)).map fun x => (l.take n :: x.1, x.2)
theorem zMp (ps : List Pr) (i : Nat) (h : i < ps.length) (l : Bs) : cutsR (ps.drop i) l = match ps[i].cut l with
  | none => none
  | some n => (cutsR (ps.drop (i + 1)) (l.drop n)).map fun x => (l.take n :: x.1, x.2) := by
 rw [bD h]; rfl
noncomputable def tbF2 : Tb Try.prog 0 := tbOf mixed [ct_form, ct_rtexts, ct_rfront]
theorem zCd (l : List Bs) : plainL (l.map str) = true := by simp [plainL, plainV, str]
def paS (ps : List Pr) (x : Nat × List Bs × ByteArray) (f : Nat -> Option Value) : Fs :=
 match x with
 | (i, acc, s) =>
  match acc with
  | [] => ⟨slots 7 [(1, .string s), (6, .slice (some ⟨0, 0, none⟩) ps.length ps.length), (7, .slice none 0 0), (8, .int .i64 i)] f, heap 1 [(0, .cells ((ps.map Pr.i).map intV) 3)], 1, [], []⟩
  | a :: l => ⟨slots 7 [(1, .string s), (6, .slice (some ⟨0, 0, none⟩) ps.length ps.length), (7, .slice (some ⟨1, 0, none⟩) (l.length + 1) U), (8, .int .i64 i)] f, heap 2 [(0, .cells ((ps.map Pr.i).map intV) 3), (1, .cells ((a :: l).map str) 9)], 2, [], []⟩
def paP (ps : List Pr) (s0 : ByteArray) (r : Res) : Prop := ∃ H m wr,
   (∃ out rest b, cutsR ps (bs s0) = some (out, rest) /\ r = .ret (.tuple #[.slice (some ⟨b, 0, none⟩) out.length U, .bool rest.isEmpty]) H m wr /\ H.get b = some (.cells (out.map str) 9) /\ b < JJ) \/
   (cutsR ps (bs s0) = none /\ r = .ret (.tuple #[.slice none 0 0, .bool false]) H m wr)
theorem parts_fn (t : Int) (ps : List Pr) (hps : 0 < ps.length) (hps2 : ps.length < 1000) (ht : formL t = ps.map Pr.i) (s0 : ByteArray) (hs0 : (bs s0).length <= 100000000) :
  ∃ r, FnS Try.prog 0 96 [.int .i64 t, .string s0] .e 0 r /\ paP ps s0 r := by
 refine zBh mixed tbF2 [] Try.func96 (c := bodyOf Try.f96) (by kernel_rfl) ?_
 have hlen : (formL t).length = ps.length := by rw [ht]; simp
 refine zAn (paS ps) (fun x => ps.length - x.1) (fun x => x.1 <= ps.length /\ (bs x.2.2).length <= 100000000 /\ x.2.1.length = x.1 /\ cutsR ps (bs s0) = (cutsR (ps.drop x.1) (bs x.2.2)).map fun y => (x.2.1 ++ y.1, y.2)) (0, [], s0) ⟨aH _, hs0, rfl, by simp⟩
  (rcq [0] ⟨⟨_, rfl, .string _⟩, ⟨_, rfl, by rw [<- hlen]; exact .sl _ _ _ _ _ rfl⟩, ⟨_, rfl, zAf 8 rfl⟩, (sI rfl), tv⟩ ⟨⟨by decide, _, rfl, by rw [<- ht]; exact .same (zCc _)⟩, tv⟩ .nil) ?_
 rintro ⟨i, acc, s⟩ f ⟨hi, hs, hacc, heq⟩
 have hi : i <= ps.length := hi
 have hs : (bs s).length <= 100000000 := hs
 have hacc : acc.length = i := hacc
 have heq : cutsR ps (bs s0) = (cutsR (ps.drop i) (bs s)).map fun y => (acc ++ y.1, y.2) := heq
 have hsB : s.data.size.ble 100000000 = true := by rw [zAd]; exact bL hs
 have hz : s.data.size = (bs s).length := zAd s
 have side : ∀ (h1 : i < ps.length), ((ps.map Pr.i).map intV)[0 + ((i : Nat) : Int).toNat * 1]? = some (.int .i64 ps[i].i) := fun h1 => by
  rw [aO, aS, aR]
  simp [h1, intV]
 cases acc with
 | nil =>
  refine zAm tbF2 [0] 0 _ none mixed _ _ _ ?_
  refine ifK (fun h1 => ?_) (fun h1 => ?_)
  ·have h1 : i < ps.length := by have := oT h1; omega
   have hst := zMp ps i h1 (bs s)
   have hsd := side h1
   refine ifK (fun _ => ?_) (fun h2 => ab h2 (by simp [inI]; omega))
   cases hp : ps[i] with
   | nm =>
    rw [hp] at hst hsd
    refine eI (-1 : Int) (aI hsd ?_)
    refine aI hsB ?_
    refine ifK (fun h3 => ?_) (fun h3 => ?_)
    ·obtain ⟨k, hk⟩ := Option.isSome_iff_exists.1 h3
     have hcut : Pr.nm.cut (bs s) = some k := hk
     have hkn : frontN (bs s) = k := by simp [frontN, hk]
     have hkl := zGn hk
     have hx : ((frontN (bs s) : Nat) : Int) = (k : Nat) := by rw [hkn]
     refine ifK (fun h5 => ab (oT h5) (by rw [hkn, zAd]; omega)) (fun _ => ?_)
     refine aI (by rw [hx]; simp only [inLH, zAd, bA, dT] <;> omega) ?_
     refine aI (by rw [hx]; simp only [inLH, zAd, bA, dT] <;> omega) ?_
     refine ⟨(i + 1, [] ++ [(bs s).take (k)], subS s (((frontN (bs s) : Nat) : Int)).toNat ((s.data.size : Int)).toNat), ⟨h1, ?_, ?_, ?_⟩, ?_, ?_⟩
     ·show (bs (subS s _ _)).length <= _; rw [zAo s _ _ hx]; simp <;> omega
     ·simp only [aB, hacc]; rfl
     ·show cutsR ps (bs s0) = (cutsR (ps.drop (i + 1)) (bs (subS s _ _))).map _; rw [zAo s _ _ hx, heq, hst, hcut]; simp only [Option.map_map]; exact congrArg (fun g => Option.map g _) (funext fun y => by simp)
     ·show ps.length - (i + 1) < ps.length - i; omega
     refine rcq [0, 2] ⟨⟨_, rfl, .string _⟩, (sL rfl rfl), ⟨_, rfl, ?_⟩, zAb rfl (by rw [wrapN (by omega) (by omega)]; omega), tv⟩ ⟨bpo (zCc _), ⟨by decide, _, rfl, ?_⟩, tv⟩ .nil
     ·exact .sl _ _ _ _ _ rfl
     refine zAv ?_ (zCd _)
     show [Value.string (subS s (Int.toNat 0) (((frontN (bs s) : Nat) : Int)).toNat)] = _
     rw [zCf s _ _ hx]; rfl
    have hcut : Pr.nm.cut (bs s) = none := by have : (front (bs s)).isSome = false := h3; simpa [Pr.cut] using this
    have hn : cutsR ps (bs s0) = none := by rw [heq, hst, hcut]; rfl
    refine aI rfl (zAg (rcq [] (d := 7) (d2 := 0) (lv := [(4, .slice none 0 0), (5, .bool false)]) (bs := []) (W := []) (m := 0) (df := []) ⟨⟨_, rfl, zAf 8 rfl⟩, ⟨_, rfl, zAf 8 rfl⟩, tv⟩ trivial .nil) (fun f => ?_))
    exact ⟨_, _, _, .inr ⟨hn, rfl⟩⟩
   | rest =>
    rw [hp] at hst hsd
    refine eI (-2 : Int) (aI hsd ?_)
    refine aI (zCu (by omega)) ?_
    refine ifK (fun h3 => ?_) (fun h3 => ?_)
    ·have hcut : Pr.rest.cut (bs s) = some (bs s).length := by have h3 : texts (bs s) = true := h3; simp [Pr.cut, h3]
     have hx : (s.data.size : Int) = ((bs s).length : Nat) := by rw [zAd]
     refine ifK (fun h5 => ab h5 (by simp)) (fun _ => ?_)
     refine aI (by rw [hx]; simp only [inLH, zAd, bA, dT] <;> omega) ?_
     refine aI (by rw [hx]; simp only [inLH, zAd, bA, dT] <;> omega) ?_
     refine ⟨(i + 1, [] ++ [(bs s).take ((bs s).length)], subS s ((s.data.size : Int)).toNat ((s.data.size : Int)).toNat), ⟨h1, ?_, ?_, ?_⟩, ?_, ?_⟩
     ·show (bs (subS s _ _)).length <= _; rw [zAo s _ _ hx]; simp <;> omega
     ·simp only [aB, hacc]; rfl
     ·show cutsR ps (bs s0) = (cutsR (ps.drop (i + 1)) (bs (subS s _ _))).map _; rw [zAo s _ _ hx, heq, hst, hcut]; simp only [Option.map_map]; exact congrArg (fun g => Option.map g _) (funext fun y => by simp)
     ·show ps.length - (i + 1) < ps.length - i; omega
     refine rcq [0, 2] ⟨⟨_, rfl, .string _⟩, (sL rfl rfl), ⟨_, rfl, ?_⟩, zAb rfl (by rw [wrapN (by omega) (by omega)]; omega), tv⟩ ⟨bpo (zCc _), ⟨by decide, _, rfl, ?_⟩, tv⟩ .nil
     ·exact .sl _ _ _ _ _ rfl
     refine zAv ?_ (zCd _)
     show [Value.string (subS s (Int.toNat 0) ((s.data.size : Int)).toNat)] = _
     rw [zCf s _ _ hx]; rfl
    have hcut : Pr.rest.cut (bs s) = none := by have h3 : texts (bs s) = false := h3; simp [Pr.cut, h3]
    have hn : cutsR ps (bs s0) = none := by rw [heq, hst, hcut]; rfl
    refine aI rfl (zAg (rcq [] (d := 7) (d2 := 0) (lv := [(4, .slice none 0 0), (5, .bool false)]) (bs := []) (W := []) (m := 0) (df := []) ⟨⟨_, rfl, zAf 8 rfl⟩, ⟨_, rfl, zAf 8 rfl⟩, tv⟩ trivial .nil) (fun f => ?_))
    exact ⟨_, _, _, .inr ⟨hn, rfl⟩⟩
   | all =>
    rw [hp] at hst hsd
    refine eI (-3 : Int) (aI hsd ?_)
    have hcut : Pr.all.cut (bs s) = some (bs s).length := rfl
    have hx : (s.data.size : Int) = ((bs s).length : Nat) := by rw [zAd]
    refine ifK (fun h5 => ab h5 (by simp)) (fun _ => ?_)
    refine aI (by rw [hx]; simp only [inLH, zAd, bA, dT] <;> omega) ?_
    refine aI (by rw [hx]; simp only [inLH, zAd, bA, dT] <;> omega) ?_
    refine ⟨(i + 1, [] ++ [(bs s).take ((bs s).length)], subS s ((s.data.size : Int)).toNat ((s.data.size : Int)).toNat), ⟨h1, ?_, ?_, ?_⟩, ?_, ?_⟩
    ·show (bs (subS s _ _)).length <= _; rw [zAo s _ _ hx]; simp <;> omega
    ·simp only [aB, hacc]; rfl
    ·show cutsR ps (bs s0) = (cutsR (ps.drop (i + 1)) (bs (subS s _ _))).map _; rw [zAo s _ _ hx, heq, hst, hcut]; simp only [Option.map_map]; exact congrArg (fun g => Option.map g _) (funext fun y => by simp)
    ·show ps.length - (i + 1) < ps.length - i; omega
    refine rcq [0, 2] ⟨⟨_, rfl, .string _⟩, (sL rfl rfl), ⟨_, rfl, ?_⟩, zAb rfl (by rw [wrapN (by omega) (by omega)]; omega), tv⟩ ⟨bpo (zCc _), ⟨by decide, _, rfl, ?_⟩, tv⟩ .nil
    ·exact .sl _ _ _ _ _ rfl
    refine zAv ?_ (zCd _)
    show [Value.string (subS s (Int.toNat 0) ((s.data.size : Int)).toNat)] = _
    rw [zCf s _ _ hx]; rfl
   | sz k =>
    rw [hp] at hst hsd
    refine eI (k : Int) (aI hsd ?_)
    refine ifK (fun h3 => ?_) (fun h3 => ?_)
    ·have h3 : ¬ k <= (bs s).length := by have := oT h3; rw [zAd] at this; omega
     have hcut : (Pr.sz k).cut (bs s) = none := by simp [Pr.cut, h3]
     have hn : cutsR ps (bs s0) = none := by rw [heq, hst, hcut]; rfl
     refine aI rfl (zAg (rcq [] (d := 7) (d2 := 0) (lv := [(4, .slice none 0 0), (5, .bool false)]) (bs := []) (W := []) (m := 0) (df := []) ⟨⟨_, rfl, zAf 8 rfl⟩, ⟨_, rfl, zAf 8 rfl⟩, tv⟩ trivial .nil) (fun f => ?_))
     exact ⟨_, _, _, .inr ⟨hn, rfl⟩⟩
    have h3 : k <= (bs s).length := by have := oF h3; rw [zAd] at this; omega
    have hcut : (Pr.sz k).cut (bs s) = some k := by simp [Pr.cut, h3]
    have hx : (k : Int) = (k : Nat) := rfl
    refine aI (by rw [hx]; simp only [inLH, zAd, bA, dT] <;> omega) ?_
    refine aI (by rw [hx]; simp only [inLH, zAd, bA, dT] <;> omega) ?_
    refine ⟨(i + 1, [] ++ [(bs s).take (k)], subS s ((k : Int)).toNat ((s.data.size : Int)).toNat), ⟨h1, ?_, ?_, ?_⟩, ?_, ?_⟩
    ·show (bs (subS s _ _)).length <= _; rw [zAo s _ _ hx]; simp <;> omega
    ·simp only [aB, hacc]; rfl
    ·show cutsR ps (bs s0) = (cutsR (ps.drop (i + 1)) (bs (subS s _ _))).map _; rw [zAo s _ _ hx, heq, hst, hcut]; simp only [Option.map_map]; exact congrArg (fun g => Option.map g _) (funext fun y => by simp)
    ·show ps.length - (i + 1) < ps.length - i; omega
    refine rcq [0, 2] ⟨⟨_, rfl, .string _⟩, (sL rfl rfl), ⟨_, rfl, ?_⟩, zAb rfl (by rw [wrapN (by omega) (by omega)]; omega), tv⟩ ⟨bpo (zCc _), ⟨by decide, _, rfl, ?_⟩, tv⟩ .nil
    ·exact .sl _ _ _ _ _ rfl
    refine zAv ?_ (zCd _)
    show [Value.string (subS s (Int.toNat 0) ((k : Int)).toNat)] = _
    rw [zCf s _ _ hx]; rfl
  have h1 : ¬ i < ps.length := by have := oF h1; omega
  exact ab hacc (by simp; omega)
 | cons a l =>
  refine zAm tbF2 [0, 1] 0 _ none mixed _ _ _ ?_
  refine ifK (fun h1 => ?_) (fun h1 => ?_)
  ·have h1 : i < ps.length := by have := oT h1; omega
   have hst := zMp ps i h1 (bs s)
   have hsd := side h1
   refine ifK (fun _ => ?_) (fun h2 => ab h2 (by simp [inI]; omega))
   cases hp : ps[i] with
   | nm =>
    rw [hp] at hst hsd
    refine eI (-1 : Int) (aI hsd ?_)
    refine aI hsB ?_
    refine ifK (fun h3 => ?_) (fun h3 => ?_)
    ·obtain ⟨k, hk⟩ := Option.isSome_iff_exists.1 h3
     have hcut : Pr.nm.cut (bs s) = some k := hk
     have hkn : frontN (bs s) = k := by simp [frontN, hk]
     have hkl := zGn hk
     have hx : ((frontN (bs s) : Nat) : Int) = (k : Nat) := by rw [hkn]
     refine ifK (fun h5 => ab (oT h5) (by rw [hkn, zAd]; omega)) (fun _ => ?_)
     refine aI (by rw [hx]; simp only [inLH, zAd, bA, dT] <;> omega) ?_
     refine aI (by have hT : (Try.prog.types[9]).size = 1 := (by kernel_rfl); have hB : (Try.prog.types[9]).bytes = 16 := (by kernel_rfl); have hl : l.length + 1 = i := hacc; simp [oneL, Value.oneCell', hT, hB]; omega) ?_
     refine aI (by rw [hx]; simp only [inLH, zAd, bA, dT] <;> omega) ?_
     refine ⟨(i + 1, (a :: l) ++ [(bs s).take (k)], subS s (((frontN (bs s) : Nat) : Int)).toNat ((s.data.size : Int)).toNat), ⟨h1, ?_, ?_, ?_⟩, ?_, ?_⟩
     ·show (bs (subS s _ _)).length <= _; rw [zAo s _ _ hx]; simp <;> omega
     ·simp only [aB, hacc]; rfl
     ·show cutsR ps (bs s0) = (cutsR (ps.drop (i + 1)) (bs (subS s _ _))).map _; rw [zAo s _ _ hx, heq, hst, hcut]; simp only [Option.map_map]; exact congrArg (fun g => Option.map g _) (funext fun y => by simp)
     ·show ps.length - (i + 1) < ps.length - i; omega
     refine rcq [0, 3] ⟨⟨_, rfl, .string _⟩, (sL rfl rfl), ⟨_, rfl, ?_⟩, zAb rfl (by rw [wrapN (by omega) (by omega)]; omega), tv⟩ ⟨bpo (zCc _), ⟨by decide, _, rfl, ?_⟩, tv⟩ .nil
     ·have : (l ++ [(bs s).take (k)]).length = l.length + 1 := by simp
      show RV _ _ (.slice _ ((l ++ [_]).length + 1) U)
      rw [this]
      exact .sl _ _ _ _ _ rfl
     refine zAv ?_ (zCd _)
     show List.take ((l.length + 1) * 1) ((a :: l).map str) ++ [Value.string (subS s (Int.toNat 0) (((frontN (bs s) : Nat) : Int)).toNat)] = _
     rw [zCf s _ _ hx, aD (by simp)]
     show _ = ((a :: l) ++ [_]).map str
     rw [List.map_append]; rfl
    have hcut : Pr.nm.cut (bs s) = none := by have : (front (bs s)).isSome = false := h3; simpa [Pr.cut] using this
    have hn : cutsR ps (bs s0) = none := by rw [heq, hst, hcut]; rfl
    refine aI rfl (zAg (rcq [] (d := 7) (d2 := 0) (lv := [(4, .slice none 0 0), (5, .bool false)]) (bs := []) (W := []) (m := 0) (df := []) ⟨⟨_, rfl, zAf 8 rfl⟩, ⟨_, rfl, zAf 8 rfl⟩, tv⟩ trivial .nil) (fun f => ?_))
    exact ⟨_, _, _, .inr ⟨hn, rfl⟩⟩
   | rest =>
    rw [hp] at hst hsd
    refine eI (-2 : Int) (aI hsd ?_)
    refine aI (zCu (by omega)) ?_
    refine ifK (fun h3 => ?_) (fun h3 => ?_)
    ·have hcut : Pr.rest.cut (bs s) = some (bs s).length := by have h3 : texts (bs s) = true := h3; simp [Pr.cut, h3]
     have hx : (s.data.size : Int) = ((bs s).length : Nat) := by rw [zAd]
     refine ifK (fun h5 => ab h5 (by simp)) (fun _ => ?_)
     refine aI (by rw [hx]; simp only [inLH, zAd, bA, dT] <;> omega) ?_
     refine aI (by have hT : (Try.prog.types[9]).size = 1 := (by kernel_rfl); have hB : (Try.prog.types[9]).bytes = 16 := (by kernel_rfl); have hl : l.length + 1 = i := hacc; simp [oneL, Value.oneCell', hT, hB]; omega) ?_
     refine aI (by rw [hx]; simp only [inLH, zAd, bA, dT] <;> omega) ?_
     refine ⟨(i + 1, (a :: l) ++ [(bs s).take ((bs s).length)], subS s ((s.data.size : Int)).toNat ((s.data.size : Int)).toNat), ⟨h1, ?_, ?_, ?_⟩, ?_, ?_⟩
     ·show (bs (subS s _ _)).length <= _; rw [zAo s _ _ hx]; simp <;> omega
     ·simp only [aB, hacc]; rfl
     ·show cutsR ps (bs s0) = (cutsR (ps.drop (i + 1)) (bs (subS s _ _))).map _; rw [zAo s _ _ hx, heq, hst, hcut]; simp only [Option.map_map]; exact congrArg (fun g => Option.map g _) (funext fun y => by simp)
     ·show ps.length - (i + 1) < ps.length - i; omega
     refine rcq [0, 3] ⟨⟨_, rfl, .string _⟩, (sL rfl rfl), ⟨_, rfl, ?_⟩, zAb rfl (by rw [wrapN (by omega) (by omega)]; omega), tv⟩ ⟨bpo (zCc _), ⟨by decide, _, rfl, ?_⟩, tv⟩ .nil
     ·have : (l ++ [(bs s).take ((bs s).length)]).length = l.length + 1 := by simp
      show RV _ _ (.slice _ ((l ++ [_]).length + 1) U)
      rw [this]
      exact .sl _ _ _ _ _ rfl
     refine zAv ?_ (zCd _)
     show List.take ((l.length + 1) * 1) ((a :: l).map str) ++ [Value.string (subS s (Int.toNat 0) ((s.data.size : Int)).toNat)] = _
     rw [zCf s _ _ hx, aD (by simp)]
     show _ = ((a :: l) ++ [_]).map str
     rw [List.map_append]; rfl
    have hcut : Pr.rest.cut (bs s) = none := by have h3 : texts (bs s) = false := h3; simp [Pr.cut, h3]
    have hn : cutsR ps (bs s0) = none := by rw [heq, hst, hcut]; rfl
    refine aI rfl (zAg (rcq [] (d := 7) (d2 := 0) (lv := [(4, .slice none 0 0), (5, .bool false)]) (bs := []) (W := []) (m := 0) (df := []) ⟨⟨_, rfl, zAf 8 rfl⟩, ⟨_, rfl, zAf 8 rfl⟩, tv⟩ trivial .nil) (fun f => ?_))
    exact ⟨_, _, _, .inr ⟨hn, rfl⟩⟩
   | all =>
    rw [hp] at hst hsd
    refine eI (-3 : Int) (aI hsd ?_)
    have hcut : Pr.all.cut (bs s) = some (bs s).length := rfl
    have hx : (s.data.size : Int) = ((bs s).length : Nat) := by rw [zAd]
    refine ifK (fun h5 => ab h5 (by simp)) (fun _ => ?_)
    refine aI (by rw [hx]; simp only [inLH, zAd, bA, dT] <;> omega) ?_
    refine aI (by have hT : (Try.prog.types[9]).size = 1 := (by kernel_rfl); have hB : (Try.prog.types[9]).bytes = 16 := (by kernel_rfl); have hl : l.length + 1 = i := hacc; simp [oneL, Value.oneCell', hT, hB]; omega) ?_
    refine aI (by rw [hx]; simp only [inLH, zAd, bA, dT] <;> omega) ?_
    refine ⟨(i + 1, (a :: l) ++ [(bs s).take ((bs s).length)], subS s ((s.data.size : Int)).toNat ((s.data.size : Int)).toNat), ⟨h1, ?_, ?_, ?_⟩, ?_, ?_⟩
    ·show (bs (subS s _ _)).length <= _; rw [zAo s _ _ hx]; simp <;> omega
    ·simp only [aB, hacc]; rfl
    ·show cutsR ps (bs s0) = (cutsR (ps.drop (i + 1)) (bs (subS s _ _))).map _; rw [zAo s _ _ hx, heq, hst, hcut]; simp only [Option.map_map]; exact congrArg (fun g => Option.map g _) (funext fun y => by simp)
    ·show ps.length - (i + 1) < ps.length - i; omega
    refine rcq [0, 3] ⟨⟨_, rfl, .string _⟩, (sL rfl rfl), ⟨_, rfl, ?_⟩, zAb rfl (by rw [wrapN (by omega) (by omega)]; omega), tv⟩ ⟨bpo (zCc _), ⟨by decide, _, rfl, ?_⟩, tv⟩ .nil
    ·have : (l ++ [(bs s).take ((bs s).length)]).length = l.length + 1 := by simp
     show RV _ _ (.slice _ ((l ++ [_]).length + 1) U)
     rw [this]
     exact .sl _ _ _ _ _ rfl
    refine zAv ?_ (zCd _)
    show List.take ((l.length + 1) * 1) ((a :: l).map str) ++ [Value.string (subS s (Int.toNat 0) ((s.data.size : Int)).toNat)] = _
    rw [zCf s _ _ hx, aD (by simp)]
    show _ = ((a :: l) ++ [_]).map str
    rw [List.map_append]; rfl
   | sz k =>
    rw [hp] at hst hsd
    refine eI (k : Int) (aI hsd ?_)
    refine ifK (fun h3 => ?_) (fun h3 => ?_)
    ·have h3 : ¬ k <= (bs s).length := by have := oT h3; rw [zAd] at this; omega
     have hcut : (Pr.sz k).cut (bs s) = none := by simp [Pr.cut, h3]
     have hn : cutsR ps (bs s0) = none := by rw [heq, hst, hcut]; rfl
     refine aI rfl (zAg (rcq [] (d := 7) (d2 := 0) (lv := [(4, .slice none 0 0), (5, .bool false)]) (bs := []) (W := []) (m := 0) (df := []) ⟨⟨_, rfl, zAf 8 rfl⟩, ⟨_, rfl, zAf 8 rfl⟩, tv⟩ trivial .nil) (fun f => ?_))
     exact ⟨_, _, _, .inr ⟨hn, rfl⟩⟩
    have h3 : k <= (bs s).length := by have := oF h3; rw [zAd] at this; omega
    have hcut : (Pr.sz k).cut (bs s) = some k := by simp [Pr.cut, h3]
    have hx : (k : Int) = (k : Nat) := rfl
    refine aI (by rw [hx]; simp only [inLH, zAd, bA, dT] <;> omega) ?_
    refine aI (by have hT : (Try.prog.types[9]).size = 1 := (by kernel_rfl); have hB : (Try.prog.types[9]).bytes = 16 := (by kernel_rfl); have hl : l.length + 1 = i := hacc; simp [oneL, Value.oneCell', hT, hB]; omega) ?_
    refine aI (by rw [hx]; simp only [inLH, zAd, bA, dT] <;> omega) ?_
    refine ⟨(i + 1, (a :: l) ++ [(bs s).take (k)], subS s ((k : Int)).toNat ((s.data.size : Int)).toNat), ⟨h1, ?_, ?_, ?_⟩, ?_, ?_⟩
    ·show (bs (subS s _ _)).length <= _; rw [zAo s _ _ hx]; simp <;> omega
    ·simp only [aB, hacc]; rfl
    ·show cutsR ps (bs s0) = (cutsR (ps.drop (i + 1)) (bs (subS s _ _))).map _; rw [zAo s _ _ hx, heq, hst, hcut]; simp only [Option.map_map]; exact congrArg (fun g => Option.map g _) (funext fun y => by simp)
    ·show ps.length - (i + 1) < ps.length - i; omega
    refine rcq [0, 3] ⟨⟨_, rfl, .string _⟩, (sL rfl rfl), ⟨_, rfl, ?_⟩, zAb rfl (by rw [wrapN (by omega) (by omega)]; omega), tv⟩ ⟨bpo (zCc _), ⟨by decide, _, rfl, ?_⟩, tv⟩ .nil
    ·have : (l ++ [(bs s).take (k)]).length = l.length + 1 := by simp
     show RV _ _ (.slice _ ((l ++ [_]).length + 1) U)
     rw [this]
     exact .sl _ _ _ _ _ rfl
    refine zAv ?_ (zCd _)
    show List.take ((l.length + 1) * 1) ((a :: l).map str) ++ [Value.string (subS s (Int.toNat 0) ((k : Int)).toNat)] = _
    rw [zCf s _ _ hx, aD (by simp)]
    show _ = ((a :: l) ++ [_]).map str
    rw [List.map_append]; rfl
  have h1 : ¬ i < ps.length := by have := oF h1; omega
  have hc : cutsR ps (bs s0) = some (a :: l, bs s) := by rw [heq, bE (by omega)]; simp [cutsR]
  have hem : (bs s).isEmpty = (s.data.toList == []) := by show _ = (bs s == []); cases bs s <;> rfl
  refine aI rfl (zAg (rcq [1] (d := 7) (d2 := 1) (lv := [(1, .string s), (7, .slice (some ⟨0, 0, none⟩) (l.length + 1) U)]) (bs := [(0, .cells ((a :: l).map str) 9)]) (W := []) (m := 1) (df := []) ⟨⟨_, rfl, .string _⟩, (sL rfl rfl), tv⟩ ⟨bpo (zCd _), tv⟩ .nil) (fun f => ?_))
  exact ⟨_, _, _, .inl ⟨a :: l, bs s, 0, hc, by rw [hem]; rfl, rfl, by decide⟩⟩
def prT (t : Int) : List Pr := if t = 1 then [.sz 4] else if t = 28 then [.sz 16] else if t = 2 then [.nm] else if t = 5 then [.nm] else if t = 12 then [.nm] else if t = 15 then [.sz 2, .nm] else if t = 6 then [.nm, .nm, .sz 20] else if t = 16 then [.rest] else [.all]
theorem zOv (t : Int) : formL t = (prT t).map Pr.i /\ 0 < (prT t).length /\ (prT t).length < 1000 := by
 unfold formL prT
 split; · exact ⟨rfl, by decide, by decide⟩
 split; · exact ⟨rfl, by decide, by decide⟩
 split; · exact ⟨rfl, by decide, by decide⟩
 split; · exact ⟨rfl, by decide, by decide⟩
 split; · exact ⟨rfl, by decide, by decide⟩
 split; · exact ⟨rfl, by decide, by decide⟩
 split; · exact ⟨rfl, by decide, by decide⟩
 split; · exact ⟨rfl, by decide, by decide⟩
 exact ⟨rfl, by decide, by decide⟩
def rpO (t : Int) (l : Bs) : List Bs := match cutsR (prT t) l with | some x => x.1 | none => []
def rpR (t : Int) (l : Bs) : Bs := match cutsR (prT t) l with | some x => x.2 | none => []
def rpOut (t : Int) (s : ByteArray) (H : Tr AObj) (n : Nat) : Res := .ret (.tuple #[.slice (some ⟨n, 0, none⟩) (rpO t (bs s)).length U, .bool (rpR t (bs s)).isEmpty]) (H.set n (some (.cells ((rpO t (bs s)).map str) 9))) (n + 1) []
theorem zPu (t : Int) (s : ByteArray) (hs : (bs s).length <= 100000000) (H : Tr AObj) (n : Nat) :
  ((cutsR (prT t) (bs s)).isSome = true -> CallOK Try.prog 0 96 [.int .i64 t, .string s] H n (rpOut t s H n)) /\
  ((cutsR (prT t) (bs s)).isSome = false -> CallOK Try.prog 0 96 [.int .i64 t, .string s] H n (.ret (.tuple #[.slice none 0 0, .bool false]) H n [])) := by
 obtain ⟨p1, p2, p3⟩ := zOv t
 obtain ⟨r, hF, hP⟩ := parts_fn t (prT t) p2 p3 p1 s hs
 unfold paP at hP
 obtain ⟨H', m, wr, ⟨out, rest, b, q1, rfl, q3, q4⟩ | ⟨q1, rfl⟩⟩ := hP
 ·refine ⟨fun _ => ?_, fun h => (by rw [q1] at h; cases h)⟩
  have e1 : rpO t (bs s) = out := by unfold rpO; rw [q1]
  have e2 : rpR t (bs s) = rest := by unfold rpR; rw [q1]
  unfold rpOut
  rw [e1, e2]
  exact zDc (fun n => .tuple #[.slice (some ⟨n, 0, none⟩) out.length U, .bool rest.isEmpty]) hF rfl q3 q4 (zCd _) (fun n => .tuple _ _ (.cons _ _ _ _ (.sl _ _ _ _ _ (zJc _ _)) (.cons _ _ _ _ (.bool _) .nil))) H n
 exact ⟨fun h => (by rw [q1] at h; cases h), fun _ => zAx hF rfl rfl H n⟩
def zQb : Ct Try.prog 0 where
 f := 96
 res l H n := match l with
  | [.int .i64 t, .string s] => bif s.data.size.ble 100000000 then (bif (cutsR (prT t) (bs s)).isSome then rpOut t s H n else .ret (.tuple #[.slice none 0 0, .bool false]) H n []) else .bad "long" []
  | _ => .bad "arguments" []
 ok l H n := by
  split
  ·rename_i t s
   cases hs : s.data.size.ble 100000000 with
   | false => trivial
   | true =>
    obtain ⟨c1, c2⟩ := zPu t s (by rw [<- zAd]; exact aE hs) H n
    cases h1 : (cutsR (prT t) (bs s)).isSome with
    | true => exact c1 h1
    | false => exact c2 h1
  trivial
 ck l H n K := match l with
  | [.int .i64 t, .string s] => s.data.size.ble 100000000 = true /\ brK (cutsR (prT t) (bs s)).isSome (K (rpOut t s H n)) (K (.ret (.tuple #[.slice none 0 0, .bool false]) H n []))
  | _ => False
 imp l H n K h := by
  split at h
  ·rename_i t s
   obtain ⟨h0, h⟩ := h
   simp only [h0, cT]
   cases h1 : (cutsR (prT t) (bs s)).isSome with
   | true => rw [h1] at h; exact h
   | false => rw [h1] at h; exact h
  exact h.elim
def Pt.pr : Pt -> Pr
 | .nm => .nm
 | .rest => .rest
 | .sz k => .sz k
theorem Pt.pr_cut (p : Pt) (l : Bs) : p.pr.cut l = p.cut l := by cases p <;> rfl
theorem zKu {t : Int} {ps : List Pt} (h : ptsT t = some ps) (l : Bs) : cutsR (prT t) l = (cuts ps l).map fun x => (x.1.map (·.1), x.2) := by
 have key : ∀ (ps : List Pt) (l : Bs), cutsR (ps.map Pt.pr) l = (cuts ps l).map fun x => (x.1.map (·.1), x.2) := by
  intro ps
  induction ps with
  | nil => intro l; rfl
  | cons p ps ih =>
   intro l
   simp only [List.map_cons, cutsR, cuts, Pt.pr_cut]
   cases p.cut l with
   | none => rfl
   | some n =>
    simp only []
    rw [ih, Option.map_map, Option.map_map]; rfl
 suffices hpr : prT t = ps.map Pt.pr by
  rw [hpr]; exact key ps l
 unfold ptsT at h
 unfold prT
 by_cases h1 : t = 1
 ·subst h1; cases h; rfl
 by_cases h2 : t = 28
 ·subst h2; cases h; rfl
 by_cases h3 : t = 2
 ·subst h3; cases h; rfl
 by_cases h4 : t = 5
 ·subst h4; cases h; rfl
 by_cases h5 : t = 12
 ·subst h5; cases h; rfl
 by_cases h6 : t = 15
 ·subst h6; cases h; rfl
 by_cases h7 : t = 6
 ·subst h7; cases h; rfl
 by_cases h8 : t = 16
 ·subst h8; cases h; rfl
 exfalso
 rw [show (t == 1) = false by simpa using h1, show (t == 28) = false by simpa using h2, show (t == 2) = false by simpa using h3, show (t == 5) = false by simpa using h4, show (t == 12) = false by simpa using h5, show (t == 15) = false by simpa using h6, show (t == 6) = false by simpa using h7, show (t == 16) = false by simpa using h8] at h
 cases h
theorem zOw {t : Int} (h : ptsT t = none) : prT t = [.all] := by
 unfold ptsT at h
 unfold prT
 by_cases h1 : t = 1
 ·subst h1; cases h
 by_cases h2 : t = 28
 ·subst h2; cases h
 by_cases h3 : t = 2
 ·subst h3; cases h
 by_cases h4 : t = 5
 ·subst h4; cases h
 by_cases h5 : t = 12
 ·subst h5; cases h
 by_cases h6 : t = 15
 ·subst h6; cases h
 by_cases h7 : t = 6
 ·subst h7; cases h
 by_cases h8 : t = 16
 ·subst h8; cases h
 rw [if_neg h1, if_neg h2, if_neg h3, if_neg h4, if_neg h5, if_neg h6, if_neg h7, if_neg h8]
theorem zUp (t : Int) (l : Bs) : ((cutsR (prT t) l).isSome && (rpR t l).isEmpty) = fitsD t l := by
 cases hp : ptsT t with
 | none =>
  unfold fitsD rpR
  rw [hp, zOw hp]
  simp [cutsR, Pr.cut]
 | some ps =>
  have e1 : outT t l = cuts ps l := by unfold outT; rw [hp]
  unfold fitsD rpR outR
  rw [hp, zKu hp, e1]
  cases hc : cuts ps l with
  | none => rfl
  | some x => rfl
noncomputable def tbF3 : Tb Try.prog 0 := tbOf mixed [zQb]
theorem rcheck_fn (t : Int) (s : ByteArray) (hs : (bs s).length <= 100000000) : ∃ r, FnS Try.prog 0 94 [.int .i64 t, .string s] .e 0 r /\ ∃ H m wr, r = .ret (.int .i64 (checkD t (bs s))) H m wr := by
 have hsB : s.data.size.ble 100000000 = true := by rw [zAd]; exact bL hs
 refine zBh mixed tbF3 [] Try.func94 (c := bodyOf Try.f94) (by kernel_rfl) ?_
 unfold checkD
 rw [<- zUp]
 refine ifK (fun h1 => ?_) (fun h1 => ?_)
 ·rw [if_pos (.inl (oT h1))]; exact ⟨_, _, _, rfl⟩
 have h1 := oF h1
 refine ifK (fun h2 => ?_) (fun h2 => ?_)
 ·rw [if_pos (.inr (oT h2))]; exact ⟨_, _, _, rfl⟩
 have h2 := oF h2
 rw [if_neg (by omega)]
 refine ifK (fun h3 => ?_) (fun h3 => ?_)
 ·have h3 := oT h3
  rw [zAd] at h3
  rw [if_pos (by omega)]; exact ⟨_, _, _, rfl⟩
 have h3 := oF h3
 rw [zAd] at h3
 rw [if_neg (by omega)]
 refine aI hsB ?_
 refine ifK (fun h5 => ?_) (fun h5 => ?_)
 ·rw [h5]
  refine ifK (fun h6 => ?_) (fun h6 => ?_)
  ·rw [show (rpR t (bs s)).isEmpty = false by simpa using h6]; exact ⟨_, _, _, rfl⟩
  rw [show (rpR t (bs s)).isEmpty = true by simpa using h6]; exact ⟨_, _, _, rfl⟩
 rw [h5]; exact ⟨_, _, _, rfl⟩
def Ct.intStr8 (f : FuncId) (out : Int -> ByteArray -> Value) (hp : ∀ t s, plainV 8 (out t s) = true) (ok : ∀ t s, (bs s).length <= 100000000 -> ∃ H m wr, FnS Try.prog 0 f [.int .i64 t, .string s] .e 0 (.ret (out t s) H m wr)) : Ct Try.prog 0 where
 f := f
 res l H n := match l with | [.int .i64 t, .string s] => bif s.data.size.ble 100000000 then .ret (out t s) H n [] else .bad "long" [] | _ => .bad "arguments" []
 ok l H n := by
  split
  ·rename_i t s
   cases hs : s.data.size.ble 100000000 with
   | false => trivial
   | true => obtain ⟨_, _, _, h⟩ := ok t s (by rw [<- zAd]; exact aE hs); exact zAx h rfl (hp t s) H n
  trivial
 ck l H n K := match l with | [.int .i64 t, .string s] => s.data.size.ble 100000000 = true /\ K (.ret (out t s) H n []) | _ => False
 imp l H n K h := by
  split at h
  ·obtain ⟨h1, h2⟩ := h
   simp only [h1, cT]; exact h2
  exact h.elim
def zKt : Ct Try.prog 0 := Ct.intStr8 94 (fun t s => .int .i64 (checkD t (bs s))) (fun _ _ => rfl) (fun t s hs => by
 obtain ⟨r, h, H, m, wr, rfl⟩ := rcheck_fn t s hs
 exact ⟨H, m, wr, h⟩)
theorem front_len {l : Bs} {k : Nat} (h : front l = some k) : k <= 255 := by
 have hle := zGn h
 unfold front at h
 split at h
 ·rename_i j hj
  split at h
  ·rename_i hl
   cases h
   have := zMv hl
   rw [aU] at this; omega
  cases h
 cases h
def Pt.small : Pt -> Bool
 | .nm => true
 | .rest => false
 | .sz k => k.ble 255
theorem fits_no {t : Int} {l : Bs} (h : (cutsR (prT t) l).isSome = false) : fitsD t l = false := by rw [<- zUp, h]; rfl
theorem rpO_of {t : Int} {ps : List Pt} {l : Bs} {o : List (Bs × Bool)} {r : Bs} (hp : ptsT t = some ps) (h : outT t l = some (o, r)) : rpO t l = o.map (·.1) := by
 unfold rpO
 unfold outT at h
 rw [hp] at h
 have h : cuts ps l = some (o, r) := h
 rw [zKu hp, h]; rfl
theorem size8 {s : ByteArray} (h : (bs s).length <= 100000000) : s.data.size.ble 100000000 = true := by rw [zAd]; exact bL h
def zi (x : Int × Bs) : Value := intV x.1
def zs (x : Int × Bs) : Value := str x.2
theorem zAk (l : List (Int × Bs)) : plainL (l.map zi) = true := by simp [plainL, plainV, zi, intV]
theorem zAl (l : List (Int × Bs)) : plainL (l.map zs) = true := by simp [plainL, plainV, zs, str]
theorem prT_some {t : Int} {ps : List Pt} (h : ptsT t = some ps) : prT t = ps.map Pt.pr := by
 unfold ptsT at h
 unfold prT
 by_cases h1 : t = 1
 ·subst h1; cases h; rfl
 by_cases h2 : t = 28
 ·subst h2; cases h; rfl
 by_cases h3 : t = 2
 ·subst h3; cases h; rfl
 by_cases h4 : t = 5
 ·subst h4; cases h; rfl
 by_cases h5 : t = 12
 ·subst h5; cases h; rfl
 by_cases h6 : t = 15
 ·subst h6; cases h; rfl
 by_cases h7 : t = 6
 ·subst h7; cases h; rfl
 by_cases h8 : t = 16
 ·subst h8; cases h; rfl
 exfalso
 rw [show (t == 1) = false by simpa using h1, show (t == 28) = false by simpa using h2, show (t == 2) = false by simpa using h3, show (t == 5) = false by simpa using h4, show (t == 12) = false by simpa using h5, show (t == 15) = false by simpa using h6, show (t == 6) = false by simpa using h7, show (t == 16) = false by simpa using h8] at h
 cases h
theorem ptsT_case {t : Int} {ps : List Pt} (h : ptsT t = some ps) : (0 <= t /\ t <= 65535) /\ ((ps.all Pt.small = true /\ ps.length <= 3) \/ ps = [.rest]) := by
 unfold ptsT at h
 by_cases h1 : t = 1
 ·subst h1; cases h; exact ⟨by decide, .inl ⟨rfl, by decide⟩⟩
 by_cases h2 : t = 28
 ·subst h2; cases h; exact ⟨by decide, .inl ⟨rfl, by decide⟩⟩
 by_cases h3 : t = 2
 ·subst h3; cases h; exact ⟨by decide, .inl ⟨rfl, by decide⟩⟩
 by_cases h4 : t = 5
 ·subst h4; cases h; exact ⟨by decide, .inl ⟨rfl, by decide⟩⟩
 by_cases h5 : t = 12
 ·subst h5; cases h; exact ⟨by decide, .inl ⟨rfl, by decide⟩⟩
 by_cases h6 : t = 15
 ·subst h6; cases h; exact ⟨by decide, .inl ⟨rfl, by decide⟩⟩
 by_cases h7 : t = 6
 ·subst h7; cases h; exact ⟨by decide, .inl ⟨rfl, by decide⟩⟩
 by_cases h8 : t = 16
 ·subst h8; cases h; exact ⟨by decide, .inr rfl⟩
 exfalso
 rw [show (t == 1) = false by simpa using h1, show (t == 28) = false by simpa using h2, show (t == 2) = false by simpa using h3, show (t == 5) = false by simpa using h4, show (t == 12) = false by simpa using h5, show (t == 15) = false by simpa using h6, show (t == 6) = false by simpa using h7, show (t == 16) = false by simpa using h8] at h
 cases h
inductive Nm : Bs -> Prop
 | root : Nm [0]
 | lab (c : UInt8) (x r : Bs) (h1 : 0 < c.toNat) (h2 : c.toNat <= 63) (hx : x.length = c.toNat) (hr : Nm r) : Nm (c :: (x ++ r))
theorem Nm.pos {l : Bs} (h : Nm l) : 0 < l.length := by cases h <;> simp
theorem zMz : ∀ (f : Nat) (l : Bs), l.length < f -> (none ∉ nameSeq f l ↔ Nm l)
 | f + 1, l, hf => by
  rw [nameSeq]
  by_cases h0 : l = [0]
  ·rw [if_pos h0, h0]; exact ⟨fun _ => .root, fun _ => by simp⟩
  rw [if_neg h0]
  by_cases h1 : l.length = 0 \/ bt l 0 = 0 \/ 63 < bt l 0 \/ l.length <= bt l 0
  ·rw [if_pos h1]
   refine ⟨fun h => ab (by simp) h, fun h => ?_⟩
   exfalso
   cases h with
   | root => exact h0 rfl
   | lab c x r g1 g2 g3 g4 =>
    have hb : bt (c :: (x ++ r)) 0 = c.toNat := rfl
    rw [hb] at h1
    simp only [aC, aB] at h1
    omega
  rw [if_neg h1]
  cases l with
  | nil => exact ab (.inl rfl) h1
  | cons c tl =>
   have hb : bt (c :: tl) 0 = c.toNat := rfl
   rw [hb] at h1 ⊢
   have e1 : (c :: tl).drop (1 + c.toNat) = tl.drop c.toNat := by rw [Nat.add_comm]; rfl
   rw [e1]
   simp only [aC] at h1 hf
   have ih := zMz f (tl.drop c.toNat) (by rw [aM]; omega)
   have e2 : (none ∉ some ((c :: tl).tail.take c.toNat) :: nameSeq f (tl.drop c.toNat)) ↔ none ∉ nameSeq f (tl.drop c.toNat) := by simp
   rw [e2, ih]
   constructor
   ·intro h
    have := Nm.lab c (tl.take c.toNat) (tl.drop c.toNat) (by omega) (by omega) (by rw [aU]; omega) h
    rwa [List.take_append_drop] at this
   intro h
   generalize hq : c :: tl = q at h
   cases h with
   | root => exact ab hq h0
   | lab c' x r g1 g2 g3 g4 =>
    simp only [aQ] at hq
    obtain ⟨rfl, rfl⟩ := hq
    rw [<- g3, List.drop_left]; exact g4
theorem zAu (l : Bs) : (labels l).2 = 0 ↔ Nm l /\ l.length <= 255 := by
 have h := zMz (l.length + 1) l (by omega)
 unfold labels
 by_cases h1 : none ∈ nameSeq (l.length + 1) l
 ·rw [if_pos h1]
  exact ⟨fun e => (by cases e), fun e => ab h1 (h.2 e.1)⟩
 rw [if_neg h1]
 by_cases h2 : 255 < l.length
 ·rw [if_pos h2]; exact ⟨fun e => (by cases e), fun e => by omega⟩
 rw [if_neg h2]; exact ⟨fun _ => ⟨h.1 h1, by omega⟩, fun _ => rfl⟩
theorem zWq {l : Bs} {k : Nat} (h : front l = some k) : Nm (l.take k) /\ (l.take k).length = k /\ k <= 255 /\ (labels (l.take k)).2 = 0 := by
 have h1 := zGn h
 have h2 := front_len h
 unfold front at h
 split at h
 ·rename_i j hj
  split at h
  ·rename_i hl
   cases h
   exact ⟨((zAu _).1 hl).1, by rw [aU]; omega, h2, hl⟩
  cases h
 cases h
theorem zAh {σ : Nat -> Nat -> Prop} (T : List (Bl × Nat)) : RM σ (encT T) (encT T) := by
 induction T with
 | nil => exact .nil
 | cons p T ih => exact .cons _ _ _ _ (.string _) (.int _ _) ih
def pkS (a : Nat) (en : Int) (T : List (Bl × Nat)) (ck : Nat) (x : Bl × List (Bl × Nat) × Bl) (f : Nat -> Option Value) : Fs := match x with
 | ([], F, t) => ⟨slots 7 [(0, pt 0), (1, .int .i64 (a : Int)), (9, .slice none 0 0), (10, .map (some 2)), (11, .string (mkS t))] f, heap 3 [(0, .cells [.map (some 1), .int .i64 en] 98), (1, .map (encT T) ck), (2, .map (encT F) F.length)], 3, [], []⟩
 | (u :: us, F, t) => ⟨slots 7 [(0, pt 0), (1, .int .i64 (a : Int)), (9, sq 3 (us.length + 1) U), (10, .map (some 2)), (11, .string (mkS t))] f, heap 3 [(0, .cells [.map (some 1), .int .i64 en] 98), (1, .map (encT T) ck), (2, .map (encT F) F.length), (3, .cells ((u :: us).map byV) 5)], 4, [], []⟩
def pkE (a : Nat) (en : Int) (T : List (Bl × Nat)) (ck : Nat) (u : UInt8) (us : Bl) (F : List (Bl × Nat)) (f : Nat -> Option Value) : Fs := ⟨slots 7 [(0, pt 0), (1, .int .i64 (a : Int)), (9, sq 3 (us.length + 1) U), (10, .map (some 2))] f, heap 3 [(0, .cells [.map (some 1), .int .i64 en] 98), (1, .map (encT T) ck), (2, .map (encT F) F.length), (3, .cells ((u :: us).map byV) 5)], 4, [], []⟩
noncomputable def tbPk4 : Tb Try.prog 0 := tbOf mixed [zHt, zNy]
theorem zAr (l : Bl) : (mkS l).data.size = l.length := by simp [mkS]
theorem zKk (l : Bl) (i : Nat) : atS (mkS l) (i : Int) = l.getD i 0 := by simp [atS, mkS]
def goodT (T : List (Bl × Nat)) : Prop := (T.map (·.1)).Nodup /\ ∀ p ∈ T, p.2 < 16384
theorem zEn {s : Bl} {k : Nat} : ∀ {T : List (Bl × Nat)}, lookT T s = some k -> (s, k) ∈ T
 | (t, j) :: T, h => by
  unfold lookT at h
  split at h
  ·rename_i e; subst e; cases h; exact List.mem_cons_self ..
  exact List.mem_cons_of_mem _ (zEn h)
theorem or_low {k : Nat} (h : k < 16384) : bitsI .or .i64 49152 (k : Int) = ((49152 + k : Nat) : Int) := by
 have e : bitsI .or .i64 49152 (k : Int) = IntKind.i64.wrap (BitVec.ofInt 64 49152 ||| BitVec.ofInt 64 (k : Int)).toNat := rfl
 have e1 : (BitVec.ofInt 64 (k : Int)).toNat = k := by rw [BitVec.toNat_ofInt]; omega
 have e2 : (BitVec.ofInt 64 49152).toNat = 2 ^ 14 * 3 := by decide
 rw [e, BitVec.toNat_or, e1, e2, <- Nat.two_pow_add_eq_or_of_lt (i := 14) h 3]
 exact zAp (by omega) (by omega)
theorem zMt (k : Nat) : hi8 (49152 + k) = UInt8.ofNat (192 + k / 256) := by unfold hi8; congr 1; omega
theorem zMw (k : Nat) : lo8 (49152 + k) = UInt8.ofNat (k % 256) := by unfold lo8; congr 1; omega
theorem name_loop (a : Nat) (en : Int) (T : List (Bl × Nat)) (ck : Nat) (B : Bl) (ha : a <= 65535) (hT : goodT T) (hB : Nm B) (hlB : B.length <= 255) {s0 : Fs} {K : Ex -> Fs -> Prop}
  (h0 : ∃ f, RcM Try.prog 0 2 (3 + (Try.f70.ntmps - 3)) none s0 (pkS a en T ck ([], [], B) f))
  (hex : ∀ u us F f, (u :: us, F) = packN T a B.length B 0 -> (u :: us).length <= 257 -> K (.exit 1) (pkE a en T ck u us F f)) :
  LW Try.prog 0 2 (3 + (Try.f70.ntmps - 3)) none (loopAt Try.f70 0) s0 K := by
 have h1s : (Try.prog.types[5]).size = 1 := by kernel_rfl
 have hby : (Try.prog.types[5]).bytes = 1 := by kernel_rfl
 obtain ⟨R, hR⟩ : ∃ R, packN T a B.length B 0 = R := ⟨_, rfl⟩
 rw [hR] at hex
 refine zAn (pkS a en T ck) (fun x => x.2.2.length) (fun x => Nm x.2.2 /\ x.1.length + x.2.2.length <= 255 /\ (∀ p ∈ x.2.1, x.2.2.length < p.1.length) /\ ∃ f, x.2.2.length <= f /\ (x.1 ++ (packN T a f x.2.2 x.1.length).1, x.2.1 ++ (packN T a f x.2.2 x.1.length).2) = R) ([], [], B) ⟨hB, by show 0 + B.length <= 255; omega, (fun p hp => by cases hp), B.length, aJ _, hR⟩ h0 ?_
 rintro ⟨out, F, t⟩ f ⟨hnm, hlen, hF, fu, hfu, hpk⟩
 have hnm : Nm t := hnm
 have hlen : out.length + t.length <= 255 := hlen
 have hF : ∀ p ∈ F, t.length < p.1.length := hF
 have hfu : t.length <= fu := hfu
 have hpk : (out ++ (packN T a fu t out.length).1, F ++ (packN T a fu t out.length).2) = R := hpk
 have hpos := hnm.pos
 obtain ⟨fu, rfl⟩ : ∃ g, fu = g + 1 := ⟨fu - 1, by omega⟩
 obtain ⟨c, hc⟩ : ∃ c, (t.getD 0 0).toNat = c := ⟨_, rfl⟩
 have hcl : c <= 63 := by rw [<- hc]; cases hnm <;> simp <;> omega
 have hct : c ≠ 0 -> c + 1 < t.length /\ Nm (t.drop (c + 1)) := fun h => by
  cases hnm with
  | root => exact ab (show c = 0 by rw [<- hc]; rfl) h
  | lab c' x r h1 h2 hx hr =>
   have hc : c'.toNat = c := hc
   have e : (c' :: (x ++ r)).drop (c + 1) = r := by rw [List.drop_succ_cons, <- hc, <- hx, List.drop_left]
   refine ⟨?_, by rw [e]; exact hr⟩
   have := hr.pos
   simp; omega
 have hFn : lookT F t = none := zEo.2 fun h => by
  obtain ⟨p, hp, he⟩ := List.mem_map.1 h
  have := hF p hp
  rw [he] at this; omega
 unfold packN at hpk
 simp only [hc] at hpk
 have es : inI 0 (mkS t).data.size = true := by rw [zAr]; simp [inI]; omega
 have ec : ((atS (mkS t) 0).toNat : Int) = (c : Int) := by rw [show (0 : Int) = ((0 : Nat) : Int) from rfl, zKk, hc]
 have ew : IntKind.i64.wrap (1 + IntKind.i64.wrap ((atS (mkS t) 0).toNat : Int)) = ((c + 1 : Nat) : Int) := by
  rw [ec, zAp (x := (c : Int)) (by omega) (by omega), zAp (by omega) (by omega)]; omega
 have hsl : c ≠ 0 -> inLH 0 (IntKind.i64.wrap (1 + IntKind.i64.wrap ((atS (mkS t) 0).toNat : Int))) (mkS t).data.size = true := fun h => by
  have := (hct h).1
  rw [ew, zAr]; simp [inLH]; omega
 have hsl2 : c ≠ 0 -> inLH (IntKind.i64.wrap (1 + IntKind.i64.wrap ((atS (mkS t) 0).toNat : Int))) ((mkS t).data.size : Int) (mkS t).data.size = true := fun h => by
  have := (hct h).1
  rw [ew, zAr]; simp [inLH]; omega
 have edrop : subS (mkS t) (IntKind.i64.wrap (1 + IntKind.i64.wrap ((atS (mkS t) 0).toNat : Int))).toNat (((mkS t).data.size : Int)).toNat = mkS (t.drop (c + 1)) := by
  rw [ew, aO, aO, zAr]
  simp [subS, mkS]
 have esub : ∀ lo : Nat, lo = 0 -> (subS (mkS t) lo (IntKind.i64.wrap (1 + IntKind.i64.wrap ((atS (mkS t) 0).toNat : Int))).toNat).data.toList = t.take (c + 1) := fun lo h => by
  subst h
  rw [ew, aO]; simp [subS, mkS]
 have hel : c ≠ 0 -> (t.take (c + 1)).length = c + 1 := fun h => by have := (hct h).1; rw [aU]; omega
 cases out with
 | nil =>
  refine zAm tbPk4 [1, 3, 900005, 900006] 2 _ none mixed _ _ _ ?_
  refine aI es ?_
  refine ifK (fun h1 => ?_) (fun h1 => ?_)
  ·have h1 : c = 0 := by have h1 : (((atS (mkS t) 0).toNat : Int) == 0) = true := h1; rw [ec] at h1; have : (c : Int) = 0 := by simpa using h1
                         omega
   rw [if_pos h1] at hpk
   refine eI [Value.int .u8 0] (aI rfl ?_)
   refine aI (by kernel_rfl) ?_
   refine aI rfl (zAg (rcq [2, 4] (d := 7) (d2 := 3) (lv := [(0, pt 0), (1, .int .i64 (a : Int)), (9, sq 3 (0 + 1) U), (10, .map (some 2))]) (bs := [(0, .cells [.map (some 1), .int .i64 en] 98), (1, .map (encT T) ck), (2, .map (encT F) F.length), (3, .cells (([0] : Bl).map byV) 5)]) (W := []) (m := 4) (df := []) ⟨(sP rfl rfl), (sI rfl), (sL rfl rfl), ⟨_, rfl, .map _ _ rfl⟩, tv⟩ ⟨⟨by decide, _, rfl, RO.cells [_, _] [] _ _ (.cons _ _ _ _ (.map _ _ rfl) (.cons _ _ _ _ (.int _ _) .nil))⟩, ⟨by decide, _, rfl, RO.map _ _ _ (zAh _)⟩, ⟨by decide, _, rfl, RO.map _ _ _ (zAh _)⟩, bpo rfl, tv⟩ .nil) (fun f => ?_))
   exact hex 0 [] F f (by rw [<- hpk]; simp) (by decide)
  have h1 : c ≠ 0 := fun e => by have h1 : (((atS (mkS t) 0).toNat : Int) == 0) = false := h1; rw [ec, e] at h1; cases h1
  rw [if_neg h1] at hpk
  cases hlk : lookT T t with
  | some k =>
   rw [hlk] at hpk
   refine eI (Value.tuple #[.int .i64 (k : Int), .bool true]) (eI ([] : List (Nat × Option AObj)) (eI (0 : Nat) (aI ?_ ?_)))
   ·exact zPo rfl rfl rfl (by kernel_rfl) rfl hT.1 hlk
   have hk : k < 16384 := hT.2 _ (zEn hlk)
   have e1 : bitsI .or .i64 49152 (k : Int) = ((49152 + k : Nat) : Int) := or_low hk
   refine eI (49152 + k) (aI ⟨by show [Value.int .i64 (bitsI .or .i64 49152 (k : Int))] = _; rw [e1], by omega⟩ ?_)
   refine eI ([hi8 (49152 + k), lo8 (49152 + k)].map byV) (aI (by rw [h1s]; rfl) ?_)
   refine aI (by kernel_rfl) ?_
   refine aI rfl (zAg (rcq [2, 4] (d := 7) (d2 := 3) (lv := [(0, pt 0), (1, .int .i64 (a : Int)), (9, sq 3 (1 + 1) U), (10, .map (some 2))]) (bs := [(0, .cells [.map (some 1), .int .i64 en] 98), (1, .map (encT T) ck), (2, .map (encT F) F.length), (3, .cells ([hi8 (49152 + k), lo8 (49152 + k)].map byV) 5)]) (W := []) (m := 4) (df := []) ⟨(sP rfl rfl), (sI rfl), (sL rfl rfl), ⟨_, rfl, .map _ _ rfl⟩, tv⟩ ⟨⟨by decide, _, rfl, RO.cells [_, _] [] _ _ (.cons _ _ _ _ (.map _ _ rfl) (.cons _ _ _ _ (.int _ _) .nil))⟩, ⟨by decide, _, rfl, RO.map _ _ _ (zAh _)⟩, ⟨by decide, _, rfl, RO.map _ _ _ (zAh _)⟩, bpo rfl, tv⟩ .nil) (fun f => ?_))
   exact hex _ [_] F f (by rw [<- hpk, zMt, zMw]; simp) (by simp)
  | none =>
   rw [hlk] at hpk
   refine eI (Value.tuple #[.int .i64 0, .bool false]) (eI ([] : List (Nat × Option AObj)) (eI (0 : Nat) (aI ?_ ?_)))
   ·exact zPn rfl rfl rfl (by kernel_rfl) rfl hlk
   have e2 : IntKind.i64.wrap ((a : Int) + ((0 : Nat) : Int)) = (a : Int) := zAp (by omega) (by omega)
   refine ifK (fun g => ?_) (fun g => ?_)
   ·have g : a < 16384 := by have g : decide (IntKind.i64.wrap ((a : Int) + ((0 : Nat) : Int)) < 16384) = true := g; rw [e2] at g; have := oT g; omega
    refine eI undef (eI [((2 : Nat), some (AObj.map (encT (F ++ [(t, a)])) (F.length + 1)))] (eI (0 : Nat) (aI ?_ ?_)))
    ·exact zUi rfl rfl rfl (by show Value.int _ _ = _; rw [e2]) (by kernel_rfl) rfl hFn
    refine aI es ?_
    refine aI (hsl h1) ?_
    refine ifK (fun g => ab (aA g) (by rw [esub (Int.toNat 0) rfl, hel h1]; omega)) (fun _ => ?_)
    refine aI (by rw [esub (Int.toNat 0) rfl, hel h1, hby, aX (by omega), aX (by omega)]; rfl) ?_
    refine aI es ?_
    refine aI (hsl2 h1) ?_
    obtain ⟨u, us, hu⟩ : ∃ u us, t.take (c + 1) = u :: us := by
     have := hel h1
     cases hq : t.take (c + 1) with
     | nil => rw [hq] at this; cases this
     | cons u us => exact ⟨u, us, rfl⟩
    have hul : (u :: us).length = 0 + c + 1 := by rw [<- hu, hel h1]; omega
    have hc1 := hct h1
    refine ⟨(u :: us, F ++ [(t, a)], t.drop (c + 1)), ⟨hc1.2, ?_, ?_, fu, ?_, ?_⟩, ?_, ?_⟩
    ·show (u :: us).length + (t.drop (c + 1)).length <= 255
     have hlen : 0 + t.length <= 255 := hlen
     rw [hul, aM]; omega
    ·exact fun p hp => by
      rcases List.mem_append.1 hp with h | h
      ·have : t.length < p.1.length := hF p h
       show (t.drop (c + 1)).length < _; rw [aM]; omega
      rw [List.mem_singleton.1 h]; show (t.drop (c + 1)).length < t.length; rw [aM]; omega
    ·show (t.drop (c + 1)).length <= fu
     rw [aM]; omega
    ·show ((u :: us) ++ (packN T a fu (t.drop (c + 1)) (u :: us).length).1, F ++ [(t, a)] ++ (packN T a fu (t.drop (c + 1)) (u :: us).length).2) = R
     have hpk : ([] ++ (t.take (c + 1) ++ (packN T a fu (t.drop (c + 1)) (0 + c + 1)).1), F ++ (if a + 0 < 16384 then (t, a + 0) :: (packN T a fu (t.drop (c + 1)) (0 + c + 1)).2 else (packN T a fu (t.drop (c + 1)) (0 + c + 1)).2)) = R := hpk
     rw [<- hpk, hul, if_pos (by omega)]; simp [<- hu, aN]
    ·show (t.drop (c + 1)).length < t.length
     rw [aM]; omega
    exact rcq [2, 3] ⟨(sP rfl rfl), (sI rfl), ⟨_, rfl, by rw [esub (Int.toNat 0) rfl, hu]; exact .sl _ _ _ _ _ rfl⟩, ⟨_, rfl, .map _ _ rfl⟩, ⟨_, rfl, by rw [edrop]; exact .string _⟩, tv⟩ ⟨⟨by decide, _, rfl, RO.cells [_, _] [] _ _ (.cons _ _ _ _ (.map _ _ rfl) (.cons _ _ _ _ (.int _ _) .nil))⟩, ⟨by decide, _, rfl, RO.map _ _ _ (zAh _)⟩, ⟨by decide, _, rfl, by rw [aB]; exact RO.map _ _ _ (zAh _)⟩, ⟨by decide, _, rfl, by rw [esub (Int.toNat 0) rfl, hu]; exact .same (zAa (u :: us))⟩, tv⟩ .nil
   have g : ¬ a < 16384 := fun hlt => by have g : decide (IntKind.i64.wrap ((a : Int) + ((0 : Nat) : Int)) < 16384) = false := g; rw [e2] at g; exact ab (show (a : Int) < 16384 by omega) (oF g)
   refine aI es ?_
   refine aI (hsl h1) ?_
   refine ifK (fun g => ab (aA g) (by rw [esub (Int.toNat 0) rfl, hel h1]; omega)) (fun _ => ?_)
   refine aI (by rw [esub (Int.toNat 0) rfl, hel h1, hby, aX (by omega), aX (by omega)]; rfl) ?_
   refine aI es ?_
   refine aI (hsl2 h1) ?_
   obtain ⟨u, us, hu⟩ : ∃ u us, t.take (c + 1) = u :: us := by
    have := hel h1
    cases hq : t.take (c + 1) with
    | nil => rw [hq] at this; cases this
    | cons u us => exact ⟨u, us, rfl⟩
   have hul : (u :: us).length = 0 + c + 1 := by rw [<- hu, hel h1]; omega
   have hc1 := hct h1
   refine ⟨(u :: us, F, t.drop (c + 1)), ⟨hc1.2, ?_, ?_, fu, ?_, ?_⟩, ?_, ?_⟩
   ·show (u :: us).length + (t.drop (c + 1)).length <= 255
    have hlen : 0 + t.length <= 255 := hlen
    rw [hul, aM]; omega
   ·exact fun p hp => by
     have : t.length < p.1.length := hF p hp
     show (t.drop (c + 1)).length < _; rw [aM]; omega
   ·show (t.drop (c + 1)).length <= fu
    rw [aM]; omega
   ·show ((u :: us) ++ (packN T a fu (t.drop (c + 1)) (u :: us).length).1, F ++ (packN T a fu (t.drop (c + 1)) (u :: us).length).2) = R
    have hpk : ([] ++ (t.take (c + 1) ++ (packN T a fu (t.drop (c + 1)) (0 + c + 1)).1), F ++ (if a + 0 < 16384 then (t, a + 0) :: (packN T a fu (t.drop (c + 1)) (0 + c + 1)).2 else (packN T a fu (t.drop (c + 1)) (0 + c + 1)).2)) = R := hpk
    rw [<- hpk, hul, if_neg (by omega)]; simp [<- hu, aN]
   ·show (t.drop (c + 1)).length < t.length
    rw [aM]; omega
   exact rcq [2, 3] ⟨(sP rfl rfl), (sI rfl), ⟨_, rfl, by rw [esub (Int.toNat 0) rfl, hu]; exact .sl _ _ _ _ _ rfl⟩, ⟨_, rfl, .map _ _ rfl⟩, ⟨_, rfl, by rw [edrop]; exact .string _⟩, tv⟩ ⟨⟨by decide, _, rfl, RO.cells [_, _] [] _ _ (.cons _ _ _ _ (.map _ _ rfl) (.cons _ _ _ _ (.int _ _) .nil))⟩, ⟨by decide, _, rfl, RO.map _ _ _ (zAh _)⟩, ⟨by decide, _, rfl, RO.map _ _ _ (zAh _)⟩, ⟨by decide, _, rfl, by rw [esub (Int.toNat 0) rfl, hu]; exact .same (zAa (u :: us))⟩, tv⟩ .nil
 | cons u us =>
  have hlen : us.length + 1 + t.length <= 255 := hlen
  have hpk : ((u :: us) ++ (if c = 0 then (([0] : Bl), ([] : List (Bl × Nat))) else match lookT T t with
   | some k => ([UInt8.ofNat (192 + k / 256), UInt8.ofNat (k % 256)], [])
   | none => (t.take (c + 1) ++ (packN T a fu (t.drop (c + 1)) (us.length + 1 + c + 1)).1, if a + (us.length + 1) < 16384 then (t, a + (us.length + 1)) :: (packN T a fu (t.drop (c + 1)) (us.length + 1 + c + 1)).2 else (packN T a fu (t.drop (c + 1)) (us.length + 1 + c + 1)).2)).1, F ++ (if c = 0 then (([0] : Bl), ([] : List (Bl × Nat))) else match lookT T t with
   | some k => ([UInt8.ofNat (192 + k / 256), UInt8.ofNat (k % 256)], [])
   | none => (t.take (c + 1) ++ (packN T a fu (t.drop (c + 1)) (us.length + 1 + c + 1)).1, if a + (us.length + 1) < 16384 then (t, a + (us.length + 1)) :: (packN T a fu (t.drop (c + 1)) (us.length + 1 + c + 1)).2 else (packN T a fu (t.drop (c + 1)) (us.length + 1 + c + 1)).2)).2) = R := hpk
  refine zAm tbPk4 [1, 3, 900005, 900006] 2 _ none mixed _ _ _ ?_
  refine aI es ?_
  refine ifK (fun h1 => ?_) (fun h1 => ?_)
  ·have h1 : c = 0 := by have h1 : (((atS (mkS t) 0).toNat : Int) == 0) = true := h1; rw [ec] at h1; have : (c : Int) = 0 := by simpa using h1
                         omega
   rw [if_pos h1] at hpk
   refine aI (by rw [hby, h1s]; simp only [bA, dT]; exact ⟨⟨⟨⟨⟨⟨rfl, rfl⟩, bL (by simp)⟩, rfl⟩, (by omega)⟩, (by omega)⟩, bL (by simp)⟩) ?_
   refine aI rfl (zAg (rcq [2, 5] (d := 7) (d2 := 3) (lv := [(0, pt 0), (1, .int .i64 (a : Int)), (9, sq 3 ((us ++ ([0] : Bl)).length + 1) U), (10, .map (some 2))]) (bs := [(0, .cells [.map (some 1), .int .i64 en] 98), (1, .map (encT T) ck), (2, .map (encT F) F.length), (3, .cells ((u :: (us ++ ([0] : Bl))).map byV) 5)]) (W := []) (m := 4) (df := []) ⟨(sP rfl rfl), (sI rfl), ⟨_, rfl, by rw [show (us ++ ([0] : Bl)).length + 1 = us.length + 1 + 1 by simp <;> omega]; exact .sl _ _ _ _ _ rfl⟩, ⟨_, rfl, .map _ _ rfl⟩, tv⟩ ⟨⟨by decide, _, rfl, RO.cells [_, _] [] _ _ (.cons _ _ _ _ (.map _ _ rfl) (.cons _ _ _ _ (.int _ _) .nil))⟩, ⟨by decide, _, rfl, RO.map _ _ _ (zAh _)⟩, ⟨by decide, _, rfl, RO.map _ _ _ (zAh _)⟩, ⟨by decide, _, rfl, zAv (by rw [h1s, aR, aD (by simp)]; simp <;> rfl) (zAa _)⟩, tv⟩ .nil) (fun f => ?_))
   exact hex u (us ++ ([0] : Bl)) F f (by rw [<- hpk]; simp) (by simp; omega)
  have h1 : c ≠ 0 := fun e => by have h1 : (((atS (mkS t) 0).toNat : Int) == 0) = false := h1; rw [ec, e] at h1; cases h1
  rw [if_neg h1] at hpk
  cases hlk : lookT T t with
  | some k =>
   rw [hlk] at hpk
   refine eI (Value.tuple #[.int .i64 (k : Int), .bool true]) (eI ([] : List (Nat × Option AObj)) (eI (0 : Nat) (aI ?_ ?_)))
   ·exact zPo rfl rfl rfl (by kernel_rfl) rfl hT.1 hlk
   have hk : k < 16384 := hT.2 _ (zEn hlk)
   have e1 : bitsI .or .i64 49152 (k : Int) = ((49152 + k : Nat) : Int) := or_low hk
   refine eI (49152 + k) (aI ⟨by show [Value.int .i64 (bitsI .or .i64 49152 (k : Int))] = _; rw [e1], by omega⟩ ?_)
   refine aI (by rw [hby, h1s]; simp only [bA, dT]; exact ⟨⟨⟨⟨⟨⟨rfl, rfl⟩, bL (by simp)⟩, rfl⟩, (by omega)⟩, (by omega)⟩, bL (by simp)⟩) ?_
   refine aI rfl (zAg (rcq [2, 5] (d := 7) (d2 := 3) (lv := [(0, pt 0), (1, .int .i64 (a : Int)), (9, sq 3 ((us ++ [hi8 (49152 + k), lo8 (49152 + k)]).length + 1) U), (10, .map (some 2))]) (bs := [(0, .cells [.map (some 1), .int .i64 en] 98), (1, .map (encT T) ck), (2, .map (encT F) F.length), (3, .cells ((u :: (us ++ [hi8 (49152 + k), lo8 (49152 + k)])).map byV) 5)]) (W := []) (m := 4) (df := []) ⟨(sP rfl rfl), (sI rfl), ⟨_, rfl, by rw [show (us ++ [hi8 (49152 + k), lo8 (49152 + k)]).length + 1 = us.length + 1 + 2 by simp <;> omega]; exact .sl _ _ _ _ _ rfl⟩, ⟨_, rfl, .map _ _ rfl⟩, tv⟩ ⟨⟨by decide, _, rfl, RO.cells [_, _] [] _ _ (.cons _ _ _ _ (.map _ _ rfl) (.cons _ _ _ _ (.int _ _) .nil))⟩, ⟨by decide, _, rfl, RO.map _ _ _ (zAh _)⟩, ⟨by decide, _, rfl, RO.map _ _ _ (zAh _)⟩, ⟨by decide, _, rfl, zAv (by rw [h1s, aR, aD (by simp)]; simp <;> rfl) (zAa _)⟩, tv⟩ .nil) (fun f => ?_))
   exact hex u (us ++ [hi8 (49152 + k), lo8 (49152 + k)]) F f (by rw [<- hpk, zMt, zMw]; simp) (by simp; omega)
  | none =>
   rw [hlk] at hpk
   refine eI (Value.tuple #[.int .i64 0, .bool false]) (eI ([] : List (Nat × Option AObj)) (eI (0 : Nat) (aI ?_ ?_)))
   ·exact zPn rfl rfl rfl (by kernel_rfl) rfl hlk
   have e2 : IntKind.i64.wrap ((a : Int) + ((us.length + 1 : Nat) : Int)) = ((a + (us.length + 1) : Nat) : Int) := by rw [zAp (by omega) (by omega)]; omega
   have hst : oneL ((t.take (c + 1)).map byV) = true := by unfold oneL; exact aG.2 (fun v hv => by obtain ⟨b, _, rfl⟩ := List.mem_map.1 hv; rfl)
   refine ifK (fun g => ?_) (fun g => ?_)
   ·have g : a + (us.length + 1) < 16384 := by have g : decide (IntKind.i64.wrap ((a : Int) + ((us.length + 1 : Nat) : Int)) < 16384) = true := g; rw [e2] at g; have := oT g; omega
    refine eI undef (eI [((2 : Nat), some (AObj.map (encT (F ++ [(t, a + (us.length + 1))])) (F.length + 1)))] (eI (0 : Nat) (aI ?_ ?_)))
    ·exact zUi rfl rfl rfl (by show Value.int _ _ = _; rw [e2]) (by kernel_rfl) rfl hFn
    refine aI es ?_
    refine aI (hsl h1) ?_
    refine ifK (fun g => ab (aA g) (by rw [esub (Int.toNat 0) rfl, hel h1]; omega)) (fun _ => ?_)
    refine aI (by rw [hby, h1s, esub (Int.toNat 0) rfl]; simp only [bA, dT]; exact ⟨⟨⟨⟨⟨⟨rfl, rfl⟩, bL (by simp)⟩, hst⟩, (by omega)⟩, (by omega)⟩, bL (by have := (hct h1).1; simp; omega)⟩) ?_
    refine aI es ?_
    refine aI (hsl2 h1) ?_
    have hc1 := hct h1
    have hull : (us ++ t.take (c + 1)).length + 1 = us.length + 1 + c + 1 := by rw [aB, hel h1]; omega
    refine ⟨(u :: (us ++ t.take (c + 1)), F ++ [(t, a + (us.length + 1))], t.drop (c + 1)), ⟨hc1.2, ?_, ?_, fu, ?_, ?_⟩, ?_, ?_⟩
    ·show (us ++ t.take (c + 1)).length + 1 + (t.drop (c + 1)).length <= 255
     rw [hull, aM]; omega
    ·exact fun p hp => by
      rcases List.mem_append.1 hp with h | h
      ·have : t.length < p.1.length := hF p h
       show (t.drop (c + 1)).length < _; rw [aM]; omega
      rw [List.mem_singleton.1 h]; show (t.drop (c + 1)).length < t.length; rw [aM]; omega
    ·show (t.drop (c + 1)).length <= fu
     rw [aM]; omega
    ·show ((u :: (us ++ t.take (c + 1))) ++ (packN T a fu (t.drop (c + 1)) ((us ++ t.take (c + 1)).length + 1)).1, F ++ [(t, a + (us.length + 1))] ++ (packN T a fu (t.drop (c + 1)) ((us ++ t.take (c + 1)).length + 1)).2) = R
     rw [<- hpk, hull]; simp only [if_pos g]; simp [aN]
    ·show (t.drop (c + 1)).length < t.length
     rw [aM]; omega
    exact rcq [2, 4] ⟨(sP rfl rfl), (sI rfl), ⟨_, rfl, by rw [esub (Int.toNat 0) rfl, show (us ++ t.take (c + 1)).length + 1 = us.length + 1 + (t.take (c + 1)).length by rw [aB]; omega]; exact .sl _ _ _ _ _ rfl⟩, ⟨_, rfl, .map _ _ rfl⟩, ⟨_, rfl, by rw [edrop]; exact .string _⟩, tv⟩ ⟨⟨by decide, _, rfl, RO.cells [_, _] [] _ _ (.cons _ _ _ _ (.map _ _ rfl) (.cons _ _ _ _ (.int _ _) .nil))⟩, ⟨by decide, _, rfl, RO.map _ _ _ (zAh _)⟩, ⟨by decide, _, rfl, by rw [aB]; exact RO.map _ _ _ (zAh _)⟩, ⟨by decide, _, rfl, zAv (by rw [esub (Int.toNat 0) rfl, h1s, aR, aD (by simp)]; simp <;> rfl) (zAa _)⟩, tv⟩ .nil
   have g : ¬ a + (us.length + 1) < 16384 := fun hlt => by have g : decide (IntKind.i64.wrap ((a : Int) + ((us.length + 1 : Nat) : Int)) < 16384) = false := g; rw [e2] at g; exact ab (show ((a + (us.length + 1) : Nat) : Int) < 16384 by omega) (oF g)
   refine aI es ?_
   refine aI (hsl h1) ?_
   refine ifK (fun g => ab (aA g) (by rw [esub (Int.toNat 0) rfl, hel h1]; omega)) (fun _ => ?_)
   refine aI (by rw [hby, h1s, esub (Int.toNat 0) rfl]; simp only [bA, dT]; exact ⟨⟨⟨⟨⟨⟨rfl, rfl⟩, bL (by simp)⟩, hst⟩, (by omega)⟩, (by omega)⟩, bL (by have := (hct h1).1; simp; omega)⟩) ?_
   refine aI es ?_
   refine aI (hsl2 h1) ?_
   have hc1 := hct h1
   have hull : (us ++ t.take (c + 1)).length + 1 = us.length + 1 + c + 1 := by rw [aB, hel h1]; omega
   refine ⟨(u :: (us ++ t.take (c + 1)), F, t.drop (c + 1)), ⟨hc1.2, ?_, ?_, fu, ?_, ?_⟩, ?_, ?_⟩
   ·show (us ++ t.take (c + 1)).length + 1 + (t.drop (c + 1)).length <= 255
    rw [hull, aM]; omega
   ·exact fun p hp => by
     have : t.length < p.1.length := hF p hp
     show (t.drop (c + 1)).length < _; rw [aM]; omega
   ·show (t.drop (c + 1)).length <= fu
    rw [aM]; omega
   ·show ((u :: (us ++ t.take (c + 1))) ++ (packN T a fu (t.drop (c + 1)) ((us ++ t.take (c + 1)).length + 1)).1, F ++ (packN T a fu (t.drop (c + 1)) ((us ++ t.take (c + 1)).length + 1)).2) = R
    rw [<- hpk, hull]; simp only [if_neg g]; simp [aN]
   ·show (t.drop (c + 1)).length < t.length
    rw [aM]; omega
   exact rcq [2, 4] ⟨(sP rfl rfl), (sI rfl), ⟨_, rfl, by rw [esub (Int.toNat 0) rfl, show (us ++ t.take (c + 1)).length + 1 = us.length + 1 + (t.take (c + 1)).length by rw [aB]; omega]; exact .sl _ _ _ _ _ rfl⟩, ⟨_, rfl, .map _ _ rfl⟩, ⟨_, rfl, by rw [edrop]; exact .string _⟩, tv⟩ ⟨⟨by decide, _, rfl, RO.cells [_, _] [] _ _ (.cons _ _ _ _ (.map _ _ rfl) (.cons _ _ _ _ (.int _ _) .nil))⟩, ⟨by decide, _, rfl, RO.map _ _ _ (zAh _)⟩, ⟨by decide, _, rfl, RO.map _ _ _ (zAh _)⟩, ⟨by decide, _, rfl, zAv (by rw [esub (Int.toNat 0) rfl, h1s, aR, aD (by simp)]; simp <;> rfl) (zAa _)⟩, tv⟩ .nil
section
theorem zOk {F : Fence} {n : Nat} {P : Program} {c : Code} {Q Q' : Exit -> Act -> World -> Prop} {a : Act} {w : World} (h : zEc F n P c Q a w) (hq : ∀ e a' w', Q e a' w' -> Q' e a' w') : zEc F n P c Q' a w := fun b k cs h1 h2 h3 => by
 obtain ⟨e, a', w', q1, q2⟩ := h b k cs h1 h2 h3
 exact ⟨e, a', w', hq _ _ _ q1, q2⟩
theorem zQq {P : Program} {g0 k0 nt : Nat} {rd : Option Nat} {c : Code} {s s' : Fs} {x : Ex} (h : LoopOK P g0 nt rd c s x s') (hJ : s'.n <= JJ) (hW : ∀ k ∈ s'.wr, k < JJ) (hk : k0 <= s.n) : LSem P g0 k0 nt rd c s x s' := by
 obtain ⟨⟨hg, hwr⟩, hw⟩ := h
 refine ⟨aW hk hg.le, fun i hi _ => hwr i hi, fun E a w hf => ?_⟩
 have hfree : Free E s.n s'.n := fun k h1 h2 hd => by rcases hf.top k hd with h3 | h3 <;> omega
 refine zOk (hw E w E a w ⟨hf.tr, hf.hr, hf.lw, (Stp.refl E w).sub (fun _ h => by cases h), hf.df, hf.gl, hf.rd⟩ hfree) ?_
 rintro e a' w' ⟨E', hx, ht, hf', he⟩
 have hle := hg.le
 refine ⟨E', ⟨hf'.tr, hf'.hr, hf'.lw, hf'.df, hf'.gl, hf'.rd, fun k hd => ?_⟩, he, ⟨fun i hi => ?_, fun i _ hd => hx.ρ i hd, fun i _ hd => hx.tot i hd, fun i _ hd => hx.sz i hd, fun i _ hd => hx.sh i hd, fun i _ hd => hx.ro i hd, fun hn i hi hiJ hd => ?_, hf'.stp.os, hf'.stp.tape, hf'.stp.output, hf'.stp.size, fun b hb hx' => ?_, fun i hi hiJ hd => ?_, hx.fz, fun b ob hb => (hf'.stp.fz b ob hb).imp (fun h => h) (fun h => h.imp (fun h => h) (fun ⟨o, ho, hd', hr, e⟩ => ⟨o, ⟨hd', hW o ho, fun _ => ⟨ho, hr⟩⟩, e⟩))⟩⟩
 ·rcases (ht k).1 hd with h1 | h1
  ·rcases hf.top k h1 with h2 | h2
   ·exact .inl (by omega)
   exact .inr h2
  exact .inl h1.2
 ·rw [ht i]; exact ⟨fun h => h.resolve_right (by omega), .inl⟩
 ·by_cases h1 : E.dom i
  ·exact fun x => hn i hi hiJ h1 ((hx.ro i h1).1 x)
  exact (hf'.stp.fresh i h1 hd).1
 ·exact hf'.stp.block b hb (fun id hid hd hr => hx' id ⟨hd, hW id hid, fun _ => ⟨hid, hr⟩⟩)
 by_cases h1 : E.dom i
 ·exact .inr ⟨i, ⟨h1, hiJ, fun h => by omega⟩, (hx.ρ i h1).symm⟩
 exact (hf'.stp.fresh i h1 hd).2.imp (fun h => h) (fun ⟨o, ho, hd', hr, e⟩ => ⟨o, ⟨hd', hW o ho, fun _ => ⟨ho, hr⟩⟩, e.symm⟩)
theorem zMx {P : Program} {g0 k0 nt : Nat} {rd : Option Nat} {c : Code} {s s' : Fs} {x : Ex} {K : Ex -> Fs -> Prop} (h : mloop P g0 nt c s = some (.code x s')) (hJ : s'.n <= JJ) (hW : ∀ k ∈ s'.wr, k < JJ) (hk : K x s') : LW P g0 k0 nt rd c s K :=
 fun _ h2 => ⟨x, s', zQq (zUz h) hJ hW h2, hk⟩
section
variable {P : Program} {g0 nt : Nat}
theorem zWy {c : Code} {s : Fs} {L : MLoop} {K : MKeys} {b m since ck : Nat} (h1 : mparse c = some L) (h2 : mkeys L = some K) (h3 : aev s.T K.it0 = pt b) (h4 : s.H.get b = some (.mit m since)) (h5 : s.H.get m = some (.map [] ck)) (h6 : (since.beq ck && !(m.beq b)) = true)
  (h7 : (mend P g0 nt L K (s.H.set b none).get s.n b s.T).isSome = true) : mloop P g0 nt c s = some (.code (.exit L.x) { s with T := (mend P g0 nt L K (s.H.set b none).get s.n b s.T).get h7, H := s.H.set b none, wr := b :: s.wr }) := by
 obtain ⟨T, hm⟩ := Option.isSome_iff_exists.1 h7
 have eT : (mend P g0 nt L K (s.H.set b none).get s.n b s.T).get h7 = T := by simp [hm]
 rw [eT]
 unfold mloop
 simp only [h1, h2, h3, h4, h5, h6, cT, hm]
theorem zWz {c : Code} {s : Fs} {L : MLoop} {K : MKeys} {b m since ck B ckB : Nat} {e : MapEntry} {es esB : List MapEntry} {kt et : TypeId} (h1 : mparse c = some L) (h2 : mkeys L = some K) (h3 : aev s.T K.it0 = pt b) (h4 : s.H.get b = some (.mit m since)) (h5 : s.H.get m = some (.map (e :: es) ck)) (h6 : (since.beq ck && !(m.beq b)) = true)
  (h7 : (mslots P g0 nt L K (s.H.set b none).get s.n b s.T e).isSome = true) (h8 : aev ((mslots P g0 nt L K (s.H.set b none).get s.n b s.T e).get h7) K.um = .map (some B)) (h9 : (s.H.set b none).get B = some (.map esB ckB)) (h10 : P.underlying K.ut = some (.map kt et)) (h11 : B.beq m = false) (h12 : (P.underlying kt).isSome = true)
  (h13 : zAj (e :: es) = true) (h14 : zAj esB = true) (h15 : ((e :: es).all fun e => e.born.beq 0) = true) (h16 : ((e :: es).all fun e => keyOk P kt false e.key) = true) (h17 : ((e :: es).all fun e => zDm P kt e.key esB) = true) (h18 : zDy P kt (e :: es) = true)
  (h19 : ((e :: es).all fun x => mround P g0 nt L K ((s.H.set b none).set B none).get s.n b B (anonAll ((mslots P g0 nt L K (s.H.set b none).get s.n b s.T e).get h7) (mdsts L) s.T) s.T x) = true)
  (h20 : ((e :: es).all fun x => mround P g0 nt L K ((s.H.set b none).set B none).get s.n b B (anonAll ((mslots P g0 nt L K (s.H.set b none).get s.n b s.T e).get h7) (mdsts L) s.T) (anonAll ((mslots P g0 nt L K (s.H.set b none).get s.n b s.T e).get h7) (mdsts L) s.T) x) = true)
  (h21 : (mend P g0 nt L K ((s.H.set b none).set B none).get s.n b (anonAll ((mslots P g0 nt L K (s.H.set b none).get s.n b s.T e).get h7) (mdsts L) s.T)).isSome = true) :
  mloop P g0 nt c s = some (.code (.exit L.x) { s with T := (mend P g0 nt L K ((s.H.set b none).set B none).get s.n b (anonAll ((mslots P g0 nt L K (s.H.set b none).get s.n b s.T e).get h7) (mdsts L) s.T)).get h21, H := (s.H.set b none).set B (some (.map (esB ++ (e :: es)) (ckB + (e :: es).length))), wr := B :: b :: s.wr }) := by
 obtain ⟨Te, hTe⟩ : ∃ Te, mslots P g0 nt L K (s.H.set b none).get s.n b s.T e = some Te := Option.isSome_iff_exists.1 h7
 have eT : (mslots P g0 nt L K (s.H.set b none).get s.n b s.T e).get h7 = Te := by simp [hTe]
 simp only [eT] at h8 h19 h20 h21 ⊢
 obtain ⟨T, hm⟩ := Option.isSome_iff_exists.1 h21
 have eM : (mend P g0 nt L K ((s.H.set b none).set B none).get s.n b (anonAll Te (mdsts L) s.T)).get h21 = T := by simp [hm]
 rw [eM]
 unfold mloop
 simp only [h1, h2, h3, h4, h5, h6, cT, hTe, h8, h9, h10, h11, h12, h13, h14, h15, h16, h17, h18, Bool.not_false, Bool.and_self, h19, h20, hm]
end
noncomputable def pkL : MLoop := (mparse (loopAt Try.f70 1)).get (by kernel_rfl)
noncomputable def pkK : MKeys := (mkeys pkL).get (by kernel_rfl)
theorem not_elem {l : List Nat} {k : Nat} (h : l.elem k = false) : k ∉ l := fun hm => by rw [List.elem_eq_true_of_mem hm] at h; cases h
theorem all_lt {l : List Nat} (h : (l.all fun k => Nat.blt k JJ) = true) : ∀ k ∈ l, k < JJ := fun k hk => aE (aG.1 h k hk)
theorem zHh (T : List (Bl × Nat)) (a : Nat) : ∀ (f : Nat) (t : Bl) (o : Nat), (∀ q ∈ (packN T a f t o).2, lookT T q.1 = none /\ q.1.length <= t.length /\ q.2 < 16384) /\ ((packN T a f t o).2.map (·.1)).Nodup
 | 0, _, _ => ⟨(fun q hq => by cases hq), List.nodup_nil⟩
 | f + 1, t, o => by
  unfold packN
  by_cases hc : (t.getD 0 0).toNat = 0
  ·simp only [if_pos hc]; exact ⟨(fun q hq => by cases hq), List.nodup_nil⟩
  simp only [if_neg hc]
  cases hl : lookT T t with
  | some k => exact ⟨(fun q hq => by cases hq), List.nodup_nil⟩
  | none =>
   simp only []
   obtain ⟨h1, h2⟩ := zHh T a f (t.drop ((t.getD 0 0).toNat + 1)) (o + (t.getD 0 0).toNat + 1)
   have hpos : 0 < t.length := by
    cases t with
    | nil => exact ab rfl hc
    | cons x t => simp
   have hlt : ∀ q ∈ (packN T a f (t.drop ((t.getD 0 0).toNat + 1)) (o + (t.getD 0 0).toNat + 1)).2, q.1.length < t.length := fun q hq => by
    have := (h1 q hq).2.1
    rw [aM] at this; omega
   split
   ·rename_i hlt2
    refine ⟨fun q hq => ?_, ?_⟩
    ·rcases aK.1 hq with rfl | hq
     ·exact ⟨hl, aJ _, hlt2⟩
     exact ⟨(h1 q hq).1, Nat.le_of_lt (hlt q hq), (h1 q hq).2.2⟩
    rw [List.map_cons, List.nodup_cons]
    refine ⟨fun hm => ?_, h2⟩
    obtain ⟨q, hq, he⟩ := List.mem_map.1 hm
    have he : q.1 = t := he
    have := hlt q hq
    rw [he] at this; omega
   exact ⟨fun q hq => ⟨(h1 q hq).1, Nat.le_of_lt (hlt q hq), (h1 q hq).2.2⟩, h2⟩
theorem zUj {T : List (Bl × Nat)} {s : Bl} (h : lookT T s = none) : zDm Try.prog 9 (.string (mkS s)) (encT T) = true := by
 unfold zDm
 refine aG.2 fun x hx => ?_
 obtain ⟨q, hq, rfl⟩ := List.mem_map.1 hx
 have hne : s ≠ q.1 := fun e => zEo.1 h (by rw [e]; exact List.mem_map_of_mem hq)
 rw [zQf, zQr, aY hne]
theorem zKi : ∀ {F : List (Bl × Nat)}, (F.map (·.1)).Nodup -> zDy Try.prog 9 (encT F) = true
 | [], _ => rfl
 | p :: F, h => by
  rw [List.map_cons, List.nodup_cons] at h
  show (zDm Try.prog 9 (.string (mkS p.1)) (encT F) && ((encT F).all fun x => match eqK Try.prog 9 x.key { key := .string (mkS p.1), val := .int .i64 (p.2 : Int), born := 0 } with | some false => true | _ => false) && zDy Try.prog 9 (encT F)) = true
  rw [zUj (zEo.2 h.1), zKi h.2, Bool.true_and, Bool.and_true]
  refine aG.2 fun x hx => ?_
  obtain ⟨q, hq, rfl⟩ := List.mem_map.1 hx
  have hne : q.1 ≠ p.1 := fun e => h.1 (by rw [<- e]; exact List.mem_map_of_mem hq)
  show (match eqK Try.prog 9 (.string (mkS q.1)) { key := .string (mkS p.1), val := .int .i64 (p.2 : Int), born := 0 } with | some false => true | _ => false) = true
  rw [zQf, zQr, aY hne]
theorem born_of (F : List (Bl × Nat)) : ((encT F).all fun e => e.born.beq 0) = true := by
 refine aG.2 fun x hx => ?_
 obtain ⟨q, _, rfl⟩ := List.mem_map.1 hx; rfl
theorem keys_of (F : List (Bl × Nat)) : ((encT F).all fun e => keyOk Try.prog 9 false e.key) = true := by
 refine aG.2 fun x hx => ?_
 obtain ⟨q, _, rfl⟩ := List.mem_map.1 hx; exact zUv _ _
theorem zSn (T F : List (Bl × Nat)) : encT T ++ encT F = encT (T ++ F) := by unfold encT; rw [List.map_append]
theorem zSo (F : List (Bl × Nat)) : (encT F).length = F.length := by unfold encT; rw [aT]
theorem name_fn (a : Nat) (en : Nat) (T : List (Bl × Nat)) (ck : Nat) (B : Bl) (ha : a <= 65535) (hen : en <= a) (hT : goodT T) (hB : Nm B) (hlB : B.length <= 255) :
  ∃ r, FnS Try.prog 0 70 [pt 0, .int .i64 (a : Int), .string (mkS B)] (heap 2 [(0, .cells [.map (some 1), .int .i64 (en : Int)] 98), (1, .map (encT T) ck)]) 2 r /\
   ∃ H m wr b, r = .ret (.tuple #[sq b (packN T a B.length B 0).1.length U, .int .i64 0]) H m wr /\ (2 <= b /\ b < JJ /\ 0 ∈ wr /\ (1 ∈ wr \/ 1 ∉ wr /\ (packN T a B.length B 0).2 = [])) /\ H.get b = some (.cells ((packN T a B.length B 0).1.map byV) 5) /\
    H.get 0 = some (.cells [.map (some 1), .int .i64 ((a + (packN T a B.length B 0).1.length : Nat) : Int)] 98) /\ H.get 1 = some (.map (encT (T ++ (packN T a B.length B 0).2)) (ck + (packN T a B.length B 0).2.length)) := by
 have hsh : shortB (mkS B) = true := by unfold shortB; rw [zAr]; exact bL (by omega)
 have hlab : (labels (bs (mkS B))).2 = 0 := by rw [show bs (mkS B) = B from by simp [bs, mkS]]; exact (zAu B).2 ⟨hB, hlB⟩
 refine zBh mixed tbPk4 [1, 3, 900005, 900006] Try.func70 (c := bodyOf Try.f70) (by kernel_rfl) ?_
 refine aI hsh ?_
 refine ifK (fun g => by have g : ((labels (bs (mkS B))).2 != 0) = true := g; rw [hlab] at g; cases g) (fun _ => ?_)
 refine ifK (fun g => ab (oT g) (by omega)) (fun _ => ?_)
 refine ifK (fun g => ab (oT g) (by omega)) (fun _ => ?_)
 refine name_loop a (en : Int) T ck B ha hT hB hlB (rcq [2] ⟨(sP rfl rfl), (sI rfl), ⟨_, rfl, zAf 8 rfl⟩, ⟨_, rfl, .map _ _ rfl⟩, ⟨_, rfl, .string _⟩, tv⟩ ⟨⟨by decide, _, rfl, RO.cells [_, _] [] _ _ (.cons _ _ _ _ (.map _ _ rfl) (.cons _ _ _ _ (.int _ _) .nil))⟩, ⟨by decide, _, rfl, RO.map _ _ _ (zAh _)⟩, ⟨by decide, _, rfl, RO.map _ _ _ .nil⟩, tv⟩ .nil) ?_
 intro u us F f hR hl
 rw [<- hR]
 have hul : us.length + 1 <= 257 := hl
 have e2 : IntKind.i64.wrap ((a : Int) + ((us.length + 1 : Nat) : Int)) = ((a + (us.length + 1) : Nat) : Int) := by rw [zAp (by omega) (by omega)]; omega
 cases F with
 | nil =>
  refine zMx (zWy (L := pkL) (K := pkK) (b := 4) (m := 2) (since := 0) (ck := 0) (by kernel_rfl) (by kernel_rfl) (by kernel_rfl) (by kernel_rfl) (by kernel_rfl) (by kernel_rfl) (by kernel_rfl)) ?_ ?_ ?_
  ·exact aE (by kernel_rfl)
  ·exact all_lt (by kernel_rfl)
  refine ⟨_, _, _, 3, rfl, ⟨by decide, by decide, List.mem_of_elem_eq_true (by kernel_rfl), .inr ⟨not_elem (by kernel_rfl), rfl⟩⟩, rfl, ?_, ?_⟩
  ·show some (AObj.cells [.map (some 1), .int .i64 (IntKind.i64.wrap ((a : Int) + ((us.length + 1 : Nat) : Int)))] _) = _
   rw [e2]; rfl
  rw [aF]; rfl
 | cons p F =>
  obtain ⟨hf1, hnd⟩ := zHh T a B.length B 0
  rw [<- hR] at hf1 hnd
  have hbe : (Nat.beq (F.length + 1) (F.length + 1) && !(Nat.beq 2 4)) = true := by rw [show Nat.beq (F.length + 1) (F.length + 1) = true by simp]; rfl
  refine zMx (zWz (L := pkL) (K := pkK) (b := 4) (m := 2) (since := F.length + 1) (ck := F.length + 1) (B := 1) (ckB := ck) (e := { key := .string (mkS p.1), val := .int .i64 (p.2 : Int), born := 0 }) (es := encT F) (esB := encT T) (kt := 9) (et := 3) (by kernel_rfl) (by kernel_rfl) (by kernel_rfl) (by kernel_rfl) (by kernel_rfl) hbe (by kernel_rfl) (by kernel_rfl) (by kernel_rfl) (by kernel_rfl) (by kernel_rfl) (by kernel_rfl) ?_ ?_ ?_ ?_ ?_ ?_ ?_ ?_ (by kernel_rfl)) ?_ ?_ ?_
  ·exact zEq (p :: F)
  ·exact zEq T
  ·exact born_of (p :: F)
  ·exact keys_of (p :: F)
  ·refine aG.2 fun x hx => ?_
   have hx : x ∈ encT (p :: F) := hx
   obtain ⟨q, hq, rfl⟩ := List.mem_map.1 hx
   exact zUj (hf1 q hq).1
  ·exact zKi (F := p :: F) hnd
  ·refine aG.2 fun x hx => ?_
   have hx : x ∈ encT (p :: F) := hx
   obtain ⟨q, _, rfl⟩ := List.mem_map.1 hx
   exact Eq.trans (b := ((decide ((mkS q.1).data.toList = (mkS q.1).data.toList) && (decide (IntKind.i64 = IntKind.i64) && decide ((q.2 : Int) = (q.2 : Int)))) && true)) (by kernel_rfl) (by simp)
  ·refine aG.2 fun x hx => ?_
   have hx : x ∈ encT (p :: F) := hx
   obtain ⟨q, _, rfl⟩ := List.mem_map.1 hx
   exact Eq.trans (b := ((decide ((mkS q.1).data.toList = (mkS q.1).data.toList) && (decide (IntKind.i64 = IntKind.i64) && decide ((q.2 : Int) = (q.2 : Int)))) && true)) (by kernel_rfl) (by simp)
  ·exact aE (by kernel_rfl)
  ·exact all_lt (by kernel_rfl)
  refine ⟨_, _, _, 3, rfl, ⟨by decide, by decide, List.mem_of_elem_eq_true (by kernel_rfl), .inl (List.mem_of_elem_eq_true (by kernel_rfl))⟩, rfl, ?_, ?_⟩
  ·show some (AObj.cells [.map (some 1), .int .i64 (IntKind.i64.wrap ((a : Int) + ((us.length + 1 : Nat) : Int)))] _) = _
   rw [e2]; rfl
  show some (AObj.map (encT T ++ encT (p :: F)) (ck + (encT (p :: F)).length)) = _
  rw [zSn, zSo]
end
def pnE (en : Nat) (a : Int) (s : ByteArray) : Int := if (labels (bs s)).2 ≠ 0 then (labels (bs s)).2 else if a < 0 \/ a > 65535 then 2 else if a < en then 9 else 0
theorem nameE_fn (a : Int) (en : Nat) (T : List (Bl × Nat)) (ck : Nat) (s : ByteArray) (hs : shortB s = true) (he : pnE en a s ≠ 0) :
  ∃ r, FnS Try.prog 0 70 [pt 0, .int .i64 a, .string s] (heap 2 [(0, .cells [.map (some 1), .int .i64 (en : Int)] 98), (1, .map (encT T) ck)]) 2 r /\
   ∃ H m wr, r = .ret (.tuple #[.slice none 0 0, .int .i64 (pnE en a s)]) H m wr /\ ∀ k ∈ wr, 2 <= k := by
 refine zBh mixed tbPk4 [1, 3, 900005, 900006] Try.func70 (c := bodyOf Try.f70) (by kernel_rfl) ?_
 unfold pnE at he ⊢
 refine aI hs ?_
 refine ifK (fun g => ?_) (fun g => ?_)
 ·have g : (labels (bs s)).2 ≠ 0 := by have g : ((labels (bs s)).2 != 0) = true := g; simpa using g
  rw [if_pos g]; exact ⟨_, _, _, rfl, zGf rfl⟩
 have g : (labels (bs s)).2 = 0 := by have g : ((labels (bs s)).2 != 0) = false := g; simpa using g
 rw [if_neg (by simpa using g)] at he ⊢
 refine ifK (fun h1 => ?_) (fun h1 => ?_)
 ·have h1 := oT h1
  rw [if_pos (.inl h1)]; exact ⟨_, _, _, rfl, zGf rfl⟩
 have h1 := oF h1
 refine ifK (fun h2 => ?_) (fun h2 => ?_)
 ·have h2 := oT h2
  rw [if_pos (.inr h2)]; exact ⟨_, _, _, rfl, zGf rfl⟩
 have h2 := oF h2
 rw [if_neg (by omega)] at he ⊢
 refine ifK (fun h3 => ?_) (fun h3 => ?_)
 ·have h3 := oT h3
  rw [if_pos h3]; exact ⟨_, _, _, rfl, zGf rfl⟩
 have h3 := oF h3
 rw [if_neg h3] at he
 exact ab rfl he
theorem zOb : ∀ {T U : List (Bl × Nat)}, encT T = encT U -> T = U
 | [], [], _ => rfl
 | [], _ :: _, h => by cases h
 | _ :: _, [], h => by cases h
 | (a, i) :: T, (b, j) :: U, h => by
  have h : ({ key := Value.string (mkS a), val := .int .i64 (i : Int), born := 0 } : MapEntry) :: encT T = { key := .string (mkS b), val := .int .i64 (j : Int), born := 0 } :: encT U := h
  simp only [aQ, MapEntry.mk.injEq, Value.string.injEq, Value.int.injEq, true_and, and_true] at h
  obtain ⟨⟨h1, h2⟩, h3⟩ := h
  rw [zOr h1, zOb h3, show i = j by omega]
structure PkX where
 pb : Nat
 mb : Nat
 en : Nat
 T : List (Bl × Nat)
 ck : Nat
 a : Int
 s : ByteArray
 er : Bool
 o : Bl
 F : List (Bl × Nat)
theorem zKb {en : Nat} {a : Int} {s : ByteArray} (he : pnE en a s = 0) : ∃ k : Nat, a = (k : Int) /\ k <= 65535 /\ en <= k /\ Nm (bs s) /\ (bs s).length <= 255 /\ mkS (bs s) = s := by
 unfold pnE at he
 have hl : (labels (bs s)).2 = 0 := by
  by_cases h : (labels (bs s)).2 = 0
  ·exact h
  rw [if_pos h] at he; exact ab he h
 rw [if_neg (by simpa using hl)] at he
 have ha : ¬ (a < 0 \/ a > 65535) := fun h => by rw [if_pos h] at he; cases he
 rw [if_neg ha] at he
 have hen : ¬ a < en := fun h => by rw [if_pos h] at he; cases he
 obtain ⟨hB, hlB⟩ := (zAu (bs s)).1 hl
 exact ⟨a.toNat, by omega, by omega, by omega, hB, hlB, by simp [mkS, bs]⟩
def pnR (en : Nat) (T : List (Bl × Nat)) (a : Int) (s : ByteArray) (er : Bool) (o : Bl) (F : List (Bl × Nat)) : Prop := er = decide (pnE en a s ≠ 0) /\ (er = false -> packN T a.toNat (bs s).length (bs s) 0 = (o, F))
theorem pnR.ne {en : Nat} {T : List (Bl × Nat)} {a : Int} {s : ByteArray} {o : Bl} {F : List (Bl × Nat)} (h : pnR en T a s true o F) : pnE en a s ≠ 0 := oT h.1.symm
theorem pnR.eq {en : Nat} {T : List (Bl × Nat)} {a : Int} {s : ByteArray} {o : Bl} {F : List (Bl × Nat)} (h : pnR en T a s false o F) : pnE en a s = 0 := Decidable.not_not.1 (oF h.1.symm)
theorem pnR.uniq {en : Nat} {T : List (Bl × Nat)} {a : Int} {s : ByteArray} {er er' : Bool} {o o' : Bl} {F F' : List (Bl × Nat)} (h : pnR en T a s er o F) (k : pnR en T a s er' o' F') : er = er' /\ (er = false -> o = o' /\ F = F') := by
 obtain ⟨h1, h2⟩ := h
 obtain ⟨k1, k2⟩ := k
 have e : er = er' := h1.trans k1.symm
 subst e
 refine ⟨rfl, fun e => ?_⟩
 have := (h2 e).symm.trans (k2 e)
 simp only [Prod.mk.injEq] at this; exact this
theorem zSh {f : FuncId} {args args0 : List Value} {H H0 H' : Tr AObj} {n m pb mb b e0 ck k : Nat} {wr : List Nat} {T : List (Bl × Nat)} {r : Bl × List (Bl × Nat)} (hF : FnS Try.prog 0 f args0 H0 2 (.ret (.tuple #[sq b r.1.length U, .int .i64 0]) H' m wr))
  (hA : [pb, mb].Nodup) (hcb : CallB Try.prog [pb, mb] H H0) (harg : RL (caR [pb, mb]) args args0) (h2 : H.get pb = some (.cells [.map (some mb), .int .i64 (e0 : Int)] 98)) (h3 : H.get mb = some (.map (encT T) ck)) (hb2 : 2 <= b) (hbJ : b < JJ) (w0 : 0 ∈ wr) (w1 : 1 ∈ wr \/ 1 ∉ wr /\ r.2 = [])
  (g1 : H'.get b = some (.cells (r.1.map byV) 5)) (g2 : H'.get 0 = some (.cells [.map (some 1), .int .i64 ((k + r.1.length : Nat) : Int)] 98)) (g3 : H'.get 1 = some (.map (encT (T ++ r.2)) (ck + r.2.length))) (hw0 : ∀ j, j < 2 -> ∀ o, H0.get j = some o -> ¬ o.isWin) :
  CallOK Try.prog 0 f args H n (.ret (.tuple #[sq n r.1.length U, .int .i64 0]) (((H.set pb (some (.cells [.map (some mb), .int .i64 ((k + r.1.length : Nat) : Int)] 98))).set mb (some (.map (encT (T ++ r.2)) (ck + r.2.length)))).set n (some (.cells (r.1.map byV) 5))) (n + 1) [pb, mb]) := by
 have hne : pb ≠ mb := fun e => by subst e; simp at hA
 refine zCb (A := [pb, mb]) (B := [b]) rfl hF (zCs hA) (ArgOK.of harg) hcb (by simp) (fun x hx => by simp at hx; subst hx; exact ⟨hb2, hbJ⟩) (fun x hx => by simp at hx; subst hx; show H'.get x ≠ none; rw [g1]; simp)
  (.ret _ _ _ _ _ _ _ _ (.tuple _ _ (.cons _ _ _ _ (.sl _ _ _ _ _ (zGe (A := [pb, mb]) hb2)) (.cons _ _ _ _ (.int _ _) .nil)))) rfl ?_ ?_ ?_
 ·refine ⟨Nat.le_succ _, fun j hj hm => ?_, fun h0 => ?_⟩
  ·simp only [aK, List.not_mem_nil, or_false, not_or] at hm
   rw [Tr.get_set_ne _ _ (by omega), Tr.get_set_ne _ _ hm.2, Tr.get_set_ne _ _ hm.1]
  have l1 := h0.lt (k := pb) (by rw [h2]; simp)
  have l2 := h0.lt (k := mb) (by rw [h3]; simp)
  intro j hj
  rw [Tr.get_set_ne _ _ (by omega), Tr.get_set_ne _ _ (by omega), Tr.get_set_ne _ _ (by omega)]
  exact h0 j (by omega)
 ·intro j hj hl
  have hl : j < 2 := hl
  refine ⟨hw0 j hl, fun i hi => ?_⟩
  match j, hi with
  | 0, hi => cases hi; exact ⟨⟨_, h2, fun h => h⟩, by show pb ∈ [pb, mb]; simp⟩
  | 1, hi => cases hi; exact ⟨⟨_, h3, fun h => h⟩, by show mb ∈ [pb, mb]; simp⟩
  | j + 2, _ => omega
 intro j o h
 have h : (((H.set pb (some (.cells [.map (some mb), .int .i64 ((k + r.1.length : Nat) : Int)] 98))).set mb (some (.map (encT (T ++ r.2)) (ck + r.2.length)))).set n (some (.cells (r.1.map byV) 5))).get j = some o := h
 by_cases hjn : j = n
 ·subst hjn
  rw [Tr.get_set_self] at h
  cases h
  exact .inr ⟨b, _, zGe (A := [pb, mb]) hb2, g1, .same (zAa _), fun h => by have h : b < 2 := h; omega⟩
 rw [Tr.get_set_ne _ _ hjn] at h
 by_cases hjm : j = mb
 ·subst hjm
  rw [Tr.get_set_self] at h
  cases h
  rcases w1 with w1 | ⟨w1, hr⟩
  ·exact .inr ⟨1, _, rfl, g3, RO.map _ _ _ (zAh _), fun _ => w1⟩
  refine .inl ⟨by rw [hr, aF]; exact h3, fun i hi hm => ?_⟩
  match i, hi with
  | 0, hi => cases hi; exact hne rfl
  | 1, _ => exact w1 hm
  | i + 2, hi => simp at hi
 rw [Tr.get_set_ne _ _ hjm] at h
 by_cases hjp : j = pb
 ·subst hjp
  rw [Tr.get_set_self] at h
  cases h
  exact .inr ⟨0, _, rfl, g2, RO.cells [_, _] [] _ _ (.cons _ _ _ _ (.map _ _ rfl) (.cons _ _ _ _ (.int _ _) .nil)), fun _ => w0⟩
 rw [Tr.get_set_ne _ _ hjp] at h
 refine .inl ⟨h, fun i hi hm => ?_⟩
 match i, hi with
 | 0, hi => cases hi; exact hjp rfl
 | 1, hi => cases hi; exact hjm rfl
 | i + 2, hi => simp at hi
def PkX.res (x : PkX) (H : Tr AObj) (n : Nat) : Res := match x.er with
 | true => .ret (.tuple #[.slice none 0 0, .int .i64 (pnE x.en x.a x.s)]) H n []
 | false => .ret (.tuple #[sq n x.o.length U, .int .i64 0]) (((H.set x.pb (some (.cells [.map (some x.mb), .int .i64 ((x.a.toNat + x.o.length : Nat) : Int)] 98))).set x.mb (some (.map (encT (x.T ++ x.F)) (x.ck + x.F.length)))).set n (some (.cells (x.o.map byV) 5))) (n + 1) [x.pb, x.mb]
noncomputable def zNx : Ct Try.prog 0 :=
 CtR.ct { f := 70, X := PkX,
          pre := fun x as0 H _ => as0 = [.pointer (some ⟨x.pb, 0, none⟩), .int .i64 x.a, .string x.s] /\ H.get x.pb = some (.cells [.map (some x.mb), .int .i64 (x.en : Int)] 98) /\ H.get x.mb = some (.map (encT x.T) x.ck) /\ goodT x.T /\ shortB x.s = true /\ pnR x.en x.T x.a x.s x.er x.o x.F,
          out := PkX.res,
          tr := fun x H n K => match x.er with
           | true => K (.ret (.tuple #[.slice none 0 0, .int .i64 (pnE x.en x.a x.s)]) H n [])
           | false => frcN x.pb fun pb => frcN x.mb fun mb => K (.ret (.tuple #[sq n x.o.length U, .int .i64 0]) (((H.set pb (some (.cells [.map (some mb), .int .i64 ((x.a.toNat + x.o.length : Nat) : Int)] 98))).set mb (some (.map (encT (x.T ++ x.F)) (x.ck + x.F.length)))).set n (some (.cells (x.o.map byV) 5))) (n + 1) [pb, mb]),
          trOk := fun x H n K h => by
           obtain ⟨pb, mb, en, T, ck, a, s, er, o, F⟩ := x
           cases er with
           | true => exact h
           | false =>
            have h : (frcN pb fun pb => frcN mb fun mb => _) := h
            rw [zCe, zCe] at h
            exact h,
          ok := fun x as0 H n ⟨h1, h2, h3, h4, h5, h6⟩ => by
           subst h1
           obtain ⟨pb, mb, en, T, ck, a, s, er, o, F⟩ := x
           have h2 : H.get pb = some (.cells [.map (some mb), .int .i64 (en : Int)] 98) := h2
           have h3 : H.get mb = some (.map (encT T) ck) := h3
           have h6 : pnR en T a s er o F := h6
           have hne : pb ≠ mb := fun e => by subst e; rw [h2] at h3; cases h3
           have hA : [pb, mb].Nodup := by simp [hne]
           have hro1 : ∀ σ : Nat -> Nat -> Prop, σ mb 1 -> RO Try.prog σ (.cells [.map (some mb), .int .i64 (en : Int)] 98) (.cells [.map (some 1), .int .i64 (en : Int)] 98) := fun σ hσ => RO.cells [_, _] [] _ _ (.cons _ _ _ _ (.map _ _ hσ) (.cons _ _ _ _ (.int _ _) .nil))
           have hcb : CallB Try.prog [pb, mb] H (heap 2 [(0, .cells [.map (some 1), .int .i64 (en : Int)] 98), (1, .map (encT T) ck)]) := zCl ⟨⟨pb, _, rfl, h2, hro1 _ rfl⟩, ⟨mb, _, rfl, h3, RO.map _ _ _ (zAh _)⟩, tv⟩
           have harg : RL (caR [pb, mb]) [pt pb, .int .i64 a, .string s] [pt 0, .int .i64 a, .string s] := .cons _ _ _ _ (.ptr _ _ _ rfl) (.cons _ _ _ _ (.int _ _) (.cons _ _ _ _ (.string _) .nil))
           cases er with
           | true =>
            obtain ⟨r, hF, H', m, wr, rfl, hw⟩ := nameE_fn a en T ck s h5 h6.ne
            show CallOK Try.prog 0 _ _ H n (.ret _ H n [])
            exact zDa [pb, mb] hF hw (zCs hA) harg hcb rfl
           | false =>
            obtain ⟨k, rfl, hk, hen, hB, hlB, es⟩ := zKb h6.eq
            obtain ⟨r, hF, H', m, wr, b, rfl, ⟨hb2, hbJ, w0, w1⟩, g1, g2, g3⟩ := name_fn k en T ck (bs s) hk hen h4 hB hlB
            rw [es] at hF
            have ek := h6.2 rfl
            rw [aO] at ek
            rw [ek] at hF w1 g1 g2 g3
            exact zSh (r := (o, F)) hF hA hcb harg h2 h3 hb2 hbJ w0 w1 g1 g2 g3 (fun j hj o ho => by
             match j, hj, ho with
             | 0, _, ho => have ho : some (AObj.cells _ _) = some o := ho; cases ho; exact fun h => h
             | 1, _, ho => have ho : some (AObj.map _ _) = some o := ho; cases ho; exact fun h => h),
          uniq := fun x y as0 H n ⟨h1, h2, h3, _, _, h6⟩ ⟨k1, k2, k3, _, _, k6⟩ => by
           obtain ⟨pb, mb, en, T, ck, a, s, er, o, F⟩ := x
           obtain ⟨pb', mb', en', T', ck', a', s', er', o', F'⟩ := y
           rw [h1] at k1
           simp only [aQ, Value.pointer.injEq, aP, Addr.mk.injEq, and_true, Value.int.injEq, true_and, Value.string.injEq] at k1
           obtain ⟨rfl, rfl, rfl⟩ := k1
           have h2 : H.get pb = some (.cells [.map (some mb), .int .i64 (en : Int)] 98) := h2
           have k2 : H.get pb = some (.cells [.map (some mb'), .int .i64 (en' : Int)] 98) := k2
           rw [h2] at k2
           simp only [aP, AObj.cells.injEq, aQ, Value.map.injEq, Value.int.injEq, true_and, and_true] at k2
           obtain ⟨rfl, e⟩ := k2
           have e : en = en' := by omega
           subst e
           have h3 : H.get mb = some (.map (encT T) ck) := h3
           have k3 : H.get mb = some (.map (encT T') ck') := k3
           rw [h3] at k3
           simp only [aP, AObj.map.injEq] at k3
           obtain ⟨e1, rfl⟩ := k3
           have := zOb e1
           subst this
           obtain ⟨rfl, e⟩ := pnR.uniq h6 k6
           cases er with
           | true => rfl
           | false => obtain ⟨rfl, rfl⟩ := e rfl; rfl }
def layT : Lay (Bl × Nat) where
 g p := [.string (mkS p.1), .int .i64 (p.2 : Int)]
 k := 2
 t := 130
 len _ := rfl
 pos := by decide
 plain _ := rfl
 inj x y h := by
  obtain ⟨a, i⟩ := x
  obtain ⟨b, j⟩ := y
  simp only [aQ, Value.string.injEq, Value.int.injEq, true_and, and_true] at h
  rw [zOr h.1, show i = j by omega]
noncomputable def tbPk7 : Tb Try.prog 0 := tbOf mixed []
def plO (T : List (Bl × Nat)) (s : Bl) : Int := match lookT T s with | some k => (k : Int) | none => -1
def plS (T : List (Bl × Nat)) (c : Nat) (en : Int) (s : Bl) (i : Nat) (f : Nat -> Option Value) : Fs := ⟨slots 6 [(0, pt 0), (1, .string (mkS s)), (5, .int .i64 (i : Int))] f, heap 2 [(0, .cells [sq 1 T.length c, .int .i64 en] 74), (1, .cells (T.flatMap layT.g) 130)], 2, [], []⟩
theorem place_fn (T : List (Bl × Nat)) (c : Nat) (en : Int) (s : Bl) (hl : T.length <= 9223372036854775807) :
  ∃ r, FnS Try.prog 0 92 [pt 0, .string (mkS s)] (heap 2 [(0, .cells [sq 1 T.length c, .int .i64 en] 74), (1, .cells (T.flatMap layT.g) 130)]) 2 r /\ ∃ H m wr, r = .ret (.int .i64 (plO T s)) H m wr /\ ∀ k ∈ wr, 2 <= k := by
 have hsz : (Try.prog.types[130]).size = 2 := by kernel_rfl
 have pl : plainL (T.flatMap layT.g) = true := zAc layT.g layT.plain _
 have hbox : ∀ σ : Nat -> Nat -> Prop, σ 1 1 -> RO Try.prog σ (.cells [sq 1 T.length c, .int .i64 en] 74) (.cells [sq 1 T.length c, .int .i64 en] 74) := fun σ h => RO.cells [_, _] [] _ _ (.cons _ _ _ _ (.sl _ _ _ _ _ h) (.cons _ _ _ _ (.int _ _) .nil))
 refine zBh mixed tbPk7 [1] Try.func92 (c := bodyOf Try.f92) (by kernel_rfl) ?_
 refine zAn (plS T c en s) (fun i => T.length - i) (fun i => i <= T.length /\ lookT T s = lookT (T.drop i) s) 0 ⟨aH _, rfl⟩
  (rcq [] ⟨(sP rfl rfl), ⟨_, rfl, .string _⟩, (sI rfl), tv⟩ ⟨⟨by decide, _, rfl, hbox _ rfl⟩, bpo (pl), tv⟩ .nil) ?_
 rintro i f ⟨hi, heq⟩
 have hi : i <= T.length := hi
 refine zAm tbPk7 [1] 2 _ none mixed _ _ _ ?_
 refine ifK (fun h1 => ?_) (fun h1 => ?_)
 ·have h1 : i < T.length := by have h1 : ((i : Nat) : Int) < (T.length : Int) := oT h1; omega
  obtain ⟨x, hx⟩ : ∃ x, T[i] = x := ⟨_, rfl⟩
  have hd : T.drop i = x :: T.drop (i + 1) := by rw [bD h1, hx]
  rw [hd] at heq
  have c0 := RdL.cell layT [] [] T i 0 h1 (by decide)
  have c1 := RdL.cell layT [] [] T i 1 h1 (by decide)
  rw [hx, aF, List.nil_append] at c0 c1
  refine ifK (fun _ => ?_) (fun h2 => ab h2 (by simp [inI]; omega))
  refine eI (mkS x.1) (aI (by rw [hsz, aO]; exact c0) ?_)
  refine ifK (fun g => ?_) (fun g => ?_)
  ·have g : s = x.1 := by
    have g : ((mkS x.1).data.toList == (mkS s).data.toList) = true := g
    have g := eq_of_beq g
    simpa [mkS] using g.symm
   refine ifK (fun _ => ?_) (fun h2 => ab h2 (by simp [inI]; omega))
   refine eI (x.2 : Int) (aI (by rw [hsz, aO]; exact c1) ?_)
   have e : plO T s = x.2 := by unfold plO; rw [heq]; unfold lookT; rw [if_pos g]
   rw [e]
   refine aI rfl (zAg (rcq [] (d := 6) (d2 := 0) (lv := [(4, .int .i64 (x.2 : Int))]) (bs := []) (W := []) (m := 2) (df := []) ⟨(sI rfl), tv⟩ trivial .nil) (fun f => ?_))
   exact ⟨_, _, _, rfl, zGf rfl⟩
  have g : s ≠ x.1 := fun e => by
   have g : ((mkS x.1).data.toList == (mkS s).data.toList) = false := g
   rw [e] at g; simp at g
  refine ⟨i + 1, ⟨h1, ?_⟩, by show T.length - (i + 1) < T.length - i; omega, rcq [] ⟨(sP rfl rfl), ⟨_, rfl, .string _⟩, zAb rfl (by rw [wrapN (by omega) (by omega)]; omega), tv⟩ ⟨⟨by decide, _, rfl, hbox _ rfl⟩, bpo (pl), tv⟩ .nil⟩
  rw [heq]; exact if_neg g
 have h1 : ¬ i < T.length := fun e => ab (show ((i : Nat) : Int) < (T.length : Int) by omega) (oF h1)
 have e : plO T s = -1 := by unfold plO; rw [heq, bE (by omega)]; rfl
 rw [e]
 refine aI rfl (zAg (rcq [] (d := 6) (d2 := 0) (lv := []) (bs := []) (W := []) (m := 2) (df := []) trivial trivial .nil) (fun f => ?_))
 exact ⟨_, _, _, rfl, zGf rfl⟩
theorem place0_fn (en : Int) (s : Bl) :
  ∃ r, FnS Try.prog 0 92 [pt 0, .string (mkS s)] (heap 1 [(0, .cells [.slice none 0 0, .int .i64 en] 74)]) 1 r /\ ∃ H m wr, r = .ret (.int .i64 (-1)) H m wr /\ ∀ k ∈ wr, 1 <= k := by
 refine zBh mixed tbPk7 [] Try.func92 (c := bodyOf Try.f92) (by kernel_rfl) ?_
 refine LW.round ?_
 refine zAm tbPk7 [] 1 _ none mixed _ _ _ ?_
 exact ⟨_, _, _, rfl, zGf rfl⟩
structure PlX where
 pb : Nat
 v : Option (Nat × Nat)
 T : List (Bl × Nat)
 en : Int
 s : Bl
def plV (v : Option (Nat × Nat)) (T : List (Bl × Nat)) : Value := match v with
 | none => .slice none 0 0
 | some (b, c) => sq b T.length c
def plAt (v : Option (Nat × Nat)) (T : List (Bl × Nat)) (H : Tr AObj) : Prop := match v with
 | none => T = []
 | some (b, _) => H.get b = some (.cells (T.flatMap layT.g) 130)
noncomputable def ct_place : Ct Try.prog 0 :=
 CtR.ct { f := 92, X := PlX,
          pre := fun x as0 H _ => as0 = [.pointer (some ⟨x.pb, 0, none⟩), .string (mkS x.s)] /\ H.get x.pb = some (.cells [plV x.v x.T, .int .i64 x.en] 74) /\ plAt x.v x.T H /\ x.T.length <= 9223372036854775807,
          out := fun x H n => .ret (.int .i64 (plO x.T x.s)) H n [],
          ok := fun x as0 H n ⟨h1, h2, h3, h4⟩ => by
           subst h1
           obtain ⟨pb, v, T, en, s⟩ := x
           show CallOK Try.prog 0 _ _ H n (.ret (.int .i64 (plO T s)) H n [])
           cases v with
           | none =>
            have h3 : T = [] := h3
            subst h3
            have h2 : H.get pb = some (.cells [.slice none 0 0, .int .i64 en] 74) := h2
            obtain ⟨r, hF, H', m, wr, rfl, hw⟩ := place0_fn en s
            exact zDa [pb] hF hw zSl (.cons _ _ _ _ (.ptr _ _ _ rfl) (.cons _ _ _ _ (.string _) .nil)) (zCl ⟨⟨pb, _, rfl, h2, .same rfl⟩, tv⟩) rfl
           | some p =>
            obtain ⟨b, c⟩ := p
            have h2 : H.get pb = some (.cells [sq b T.length c, .int .i64 en] 74) := h2
            have h3 : H.get b = some (.cells (T.flatMap layT.g) 130) := h3
            have hne : pb ≠ b := fun e => by
             subst e; rw [h2] at h3
             have : (74 : Nat) = 130 := by
              simp only [aP, AObj.cells.injEq] at h3; exact h3.2
             exact ab this (by decide)
            obtain ⟨r, hF, H', m, wr, rfl, hw⟩ := place_fn T c en s h4
            exact zDa [pb, b] hF hw (zCs (by simp [hne])) (.cons _ _ _ _ (.ptr _ _ _ rfl) (.cons _ _ _ _ (.string _) .nil)) (zCl ⟨⟨pb, _, rfl, h2, RO.cells [_, _] [] _ _ (.cons _ _ _ _ (.sl _ _ _ _ _ rfl) (.cons _ _ _ _ (.int _ _) .nil))⟩, ⟨b, _, rfl, h3, .same (zAc layT.g layT.plain _)⟩, tv⟩) rfl,
          uniq := fun x y as0 H n ⟨h1, h2, h3, _⟩ ⟨k1, k2, k3, _⟩ => by
           obtain ⟨pb, v, T, en, s⟩ := x
           obtain ⟨pb', v', T', en', s'⟩ := y
           rw [h1] at k1
           simp only [aQ, Value.pointer.injEq, aP, Addr.mk.injEq, and_true, Value.string.injEq] at k1
           obtain ⟨rfl, e⟩ := k1
           have e := zOr e
           subst e
           have h2 : H.get pb = some (.cells [plV v T, .int .i64 en] 74) := h2
           have k2 : H.get pb = some (.cells [plV v' T', .int .i64 en'] 74) := k2
           rw [h2] at k2
           simp only [aP, AObj.cells.injEq, aQ, and_true] at k2
           have hv := k2.1
           have : T = T' := by
            cases v with
            | none => cases v' with
             | none => have h3 : T = [] := h3; have k3 : T' = [] := k3; rw [h3, k3]
             | some p => cases hv
            | some p => cases v' with
             | none => cases hv
             | some q =>
              obtain ⟨b, c⟩ := p
              obtain ⟨b', c'⟩ := q
              simp only [plV, Value.slice.injEq, aP, Addr.mk.injEq, and_true] at hv
              obtain ⟨rfl, _, _⟩ := hv
              have h3 : H.get b = some (.cells (T.flatMap layT.g) 130) := h3
              have k3 : H.get b = some (.cells (T'.flatMap layT.g) 130) := k3
              rw [h3] at k3
              simp only [aP, AObj.cells.injEq, and_true] at k3
              exact layT.flat_inj _ _ k3
           rw [this] }
noncomputable def tbPk9 : Tb Try.prog 0 := tbOf mixed [zFr, ct_place]
def rpE (a : Nat) (en : Int) (T : List (Bl × Nat)) (cL : Nat) (B : Bl) (out : Bl) (F : List (Bl × Nat)) (i : Nat) (f : Nat -> Option Value) : Fs := match out, F with
 | [], _ => ⟨slots 7 [(0, pt 0), (1, .int .i64 (a : Int)), (2, .string (mkS B)), (9, .slice none 0 0), (10, .slice none 0 0), (11, .int .i64 (i : Int))] f, heap 3 [(0, .cells [sq 1 T.length cL, .int .i64 en] 74), (1, .cells (T.flatMap layT.g) 130)], 2, [], []⟩
 | u :: us, [] => ⟨slots 7 [(0, pt 0), (1, .int .i64 (a : Int)), (2, .string (mkS B)), (9, sq 2 (us.length + 1) U), (10, .slice none 0 0), (11, .int .i64 (i : Int))] f, heap 3 [(0, .cells [sq 1 T.length cL, .int .i64 en] 74), (1, .cells (T.flatMap layT.g) 130), (2, .cells ((u :: us).map byV) 5)], 3, [], []⟩
 | u :: us, p :: F => ⟨slots 7 [(0, pt 0), (1, .int .i64 (a : Int)), (2, .string (mkS B)), (9, sq 2 (us.length + 1) U), (10, sq 3 (F.length + 1) U), (11, .int .i64 (i : Int))] f, heap 3 [(0, .cells [sq 1 T.length cL, .int .i64 en] 74), (1, .cells (T.flatMap layT.g) 130), (2, .cells ((u :: us).map byV) 5), (3, .cells ((p :: F).flatMap layT.g) 130)], 4, [], []⟩
def rpS (a : Nat) (en : Int) (T : List (Bl × Nat)) (cL : Nat) (B : Bl) (x : Bl × List (Bl × Nat)) (f : Nat -> Option Value) : Fs := rpE a en T cL B x.1 x.2 x.1.length f
theorem hi_ref {k : Nat} (h : k < 16384) : IntKind.u8.wrap (IntKind.i64.wrap (192 + IntKind.i64.wrap ((k : Int).tdiv 256))) = ((hi8 (49152 + k)).toNat : Int) := by
 have e : (k : Int).tdiv 256 = ((k / 256 : Nat) : Int) := by rw [Int.tdiv_eq_ediv_of_nonneg (by omega)]; rfl
 have e2 : 192 + ((k / 256 : Nat) : Int) = ((192 + k / 256 : Nat) : Int) := by omega
 rw [e, zAp (x := ((k / 256 : Nat) : Int)) (by omega) (by omega), e2, zAp (x := ((192 + k / 256 : Nat) : Int)) (by omega) (by omega), wrap8, zMt]
theorem lo_ref (k : Nat) : IntKind.u8.wrap ((k : Int).tmod 256) = ((lo8 (49152 + k)).toNat : Int) := by
 have e : (k : Int).tmod 256 = ((k % 256 : Nat) : Int) := by rw [Int.tmod_eq_emod_of_nonneg (by omega)]; rfl
 rw [e, wrap8, zMw]
theorem zXi (a : Nat) (en : Int) (T : List (Bl × Nat)) (cL : Nat) (B : Bl) (ha : a <= 65535) (hT : goodT T) (hTl : T.length <= 9223372036854775807) (hB : Nm B) (hlB : B.length <= 255) {s0 : Fs} {K : Ex -> Fs -> Prop}
  (h0 : ∃ f, RcM Try.prog 0 2 (3 + (Try.f75.ntmps - 3)) none s0 (rpS a en T cL B ([], []) f))
  (hex : ∀ out F i f, i < B.length -> (out = [] -> F = []) -> (B.getD i 0 = 0 /\ (out ++ [0], F) = packN T a B.length B 0 \/ B.getD i 0 ≠ 0 /\ (out, F) = packN T a B.length B 0) -> out.length <= 257 -> K (.exit 0) (rpE a en T cL B out F i f)) :
  LW Try.prog 0 2 (3 + (Try.f75.ntmps - 3)) none (loopAt Try.f75 0) s0 K := by
 have h1s : (Try.prog.types[5]).size = 1 := by kernel_rfl
 have hby : (Try.prog.types[5]).bytes = 1 := by kernel_rfl
 have h2s : (Try.prog.types[130]).size = 2 := by kernel_rfl
 have h2b : (Try.prog.types[130]).bytes = 24 := by kernel_rfl
 have pT : plainL (T.flatMap layT.g) = true := zAc layT.g layT.plain _
 obtain ⟨R, hR⟩ : ∃ R, packN T a B.length B 0 = R := ⟨_, rfl⟩
 rw [hR] at hex
 refine zAn (rpS a en T cL B) (fun x => B.length - x.1.length) (fun x => x.1.length <= B.length /\ Nm (B.drop x.1.length) /\ (x.1 = [] -> x.2 = []) /\ x.2.length <= x.1.length /\ ∃ f, (B.drop x.1.length).length <= f /\ (x.1 ++ (packN T a f (B.drop x.1.length) x.1.length).1, x.2 ++ (packN T a f (B.drop x.1.length) x.1.length).2) = R) ([], []) ⟨aH _, hB, fun _ => rfl, aJ _, B.length, aJ _, hR⟩ h0 ?_
 rintro ⟨out, F⟩ f ⟨hib, hnm, hoF, hFl, fu, hfu, hpk⟩
 have hib : out.length <= B.length := hib
 have hoF : out = [] -> F = [] := hoF
 have hFl : F.length <= out.length := hFl
 obtain ⟨t, ht⟩ : ∃ t, B.drop out.length = t := ⟨_, rfl⟩
 have hnm : Nm (B.drop out.length) := hnm
 have hfu : (B.drop out.length).length <= fu := hfu
 have hpk : (out ++ (packN T a fu (B.drop out.length) out.length).1, F ++ (packN T a fu (B.drop out.length) out.length).2) = R := hpk
 rw [ht] at hnm hfu hpk
 have htl : t.length = B.length - out.length := by rw [<- ht, aM]
 have hpos := hnm.pos
 obtain ⟨fu, rfl⟩ : ∃ g, fu = g + 1 := ⟨fu - 1, by omega⟩
 obtain ⟨c, hc⟩ : ∃ c, (t.getD 0 0).toNat = c := ⟨_, rfl⟩
 have hcl : c <= 63 := by rw [<- hc]; cases hnm <;> simp <;> omega
 have hct : c ≠ 0 -> c + 1 < t.length /\ Nm (t.drop (c + 1)) := fun h => by
  cases hnm with
  | root => exact ab (show c = 0 by rw [<- hc]; rfl) h
  | lab c' x r h1 h2 hx hr =>
   have hc : c'.toNat = c := hc
   have e : (c' :: (x ++ r)).drop (c + 1) = r := by rw [List.drop_succ_cons, <- hc, <- hx, List.drop_left]
   refine ⟨?_, by rw [e]; exact hr⟩
   have := hr.pos
   simp; omega
 have hB0 : B.getD out.length 0 = t.getD 0 0 := by rw [<- ht]; simp [List.getD_eq_getElem?_getD]
 have FACT : ∀ I : Int, I = (out.length : Int) -> inI I (mkS B).data.size = true /\ ((atS (mkS B) I).toNat : Int) = (c : Int) /\ inLH I ((mkS B).data.size : Int) (mkS B).data.size = true /\ subS (mkS B) I.toNat (((mkS B).data.size : Int)).toNat = mkS t /\
   IntKind.i64.wrap (IntKind.i64.wrap (I + 1) + IntKind.i64.wrap ((atS (mkS B) I).toNat : Int)) = ((out.length + c + 1 : Nat) : Int) /\ (c ≠ 0 -> inLH I (IntKind.i64.wrap (IntKind.i64.wrap (I + 1) + IntKind.i64.wrap ((atS (mkS B) I).toNat : Int))) (mkS B).data.size = true) /\
   (subS (mkS B) I.toNat (IntKind.i64.wrap (IntKind.i64.wrap (I + 1) + IntKind.i64.wrap ((atS (mkS B) I).toNat : Int))).toNat).data.toList = t.take (c + 1) /\ IntKind.i64.wrap ((a : Int) + I) = ((a + out.length : Nat) : Int) := fun I hI => by
  subst hI
  have e1 : ((atS (mkS B) (out.length : Int)).toNat : Int) = (c : Int) := by rw [zKk, hB0, hc]
  have e2 : IntKind.i64.wrap (IntKind.i64.wrap ((out.length : Int) + 1) + IntKind.i64.wrap ((atS (mkS B) (out.length : Int)).toNat : Int)) = ((out.length + c + 1 : Nat) : Int) := by
   rw [e1, zAp (x := (out.length : Int) + 1) (by omega) (by omega), zAp (x := (c : Int)) (by omega) (by omega), zAp (by omega) (by omega)]; omega
  refine ⟨by rw [zAr]; simp [inI]; omega, e1, by rw [zAr]; simp [inLH]; omega, ?_, e2, fun h => ?_, ?_, ?_⟩
  ·rw [zAr, aO, aO]; simp [subS, mkS, ht]
  ·have := (hct h).1
   rw [e2, zAr]; simp [inLH]; omega
  ·rw [e2, aO, aO]
   simp only [subS, mkS]
   rw [<- ht]
   rw [show out.length + c + 1 = out.length + (c + 1) by omega, List.drop_take]
   simp
  rw [zAp (by omega) (by omega)]; omega
 have hel : c ≠ 0 -> (t.take (c + 1)).length = c + 1 := fun h => by have := (hct h).1; rw [aU]; omega
 unfold packN at hpk
 simp only [hc] at hpk
 have hbox : ∀ σ : Nat -> Nat -> Prop, σ 1 1 -> RO Try.prog σ (.cells [sq 1 T.length cL, .int .i64 en] 74) (.cells [sq 1 T.length cL, .int .i64 en] 74) := fun σ h => RO.cells [_, _] [] _ _ (.cons _ _ _ _ (.sl _ _ _ _ _ h) (.cons _ _ _ _ (.int _ _) .nil))
 cases out with
 | nil =>
  have hF0 : F = [] := hoF rfl
  subst hF0
  obtain ⟨k1, k2, k3, k4, k5, k6, k7, k8⟩ := FACT 0 rfl
  obtain ⟨_, _, _, _, l5, _, l7, _⟩ := FACT ((List.length (([] : Bl), ([] : List (Bl × Nat))).fst : Nat) : Int) rfl
  refine zAm tbPk9 [1, 2, 3] 2 _ none mixed _ _ _ ?_
  refine aI k1 ?_
  refine ifK (fun h1 => ?_) (fun h1 => ?_)
  ·have h1 : c ≠ 0 := fun e => by have h1 : (((atS (mkS B) 0).toNat : Int) != 0) = true := h1; rw [k2, e] at h1; cases h1
   rw [if_neg h1] at hpk
   refine aI k3 ?_
   refine eI (⟨0, some (1, cL), T, en, t⟩ : PlX) (aI ⟨by show [Value.pointer _, Value.string (subS (mkS B) (Int.toNat 0) (((mkS B).data.size : Int)).toNat)] = _; rw [k4], rfl, rfl, hTl⟩ ?_)
   cases hlk : lookT T t with
   | some k =>
    have hpl : plO T t = (k : Int) := by unfold plO; rw [hlk]
    have hk : k < 16384 := hT.2 _ (zEn hlk)
    rw [hlk] at hpk
    refine ifK (fun _ => ?_) (fun g => ab (oF g) (by rw [hpl]; omega))
    have q1 : IntKind.u8.wrap (IntKind.i64.wrap (192 + IntKind.i64.wrap ((plO T t).tdiv 256))) = ((hi8 (49152 + k)).toNat : Int) := by rw [hpl]; exact hi_ref hk
    have q2 : IntKind.u8.wrap ((plO T t).tmod 256) = ((lo8 (49152 + k)).toNat : Int) := by rw [hpl]; exact lo_ref k
    refine eI ([hi8 (49152 + k), lo8 (49152 + k)].map byV) (aI (by rw [h1s]; show some (2, [Value.int .u8 (IntKind.u8.wrap (IntKind.i64.wrap (192 + IntKind.i64.wrap ((plO T t).tdiv 256)))), Value.int .u8 (IntKind.u8.wrap ((plO T t).tmod 256))]) = _; rw [q1, q2]; rfl) ?_)
    refine aI (by kernel_rfl) ?_
    refine aI rfl (zAg (rcq [3] (d := 7) (d2 := 3) (lv := [(0, pt 0), (1, .int .i64 (a : Int)), (2, .string (mkS B)), (9, sq 2 (1 + 1) U), (10, .slice none 0 0), (11, .int .i64 ((0 : Nat) : Int))]) (bs := [(0, .cells [sq 1 T.length cL, .int .i64 en] 74), (1, .cells (T.flatMap layT.g) 130), (2, .cells ([hi8 (49152 + k), lo8 (49152 + k)].map byV) 5)]) (W := []) (m := 3) (df := []) ⟨(sP rfl rfl), (sI rfl), ⟨_, rfl, .string _⟩, (sL rfl rfl), ⟨_, rfl, zAf 8 rfl⟩, (sI rfl), tv⟩ ⟨⟨by decide, _, rfl, hbox _ rfl⟩, bpo (pT), bpo rfl, tv⟩ .nil) (fun f => ?_))
    refine hex [hi8 (49152 + k), lo8 (49152 + k)] [] 0 f (by simp at htl; omega) (fun h => rfl) (.inr ⟨?_, ?_⟩) (by simp)
    ·rw [show B.getD 0 0 = t.getD 0 0 from hB0]; exact fun e => h1 (by rw [<- hc, e]; rfl)
    rw [<- hpk, zMt, zMw]; simp
   | none =>
    have hpl : plO T t = -1 := by unfold plO; rw [hlk]
    rw [hlk] at hpk
    refine ifK (fun g => ab (oT g) (by rw [hpl]; decide)) (fun _ => ?_)
    refine ifK (fun g => ?_) (fun g => ?_)
    ·have g : a + 0 < 16384 := by have g : decide (IntKind.i64.wrap ((a : Int) + 0) < 16384) = true := g; rw [k8] at g; have := oT g; simp at this; omega
     refine aI k3 ?_
     refine eI [Value.string (mkS t), .int .i64 (a : Int)] (aI (by rw [h2s]; show some (1, [Value.string (subS (mkS B) (Int.toNat 0) (((mkS B).data.size : Int)).toNat), Value.int .i64 (IntKind.i64.wrap ((a : Int) + 0))]) = _; rw [k4, k8]; rfl) ?_)
     refine aI (by kernel_rfl) ?_
     refine aI k1 ?_
     refine aI (k6 h1) ?_
     refine ifK (fun g => ab (aA g) (by rw [l7, hel h1]; omega)) (fun _ => ?_)
     refine aI (by rw [l7, hel h1, hby, aX (by omega), aX (by omega)]; rfl) ?_
     obtain ⟨u, us, hu⟩ : ∃ u us, t.take (c + 1) = u :: us := by
      have := hel h1
      cases hq : t.take (c + 1) with
      | nil => rw [hq] at this; cases this
      | cons u us => exact ⟨u, us, rfl⟩
     have hul : (u :: us).length = 0 + c + 1 := by rw [<- hu, hel h1]; omega
     have hul2 : (([] : Bl).length + c + 1 : Nat) = us.length + 1 := by simp at hul; simp; omega
     have hc1 := hct h1
     have hdr : B.drop (u :: us).length = t.drop (c + 1) := by rw [hul, <- ht]; simp
     refine ⟨(u :: us, [(t, a)]), ⟨?_, ?_, ?_, ?_, fu, ?_, ?_⟩, ?_, ?_⟩
     ·show (u :: us).length <= B.length
      rw [hul]; simp at htl; omega
     ·show Nm (B.drop (u :: us).length)
      rw [hdr]; exact hc1.2
     ·intro h; cases h
     ·show List.length _ <= (u :: us).length
      rw [hul]; simp
     ·show (B.drop (u :: us).length).length <= fu
      rw [hdr, aM]; omega
     ·show ((u :: us) ++ (packN T a fu (B.drop (u :: us).length) (u :: us).length).1, [(t, a)] ++ (packN T a fu (B.drop (u :: us).length) (u :: us).length).2) = R
      rw [hdr]
      have hpk : ([] ++ (t.take (c + 1) ++ (packN T a fu (t.drop (c + 1)) (0 + c + 1)).1), [] ++ (if a + 0 < 16384 then (t, a + 0) :: (packN T a fu (t.drop (c + 1)) (0 + c + 1)).2 else (packN T a fu (t.drop (c + 1)) (0 + c + 1)).2)) = R := hpk
      rw [<- hpk, hul]; simp only [if_pos g]; simp [<- hu, aN]
     ·show B.length - (u :: us).length < B.length - 0
      rw [hul]; omega
     exact rcq [4, 3] ⟨(sP rfl rfl), (sI rfl), ⟨_, rfl, .string _⟩, ⟨_, rfl, by rw [l7, hu]; exact .sl _ _ _ _ _ rfl⟩, (sL rfl rfl), ⟨_, rfl, by rw [l5, hul2]; exact .int _ _⟩, tv⟩ ⟨⟨by decide, _, rfl, hbox _ rfl⟩, bpo (pT), ⟨by decide, _, rfl, by rw [l7, hu]; exact .same (zAa (u :: us))⟩, bpo rfl, tv⟩ .nil
    have g : ¬ a + 0 < 16384 := fun hlt => by have g : decide (IntKind.i64.wrap ((a : Int) + 0) < 16384) = false := g; rw [k8] at g; exact ab (show ((a + ([] : Bl).length : Nat) : Int) < 16384 by simp; omega) (oF g)
    refine aI k1 ?_
    refine aI (k6 h1) ?_
    refine ifK (fun g => ab (aA g) (by rw [l7, hel h1]; omega)) (fun _ => ?_)
    refine aI (by rw [l7, hel h1, hby, aX (by omega), aX (by omega)]; rfl) ?_
    obtain ⟨u, us, hu⟩ : ∃ u us, t.take (c + 1) = u :: us := by
     have := hel h1
     cases hq : t.take (c + 1) with
     | nil => rw [hq] at this; cases this
     | cons u us => exact ⟨u, us, rfl⟩
    have hul : (u :: us).length = 0 + c + 1 := by rw [<- hu, hel h1]; omega
    have hul2 : (([] : Bl).length + c + 1 : Nat) = us.length + 1 := by simp at hul; simp; omega
    have hc1 := hct h1
    have hdr : B.drop (u :: us).length = t.drop (c + 1) := by rw [hul, <- ht]; simp
    refine ⟨(u :: us, []), ⟨?_, ?_, ?_, ?_, fu, ?_, ?_⟩, ?_, ?_⟩
    ·show (u :: us).length <= B.length
     rw [hul]; simp at htl; omega
    ·show Nm (B.drop (u :: us).length)
     rw [hdr]; exact hc1.2
    ·intro h; cases h
    ·show List.length _ <= (u :: us).length
     rw [hul]; simp
    ·show (B.drop (u :: us).length).length <= fu
     rw [hdr, aM]; omega
    ·show ((u :: us) ++ (packN T a fu (B.drop (u :: us).length) (u :: us).length).1, [] ++ (packN T a fu (B.drop (u :: us).length) (u :: us).length).2) = R
     rw [hdr]
     have hpk : ([] ++ (t.take (c + 1) ++ (packN T a fu (t.drop (c + 1)) (0 + c + 1)).1), [] ++ (if a + 0 < 16384 then (t, a + 0) :: (packN T a fu (t.drop (c + 1)) (0 + c + 1)).2 else (packN T a fu (t.drop (c + 1)) (0 + c + 1)).2)) = R := hpk
     rw [<- hpk, hul]; simp only [if_neg g]; simp [<- hu, aN]
    ·show B.length - (u :: us).length < B.length - 0
     rw [hul]; omega
    exact rcq [2] ⟨(sP rfl rfl), (sI rfl), ⟨_, rfl, .string _⟩, ⟨_, rfl, by rw [l7, hu]; exact .sl _ _ _ _ _ rfl⟩, ⟨_, rfl, zAf 8 rfl⟩, ⟨_, rfl, by rw [l5, hul2]; exact .int _ _⟩, tv⟩ ⟨⟨by decide, _, rfl, hbox _ rfl⟩, bpo (pT), ⟨by decide, _, rfl, by rw [l7, hu]; exact .same (zAa (u :: us))⟩, tv⟩ .nil
  have h1 : c = 0 := by have h1 : (((atS (mkS B) 0).toNat : Int) != 0) = false := h1; rw [k2] at h1; have : (c : Int) = 0 := by simpa using h1
                        omega
  rw [if_pos h1] at hpk
  refine aI rfl (zAg (rcq [] (d := 7) (d2 := 3) (lv := [(0, pt 0), (1, .int .i64 (a : Int)), (2, .string (mkS B)), (9, .slice none 0 0), (10, .slice none 0 0), (11, .int .i64 ((0 : Nat) : Int))]) (bs := [(0, .cells [sq 1 T.length cL, .int .i64 en] 74), (1, .cells (T.flatMap layT.g) 130)]) (W := []) (m := 2) (df := []) ⟨(sP rfl rfl), (sI rfl), ⟨_, rfl, .string _⟩, ⟨_, rfl, zAf 8 rfl⟩, ⟨_, rfl, zAf 8 rfl⟩, (sI rfl), tv⟩ ⟨⟨by decide, _, rfl, hbox _ rfl⟩, bpo (pT), tv⟩ .nil) (fun f => ?_))
  refine hex [] [] 0 f (by simp at htl; omega) (fun _ => rfl) (.inl ⟨?_, ?_⟩) (by decide)
  ·rw [show B.getD 0 0 = t.getD 0 0 from hB0]; exact UInt8.toNat_inj.1 (by rw [hc, h1]; rfl)
  rw [<- hpk]; simp
 | cons u us =>
  have hlen2 : (u :: us).length <= 255 := by omega
  have hlen3 : us.length + 1 <= 255 := hlen2
  obtain ⟨j1, j2, j3, j4, j5, j6, j7, j8⟩ := FACT ((us.length + 1 : Nat) : Int) rfl
  have hst : oneL ((t.take (c + 1)).map byV) = true := by unfold oneL; exact aG.2 (fun v hv => by obtain ⟨b, _, rfl⟩ := List.mem_map.1 hv; rfl)
  obtain ⟨k1, k2, k3, l4, l5, k6, l7, l8⟩ := FACT ((List.length (u :: us, F).fst : Nat) : Int) rfl
  cases F with
  | nil =>
   refine zAm tbPk9 [1, 2, 3] 2 _ none mixed _ _ _ ?_
   refine aI k1 ?_
   refine ifK (fun h1 => ?_) (fun h1 => ?_)
   ·have h1 : c ≠ 0 := fun e => by have h1 : (((atS (mkS B) ((us.length + 1 : Nat) : Int)).toNat : Int) != 0) = true := h1; rw [j2, e] at h1; cases h1
    rw [if_neg h1] at hpk
    refine aI k3 ?_
    refine eI (⟨0, some (1, cL), T, en, t⟩ : PlX) (aI ⟨by show [Value.pointer _, Value.string (subS (mkS B) (((us.length + 1 : Nat) : Int)).toNat (((mkS B).data.size : Int)).toNat)] = _; rw [j4], rfl, rfl, hTl⟩ ?_)
    cases hlk : lookT T t with
    | some k =>
     have hpl : plO T t = (k : Int) := by unfold plO; rw [hlk]
     have hk : k < 16384 := hT.2 _ (zEn hlk)
     rw [hlk] at hpk
     refine ifK (fun _ => ?_) (fun g => ab (oF g) (by rw [hpl]; omega))
     have q1 : IntKind.u8.wrap (IntKind.i64.wrap (192 + IntKind.i64.wrap ((plO T t).tdiv 256))) = ((hi8 (49152 + k)).toNat : Int) := by rw [hpl]; exact hi_ref hk
     have q2 : IntKind.u8.wrap ((plO T t).tmod 256) = ((lo8 (49152 + k)).toNat : Int) := by rw [hpl]; exact lo_ref k
     refine eI ([hi8 (49152 + k), lo8 (49152 + k)].map byV) (aI (by rw [h1s]; show some (2, [Value.int .u8 (IntKind.u8.wrap (IntKind.i64.wrap (192 + IntKind.i64.wrap ((plO T t).tdiv 256)))), Value.int .u8 (IntKind.u8.wrap ((plO T t).tmod 256))]) = _; rw [q1, q2]; rfl) ?_)
     refine aI (by rw [hby, h1s]; simp only [bA, dT]; exact ⟨⟨⟨⟨⟨⟨rfl, rfl⟩, bL (by simp)⟩, rfl⟩, (by omega)⟩, (by omega)⟩, bL (by simp)⟩) ?_
     refine aI rfl (zAg (rcq [4] (d := 7) (d2 := 3) (lv := [(0, pt 0), (1, .int .i64 (a : Int)), (2, .string (mkS B)), (9, sq 2 ((us ++ [hi8 (49152 + k), lo8 (49152 + k)]).length + 1) U), (10, .slice none 0 0), (11, .int .i64 ((us.length + 1 : Nat) : Int))]) (bs := [(0, .cells [sq 1 T.length cL, .int .i64 en] 74), (1, .cells (T.flatMap layT.g) 130), (2, .cells ((u :: (us ++ [hi8 (49152 + k), lo8 (49152 + k)])).map byV) 5)]) (W := []) (m := 3) (df := []) ⟨(sP rfl rfl), (sI rfl), ⟨_, rfl, .string _⟩, ⟨_, rfl, by rw [show (us ++ [hi8 (49152 + k), lo8 (49152 + k)]).length + 1 = us.length + 1 + 2 by simp <;> omega]; exact .sl _ _ _ _ _ rfl⟩, ⟨_, rfl, zAf 8 rfl⟩, (sI rfl), tv⟩ ⟨⟨by decide, _, rfl, hbox _ rfl⟩, bpo (pT), ⟨by decide, _, rfl, zAv (by rw [h1s, aR, aD (by simp)]; simp <;> rfl) (zAa _)⟩, tv⟩ .nil) (fun f => ?_))
     refine hex (u :: (us ++ [hi8 (49152 + k), lo8 (49152 + k)])) ([]) (us.length + 1) f (by simp only [aC] at htl; omega) (fun h => by cases h) (.inr ⟨?_, ?_⟩) (by simp; simp at hlen2; omega)
     ·exact fun e => h1 (by have e2 : t.getD 0 0 = 0 := hB0.symm.trans e
                            rw [<- hc, e2]; rfl)
     rw [<- hpk, zMt, zMw]; simp
    | none =>
     have hpl : plO T t = -1 := by unfold plO; rw [hlk]
     rw [hlk] at hpk
     refine ifK (fun g => ab (oT g) (by rw [hpl]; decide)) (fun _ => ?_)
     refine ifK (fun g => ?_) (fun g => ?_)
     ·have g : a + (us.length + 1) < 16384 := by have g : decide (IntKind.i64.wrap ((a : Int) + ((us.length + 1 : Nat) : Int)) < 16384) = true := g; rw [j8] at g; have := oT g; simp only [aC] at this; omega
      refine aI k3 ?_
      refine eI [Value.string (mkS t), .int .i64 ((a + (us.length + 1) : Nat) : Int)] (aI (by rw [h2s]; show some (1, [Value.string (subS (mkS B) (((us.length + 1 : Nat) : Int)).toNat (((mkS B).data.size : Int)).toNat), Value.int .i64 (IntKind.i64.wrap ((a : Int) + ((us.length + 1 : Nat) : Int)))]) = _; rw [j4, j8]; rfl) ?_)
      refine aI (by kernel_rfl) ?_
      refine aI k1 ?_
      refine aI (k6 h1) ?_
      refine ifK (fun g => ab (aA g) (by rw [l7, hel h1]; omega)) (fun _ => ?_)
      refine aI (by rw [l7, hby, h1s]; simp only [bA, dT]; exact ⟨⟨⟨⟨⟨⟨rfl, rfl⟩, bL (by simp)⟩, hst⟩, (by omega)⟩, (by omega)⟩, bL (by have := (hct h1).1; simp; omega)⟩) ?_
      have hc1 := hct h1
      have hull : (us ++ t.take (c + 1)).length + 1 = us.length + 1 + c + 1 := by rw [aB, hel h1]; omega
      have hdr : B.drop (u :: (us ++ t.take (c + 1))).length = t.drop (c + 1) := by rw [aC, hull, <- ht, List.drop_drop]; rfl
      refine ⟨(u :: (us ++ t.take (c + 1)), [(t, a + (us.length + 1))]), ⟨?_, ?_, ?_, ?_, fu, ?_, ?_⟩, ?_, ?_⟩
      ·show (u :: (us ++ t.take (c + 1))).length <= B.length
       rw [aC, hull]; simp only [aC] at htl; omega
      ·show Nm (B.drop (u :: (us ++ t.take (c + 1))).length)
       rw [hdr]; exact hc1.2
      ·intro h; cases h
      ·show List.length _ <= (u :: (us ++ t.take (c + 1))).length
       have e : (u :: (us ++ t.take (c + 1))).length = us.length + 1 + c + 1 := hull
       rw [e]; simp only [aC, aB, List.length_nil] at hFl ⊢; omega
      ·show (B.drop (u :: (us ++ t.take (c + 1))).length).length <= fu
       rw [hdr, aM]; omega
      ·show ((u :: (us ++ t.take (c + 1))) ++ (packN T a fu (B.drop (u :: (us ++ t.take (c + 1))).length) (u :: (us ++ t.take (c + 1))).length).1, ([(t, a + (us.length + 1))]) ++ (packN T a fu (B.drop (u :: (us ++ t.take (c + 1))).length) (u :: (us ++ t.take (c + 1))).length).2) = R
       rw [hdr, aC]
       have hpk : ((u :: us) ++ (t.take (c + 1) ++ (packN T a fu (t.drop (c + 1)) (us.length + 1 + c + 1)).1), ([] : List (Bl × Nat)) ++ (if a + (us.length + 1) < 16384 then (t, a + (us.length + 1)) :: (packN T a fu (t.drop (c + 1)) (us.length + 1 + c + 1)).2 else (packN T a fu (t.drop (c + 1)) (us.length + 1 + c + 1)).2)) = R := hpk
       rw [<- hpk, hull]; simp only [if_pos g]; simp [aN]
      ·show B.length - (u :: (us ++ t.take (c + 1))).length < B.length - (us.length + 1)
       rw [aC, hull]; simp only [aC] at htl; omega
      exact rcq [5, 4] ⟨(sP rfl rfl), (sI rfl), ⟨_, rfl, .string _⟩, ⟨_, rfl, by rw [l7, show (us ++ t.take (c + 1)).length + 1 = us.length + 1 + (t.take (c + 1)).length by rw [aB]; omega]; exact .sl _ _ _ _ _ rfl⟩, (sL rfl rfl), ⟨_, rfl, by rw [l5, show (u :: us).length + c + 1 = (u :: (us ++ t.take (c + 1))).length by rw [aC, aC, hull]]; exact .int _ _⟩, tv⟩ ⟨⟨by decide, _, rfl, hbox _ rfl⟩, bpo (pT), ⟨by decide, _, rfl, zAv (by rw [l7, h1s, aR, aD (by simp)]; simp <;> rfl) (zAa _)⟩, ⟨by decide, _, rfl, .same (zAc layT.g layT.plain [(t, a + (us.length + 1))])⟩, tv⟩ .nil
     have g : ¬ a + (us.length + 1) < 16384 := fun hlt => by have g : decide (IntKind.i64.wrap ((a : Int) + ((us.length + 1 : Nat) : Int)) < 16384) = false := g; rw [j8] at g; exact ab (show ((a + (u :: us).length : Nat) : Int) < 16384 by simp only [aC]; omega) (oF g)
     refine aI k1 ?_
     refine aI (k6 h1) ?_
     refine ifK (fun g => ab (aA g) (by rw [l7, hel h1]; omega)) (fun _ => ?_)
     refine aI (by rw [l7, hby, h1s]; simp only [bA, dT]; exact ⟨⟨⟨⟨⟨⟨rfl, rfl⟩, bL (by simp)⟩, hst⟩, (by omega)⟩, (by omega)⟩, bL (by have := (hct h1).1; simp; omega)⟩) ?_
     have hc1 := hct h1
     have hull : (us ++ t.take (c + 1)).length + 1 = us.length + 1 + c + 1 := by rw [aB, hel h1]; omega
     have hdr : B.drop (u :: (us ++ t.take (c + 1))).length = t.drop (c + 1) := by rw [aC, hull, <- ht, List.drop_drop]; rfl
     refine ⟨(u :: (us ++ t.take (c + 1)), []), ⟨?_, ?_, ?_, ?_, fu, ?_, ?_⟩, ?_, ?_⟩
     ·show (u :: (us ++ t.take (c + 1))).length <= B.length
      rw [aC, hull]; simp only [aC] at htl; omega
     ·show Nm (B.drop (u :: (us ++ t.take (c + 1))).length)
      rw [hdr]; exact hc1.2
     ·intro h; cases h
     ·show List.length _ <= (u :: (us ++ t.take (c + 1))).length
      have e : (u :: (us ++ t.take (c + 1))).length = us.length + 1 + c + 1 := hull
      rw [e]; simp only [aC, aB, List.length_nil] at hFl ⊢; omega
     ·show (B.drop (u :: (us ++ t.take (c + 1))).length).length <= fu
      rw [hdr, aM]; omega
     ·show ((u :: (us ++ t.take (c + 1))) ++ (packN T a fu (B.drop (u :: (us ++ t.take (c + 1))).length) (u :: (us ++ t.take (c + 1))).length).1, ([]) ++ (packN T a fu (B.drop (u :: (us ++ t.take (c + 1))).length) (u :: (us ++ t.take (c + 1))).length).2) = R
      rw [hdr, aC]
      have hpk : ((u :: us) ++ (t.take (c + 1) ++ (packN T a fu (t.drop (c + 1)) (us.length + 1 + c + 1)).1), ([] : List (Bl × Nat)) ++ (if a + (us.length + 1) < 16384 then (t, a + (us.length + 1)) :: (packN T a fu (t.drop (c + 1)) (us.length + 1 + c + 1)).2 else (packN T a fu (t.drop (c + 1)) (us.length + 1 + c + 1)).2)) = R := hpk
      rw [<- hpk, hull]; simp only [if_neg g]; simp [aN]
     ·show B.length - (u :: (us ++ t.take (c + 1))).length < B.length - (us.length + 1)
      rw [aC, hull]; simp only [aC] at htl; omega
     exact rcq [3] ⟨(sP rfl rfl), (sI rfl), ⟨_, rfl, .string _⟩, ⟨_, rfl, by rw [l7, show (us ++ t.take (c + 1)).length + 1 = us.length + 1 + (t.take (c + 1)).length by rw [aB]; omega]; exact .sl _ _ _ _ _ rfl⟩, ⟨_, rfl, zAf 8 rfl⟩, ⟨_, rfl, by rw [l5, show (u :: us).length + c + 1 = (u :: (us ++ t.take (c + 1))).length by rw [aC, aC, hull]]; exact .int _ _⟩, tv⟩ ⟨⟨by decide, _, rfl, hbox _ rfl⟩, bpo (pT), ⟨by decide, _, rfl, zAv (by rw [l7, h1s, aR, aD (by simp)]; simp <;> rfl) (zAa _)⟩, tv⟩ .nil
   have h1 : c = 0 := by have h1 : (((atS (mkS B) ((us.length + 1 : Nat) : Int)).toNat : Int) != 0) = false := h1; rw [j2] at h1; have : (c : Int) = 0 := by simpa using h1
                         omega
   rw [if_pos h1] at hpk
   refine aI rfl (zAg (rcq [2] (d := 7) (d2 := 3) (lv := [(0, pt 0), (1, .int .i64 (a : Int)), (2, .string (mkS B)), (9, sq 2 (us.length + 1) U), (10, .slice none 0 0), (11, .int .i64 ((us.length + 1 : Nat) : Int))]) (bs := [(0, .cells [sq 1 T.length cL, .int .i64 en] 74), (1, .cells (T.flatMap layT.g) 130), (2, .cells ((u :: us).map byV) 5)]) (W := []) (m := 3) (df := []) ⟨(sP rfl rfl), (sI rfl), ⟨_, rfl, .string _⟩, (sL rfl rfl), ⟨_, rfl, zAf 8 rfl⟩, (sI rfl), tv⟩ ⟨⟨by decide, _, rfl, hbox _ rfl⟩, bpo (pT), bpo (zAa _), tv⟩ .nil) (fun f => ?_))
   refine hex (u :: us) ([]) (us.length + 1) f (by simp only [aC] at htl; omega) (fun h => by cases h) (.inl ⟨?_, ?_⟩) (by simp at hlen2 ⊢; omega)
   ·rw [show B.getD (us.length + 1) 0 = t.getD 0 0 from hB0]; exact UInt8.toNat_inj.1 (by rw [hc, h1]; rfl)
   rw [<- hpk]; simp
  | cons p F =>
   refine zAm tbPk9 [1, 2, 3] 2 _ none mixed _ _ _ ?_
   refine aI k1 ?_
   refine ifK (fun h1 => ?_) (fun h1 => ?_)
   ·have h1 : c ≠ 0 := fun e => by have h1 : (((atS (mkS B) ((us.length + 1 : Nat) : Int)).toNat : Int) != 0) = true := h1; rw [j2, e] at h1; cases h1
    rw [if_neg h1] at hpk
    refine aI k3 ?_
    refine eI (⟨0, some (1, cL), T, en, t⟩ : PlX) (aI ⟨by show [Value.pointer _, Value.string (subS (mkS B) (((us.length + 1 : Nat) : Int)).toNat (((mkS B).data.size : Int)).toNat)] = _; rw [j4], rfl, rfl, hTl⟩ ?_)
    cases hlk : lookT T t with
    | some k =>
     have hpl : plO T t = (k : Int) := by unfold plO; rw [hlk]
     have hk : k < 16384 := hT.2 _ (zEn hlk)
     rw [hlk] at hpk
     refine ifK (fun _ => ?_) (fun g => ab (oF g) (by rw [hpl]; omega))
     have q1 : IntKind.u8.wrap (IntKind.i64.wrap (192 + IntKind.i64.wrap ((plO T t).tdiv 256))) = ((hi8 (49152 + k)).toNat : Int) := by rw [hpl]; exact hi_ref hk
     have q2 : IntKind.u8.wrap ((plO T t).tmod 256) = ((lo8 (49152 + k)).toNat : Int) := by rw [hpl]; exact lo_ref k
     refine aI (by rw [hby, h1s]; simp only [bA, dT]; exact ⟨⟨⟨⟨⟨⟨rfl, rfl⟩, bL (by simp)⟩, rfl⟩, (by omega)⟩, (by omega)⟩, bL (by simp)⟩) ?_
     refine aI rfl (zAg (rcq [5, 3] (d := 7) (d2 := 3) (lv := [(0, pt 0), (1, .int .i64 (a : Int)), (2, .string (mkS B)), (9, sq 2 ((us ++ [hi8 (49152 + k), lo8 (49152 + k)]).length + 1) U), (10, sq 3 (F.length + 1) U), (11, .int .i64 ((us.length + 1 : Nat) : Int))]) (bs := [(0, .cells [sq 1 T.length cL, .int .i64 en] 74), (1, .cells (T.flatMap layT.g) 130), (2, .cells ((u :: (us ++ [hi8 (49152 + k), lo8 (49152 + k)])).map byV) 5), (3, .cells ((p :: F).flatMap layT.g) 130)]) (W := []) (m := 4) (df := []) ⟨(sP rfl rfl), (sI rfl), ⟨_, rfl, .string _⟩, ⟨_, rfl, by rw [show (us ++ [hi8 (49152 + k), lo8 (49152 + k)]).length + 1 = us.length + 1 + 2 by simp <;> omega]; exact .sl _ _ _ _ _ rfl⟩, (sL rfl rfl), (sI rfl), tv⟩ ⟨⟨by decide, _, rfl, hbox _ rfl⟩, bpo (pT), ⟨by decide, _, rfl, zAv (by rw [q1, q2, h1s, aR, aD (by simp)]; simp <;> first | rfl | exact ⟨rfl, rfl⟩) (zAa _)⟩, bpo (zAc layT.g layT.plain _), tv⟩ .nil) (fun f => ?_))
     refine hex (u :: (us ++ [hi8 (49152 + k), lo8 (49152 + k)])) (p :: F) (us.length + 1) f (by simp only [aC] at htl; omega) (fun h => by cases h) (.inr ⟨?_, ?_⟩) (by simp; simp at hlen2; omega)
     ·exact fun e => h1 (by have e2 : t.getD 0 0 = 0 := hB0.symm.trans e
                            rw [<- hc, e2]; rfl)
     rw [<- hpk, zMt, zMw]; simp
    | none =>
     have hpl : plO T t = -1 := by unfold plO; rw [hlk]
     rw [hlk] at hpk
     refine ifK (fun g => ab (oT g) (by rw [hpl]; decide)) (fun _ => ?_)
     refine ifK (fun g => ?_) (fun g => ?_)
     ·have g : a + (us.length + 1) < 16384 := by have g : decide (IntKind.i64.wrap ((a : Int) + ((us.length + 1 : Nat) : Int)) < 16384) = true := g; rw [j8] at g; have := oT g; simp only [aC] at this; omega
      refine aI k3 ?_
      refine aI (by rw [h2s, h2b]; simp only [bA, dT]; exact ⟨⟨⟨⟨⟨⟨rfl, rfl⟩, bL (by rw [zAe layT.g layT.k layT.len]; exact aJ _)⟩, rfl⟩, (by simp at hFl hlen2; omega)⟩, (by simp at hFl hlen2; omega)⟩, bL (by rw [zAe layT.g layT.k layT.len]; show (F.length + 1) * 2 + 1 <= 0 + (F.length + 1) * 2 + 2; omega)⟩) ?_
      refine aI k1 ?_
      refine aI (k6 h1) ?_
      refine ifK (fun g => ab (aA g) (by rw [l7, hel h1]; omega)) (fun _ => ?_)
      refine aI (by rw [l7, hby, h1s]; simp only [bA, dT]; exact ⟨⟨⟨⟨⟨⟨rfl, rfl⟩, bL (by simp)⟩, hst⟩, (by omega)⟩, (by omega)⟩, bL (by have := (hct h1).1; simp; omega)⟩) ?_
      have hc1 := hct h1
      have hull : (us ++ t.take (c + 1)).length + 1 = us.length + 1 + c + 1 := by rw [aB, hel h1]; omega
      have hdr : B.drop (u :: (us ++ t.take (c + 1))).length = t.drop (c + 1) := by rw [aC, hull, <- ht, List.drop_drop]; rfl
      refine ⟨(u :: (us ++ t.take (c + 1)), p :: (F ++ [(t, a + (us.length + 1))])), ⟨?_, ?_, ?_, ?_, fu, ?_, ?_⟩, ?_, ?_⟩
      ·show (u :: (us ++ t.take (c + 1))).length <= B.length
       rw [aC, hull]; simp only [aC] at htl; omega
      ·show Nm (B.drop (u :: (us ++ t.take (c + 1))).length)
       rw [hdr]; exact hc1.2
      ·intro h; cases h
      ·show List.length _ <= (u :: (us ++ t.take (c + 1))).length
       have e : (u :: (us ++ t.take (c + 1))).length = us.length + 1 + c + 1 := hull
       rw [e]; simp only [aC, aB, List.length_nil] at hFl ⊢; omega
      ·show (B.drop (u :: (us ++ t.take (c + 1))).length).length <= fu
       rw [hdr, aM]; omega
      ·show ((u :: (us ++ t.take (c + 1))) ++ (packN T a fu (B.drop (u :: (us ++ t.take (c + 1))).length) (u :: (us ++ t.take (c + 1))).length).1, (p :: (F ++ [(t, a + (us.length + 1))])) ++ (packN T a fu (B.drop (u :: (us ++ t.take (c + 1))).length) (u :: (us ++ t.take (c + 1))).length).2) = R
       rw [hdr, aC]
       have hpk : ((u :: us) ++ (t.take (c + 1) ++ (packN T a fu (t.drop (c + 1)) (us.length + 1 + c + 1)).1), (p :: F) ++ (if a + (us.length + 1) < 16384 then (t, a + (us.length + 1)) :: (packN T a fu (t.drop (c + 1)) (us.length + 1 + c + 1)).2 else (packN T a fu (t.drop (c + 1)) (us.length + 1 + c + 1)).2)) = R := hpk
       rw [<- hpk, hull]; simp only [if_pos g]; simp [aN]
      ·show B.length - (u :: (us ++ t.take (c + 1))).length < B.length - (us.length + 1)
       rw [aC, hull]; simp only [aC] at htl; omega
      exact rcq [6, 5] ⟨(sP rfl rfl), (sI rfl), ⟨_, rfl, .string _⟩, ⟨_, rfl, by rw [l7, show (us ++ t.take (c + 1)).length + 1 = us.length + 1 + (t.take (c + 1)).length by rw [aB]; omega]; exact .sl _ _ _ _ _ rfl⟩, ⟨_, rfl, by rw [show (F ++ [(t, a + (us.length + 1))]).length + 1 = F.length + 1 + 1 by simp]; exact .sl _ _ _ _ _ rfl⟩, ⟨_, rfl, by rw [l5, show (u :: us).length + c + 1 = (u :: (us ++ t.take (c + 1))).length by rw [aC, aC, hull]]; exact .int _ _⟩, tv⟩ ⟨⟨by decide, _, rfl, hbox _ rfl⟩, bpo (pT), ⟨by decide, _, rfl, zAv (by rw [l7, h1s, aR, aD (by simp)]; simp <;> rfl) (zAa _)⟩, ⟨by decide, _, rfl, zAv (by rw [h2s, l4, l8, aD (by rw [zAe layT.g layT.k layT.len]; exact aJ _)]; simp [layT]) (zAc layT.g layT.plain _)⟩, tv⟩ .nil
     have g : ¬ a + (us.length + 1) < 16384 := fun hlt => by have g : decide (IntKind.i64.wrap ((a : Int) + ((us.length + 1 : Nat) : Int)) < 16384) = false := g; rw [j8] at g; exact ab (show ((a + (u :: us).length : Nat) : Int) < 16384 by simp only [aC]; omega) (oF g)
     refine aI k1 ?_
     refine aI (k6 h1) ?_
     refine ifK (fun g => ab (aA g) (by rw [l7, hel h1]; omega)) (fun _ => ?_)
     refine aI (by rw [l7, hby, h1s]; simp only [bA, dT]; exact ⟨⟨⟨⟨⟨⟨rfl, rfl⟩, bL (by simp)⟩, hst⟩, (by omega)⟩, (by omega)⟩, bL (by have := (hct h1).1; simp; omega)⟩) ?_
     have hc1 := hct h1
     have hull : (us ++ t.take (c + 1)).length + 1 = us.length + 1 + c + 1 := by rw [aB, hel h1]; omega
     have hdr : B.drop (u :: (us ++ t.take (c + 1))).length = t.drop (c + 1) := by rw [aC, hull, <- ht, List.drop_drop]; rfl
     refine ⟨(u :: (us ++ t.take (c + 1)), p :: F), ⟨?_, ?_, ?_, ?_, fu, ?_, ?_⟩, ?_, ?_⟩
     ·show (u :: (us ++ t.take (c + 1))).length <= B.length
      rw [aC, hull]; simp only [aC] at htl; omega
     ·show Nm (B.drop (u :: (us ++ t.take (c + 1))).length)
      rw [hdr]; exact hc1.2
     ·intro h; cases h
     ·show List.length _ <= (u :: (us ++ t.take (c + 1))).length
      have e : (u :: (us ++ t.take (c + 1))).length = us.length + 1 + c + 1 := hull
      rw [e]; simp only [aC, aB, List.length_nil] at hFl ⊢; omega
     ·show (B.drop (u :: (us ++ t.take (c + 1))).length).length <= fu
      rw [hdr, aM]; omega
     ·show ((u :: (us ++ t.take (c + 1))) ++ (packN T a fu (B.drop (u :: (us ++ t.take (c + 1))).length) (u :: (us ++ t.take (c + 1))).length).1, (p :: F) ++ (packN T a fu (B.drop (u :: (us ++ t.take (c + 1))).length) (u :: (us ++ t.take (c + 1))).length).2) = R
      rw [hdr, aC]
      have hpk : ((u :: us) ++ (t.take (c + 1) ++ (packN T a fu (t.drop (c + 1)) (us.length + 1 + c + 1)).1), (p :: F) ++ (if a + (us.length + 1) < 16384 then (t, a + (us.length + 1)) :: (packN T a fu (t.drop (c + 1)) (us.length + 1 + c + 1)).2 else (packN T a fu (t.drop (c + 1)) (us.length + 1 + c + 1)).2)) = R := hpk
      rw [<- hpk, hull]; simp only [if_neg g]; simp [aN]
     ·show B.length - (u :: (us ++ t.take (c + 1))).length < B.length - (us.length + 1)
      rw [aC, hull]; simp only [aC] at htl; omega
     exact rcq [4, 3] ⟨(sP rfl rfl), (sI rfl), ⟨_, rfl, .string _⟩, ⟨_, rfl, by rw [l7, show (us ++ t.take (c + 1)).length + 1 = us.length + 1 + (t.take (c + 1)).length by rw [aB]; omega]; exact .sl _ _ _ _ _ rfl⟩, (sL rfl rfl), ⟨_, rfl, by rw [l5, show (u :: us).length + c + 1 = (u :: (us ++ t.take (c + 1))).length by rw [aC, aC, hull]]; exact .int _ _⟩, tv⟩ ⟨⟨by decide, _, rfl, hbox _ rfl⟩, bpo (pT), ⟨by decide, _, rfl, zAv (by rw [l7, h1s, aR, aD (by simp)]; simp <;> rfl) (zAa _)⟩, bpo (zAc layT.g layT.plain _), tv⟩ .nil
   have h1 : c = 0 := by have h1 : (((atS (mkS B) ((us.length + 1 : Nat) : Int)).toNat : Int) != 0) = false := h1; rw [j2] at h1; have : (c : Int) = 0 := by simpa using h1
                         omega
   rw [if_pos h1] at hpk
   refine aI rfl (zAg (rcq [2, 3] (d := 7) (d2 := 3) (lv := [(0, pt 0), (1, .int .i64 (a : Int)), (2, .string (mkS B)), (9, sq 2 (us.length + 1) U), (10, sq 3 (F.length + 1) U), (11, .int .i64 ((us.length + 1 : Nat) : Int))]) (bs := [(0, .cells [sq 1 T.length cL, .int .i64 en] 74), (1, .cells (T.flatMap layT.g) 130), (2, .cells ((u :: us).map byV) 5), (3, .cells ((p :: F).flatMap layT.g) 130)]) (W := []) (m := 4) (df := []) ⟨(sP rfl rfl), (sI rfl), ⟨_, rfl, .string _⟩, (sL rfl rfl), (sL rfl rfl), (sI rfl), tv⟩ ⟨⟨by decide, _, rfl, hbox _ rfl⟩, bpo (pT), bpo (zAa _), bpo (zAc layT.g layT.plain _), tv⟩ .nil) (fun f => ?_))
   refine hex (u :: us) (p :: F) (us.length + 1) f (by simp only [aC] at htl; omega) (fun h => by cases h) (.inl ⟨?_, ?_⟩) (by simp at hlen2 ⊢; omega)
   ·rw [show B.getD (us.length + 1) 0 = t.getD 0 0 from hB0]; exact UInt8.toNat_inj.1 (by rw [hc, h1]; rfl)
   rw [<- hpk]; simp
theorem zKf {G : Gh} {b c sz : Nat} {pre post : List Value} {l : List (Bl × Nat)} (hs : sz = 2) (hG : (G b).bind AObj.look = some (pre ++ l.flatMap layT.g ++ post)) : zAq G sz (.slice (some ⟨b, pre.length, none⟩) l.length c) = some (l.length, l.flatMap layT.g) := by
 subst hs
 unfold zAq
 cases hl : Nat.beq l.length 0 with
 | true =>
  have : l = [] := List.length_eq_zero_iff.1 (aA hl)
  subst this
  rfl
 | false =>
  have h1 : (l.flatMap layT.g).length = l.length * 2 := zAe layT.g layT.k layT.len l
  simp only [hl, cF, hG]
  rw [bL (by simp only [aB, h1]; omega), cT, aN, List.drop_left, <- h1, List.take_left]
theorem oneT (l : List (Bl × Nat)) : oneL (l.flatMap layT.g) = true := by
 induction l with
 | nil => rfl
 | cons x l ih =>
  unfold oneL at ih ⊢
  rw [List.flatMap_cons, List.all_append, ih]; rfl
theorem zBd (T : List (Bl × Nat)) (a : Nat) : ∀ (f : Nat) (t : Bl) (o : Nat), (packN T a f t o).2.length <= (packN T a f t o).1.length
 | 0, _, _ => aJ _
 | f + 1, t, o => by
  unfold packN
  by_cases hc : (t.getD 0 0).toNat = 0
  ·simp only [if_pos hc]; simp
  simp only [if_neg hc]
  cases lookT T t with
  | some k => simp
  | none =>
   have ih := zBd T a f (t.drop ((t.getD 0 0).toNat + 1)) (o + (t.getD 0 0).toNat + 1)
   cases t with
   | nil => exact ab rfl hc
   | cons x t =>
    simp only [aB]
    split <;> simp only [aC, aU] <;> omega
theorem zCn (T : List (Bl × Nat)) (a f : Nat) (t : Bl) (o : Nat) (hf : 0 < f) : (packN T a f t o).1 ≠ [] := by
 obtain ⟨f, rfl⟩ : ∃ g, f = g + 1 := ⟨f - 1, by omega⟩
 unfold packN
 by_cases hc : (t.getD 0 0).toNat = 0
 ·simp only [if_pos hc]; simp
 simp only [if_neg hc]
 cases lookT T t with
 | some k => simp
 | none =>
  cases t with
  | nil => exact ab rfl hc
  | cons x t => simp
theorem rname_fn (a en : Nat) (T : List (Bl × Nat)) (B : Bl) (ha : a <= 65535) (hen : en <= a) (hT : goodT T) (hTl : T.length <= 1000000000) (hT0 : T ≠ []) (hB : Nm B) (hlB : B.length <= 255) :
  ∃ r, FnS Try.prog 0 75 [pt 0, .int .i64 (a : Int), .string (mkS B)] (heap 2 [(0, .cells [sq 1 T.length U, .int .i64 (en : Int)] 74), (1, .cells (T.flatMap layT.g) 130)]) 2 r /\
   ∃ H m wr b l, r = .ret (.tuple #[sq b (packN T a B.length B 0).1.length U, .int .i64 0]) H m wr /\ (2 <= b /\ b < JJ /\ 0 ∈ wr) /\ ((packN T a B.length B 0).2 = [] /\ l = 1 \/ (packN T a B.length B 0).2 ≠ [] /\ 2 <= l /\ l < JJ /\ l ≠ b /\ 1 ∈ wr) /\ H.get b = some (.cells ((packN T a B.length B 0).1.map byV) 5) /\
    H.get 0 = some (.cells [sq l (T ++ (packN T a B.length B 0).2).length U, .int .i64 ((a + (packN T a B.length B 0).1.length : Nat) : Int)] 74) /\ H.get l = some (.cells ((T ++ (packN T a B.length B 0).2).flatMap layT.g) 130) := by
 have hsh : shortB (mkS B) = true := by unfold shortB; rw [zAr]; exact bL (by omega)
 have hlab : (labels (bs (mkS B))).2 = 0 := by rw [show bs (mkS B) = B from by simp [bs, mkS]]; exact (zAu B).2 ⟨hB, hlB⟩
 have h1s : (Try.prog.types[5]).size = 1 := by kernel_rfl
 have hby : (Try.prog.types[5]).bytes = 1 := by kernel_rfl
 have h2s : (Try.prog.types[130]).size = 2 := by kernel_rfl
 have h2b : (Try.prog.types[130]).bytes = 24 := by kernel_rfl
 have pT : plainL (T.flatMap layT.g) = true := zAc layT.g layT.plain _
 refine zBh mixed tbPk9 [1, 2, 3] Try.func75 (c := bodyOf Try.f75) (by kernel_rfl) ?_
 refine aI hsh ?_
 refine ifK (fun g => by have g : ((labels (bs (mkS B))).2 != 0) = true := g; rw [hlab] at g; cases g) (fun _ => ?_)
 refine ifK (fun g => ab (oT g) (by omega)) (fun _ => ?_)
 refine ifK (fun g => ab (oT g) (by omega)) (fun _ => ?_)
 refine zXi a (en : Int) T U B ha hT (by omega) hB hlB (rcq [] ⟨(sP rfl rfl), (sI rfl), ⟨_, rfl, .string _⟩, ⟨_, rfl, zAf 8 rfl⟩, ⟨_, rfl, zAf 8 rfl⟩, (sI rfl), tv⟩ ⟨⟨by decide, _, rfl, RO.cells [_, _] [] _ _ (.cons _ _ _ _ (.sl _ _ _ _ _ rfl) (.cons _ _ _ _ (.int _ _) .nil))⟩, bpo (pT), tv⟩ .nil) ?_
 intro out F i f hi hoF hor hl
 have e1 : inI (i : Int) (mkS B).data.size = true := by rw [zAr]; simp [inI]; omega
 have e2 : ((atS (mkS B) (i : Int)).toNat : Int) = ((B.getD i 0).toNat : Int) := by rw [zKk]
 cases out with
 | nil =>
  have hF0 : F = [] := hoF rfl
  subst hF0
  rcases hor with ⟨c0, hR⟩ | ⟨_, hR⟩
  ·rw [<- hR]
   refine aI e1 ?_
   refine ifK (fun _ => ?_) (fun g => by have g : (((atS (mkS B) (i : Int)).toNat : Int) == 0) = false := g; rw [e2, c0] at g; cases g)
   refine eI [Value.int .u8 0] (aI rfl ?_)
   refine aI (by kernel_rfl) ?_
   have ew : IntKind.i64.wrap ((a : Int) + ((1 : Nat) : Int)) = ((a + 1 : Nat) : Int) := by rw [zAp (by omega) (by omega)]; omega
   refine ⟨_, _, _, 3, 1, rfl, ⟨by decide, by decide, List.mem_of_elem_eq_true (by kernel_rfl)⟩, .inl ⟨rfl, rfl⟩, rfl, ?_, ?_⟩
   ·show some (AObj.cells [sq 1 T.length U, .int .i64 (IntKind.i64.wrap ((a : Int) + ((1 : Nat) : Int)))] _) = _
    rw [ew, aF]; rfl
   rw [aF]; rfl
  exact ab (congrArg Prod.fst hR).symm (zCn T a _ B 0 hB.pos)
 | cons u us =>
  have hl : us.length + 1 <= 257 := hl
  cases F with
  | nil =>
   rcases hor with ⟨c0, hR⟩ | ⟨c0, hR⟩
   ·have eL : (packN T a B.length B 0).1.length = us.length + 1 + 1 := by rw [<- hR]; simp
    rw [eL, <- hR]
    refine aI e1 ?_
    refine ifK (fun _ => ?_) (fun g => by have g : (((atS (mkS B) (i : Int)).toNat : Int) == 0) = false := g; rw [e2, c0] at g; cases g)
    refine eI [Value.int .u8 0] (aI rfl ?_)
    refine aI (by rw [hby, h1s]; simp only [bA, dT]; exact ⟨⟨⟨⟨⟨⟨rfl, rfl⟩, bL (by simp)⟩, rfl⟩, (by omega)⟩, (by omega)⟩, bL (by simp)⟩) ?_
    have ew : IntKind.i64.wrap ((a : Int) + ((us.length + 1 + 1 : Nat) : Int)) = ((a + (us.length + 1 + 1) : Nat) : Int) := by rw [zAp (by omega) (by omega)]; omega
    refine ⟨_, _, _, 4, 1, rfl, ⟨by decide, by decide, List.mem_of_elem_eq_true (by kernel_rfl)⟩, .inl ⟨rfl, rfl⟩, ?_, ?_, ?_⟩
    ·show some (AObj.cells (List.take _ _ ++ _) _) = _
     rw [h1s, aR, aD (by simp)]; simp <;> rfl
    ·show some (AObj.cells [sq 1 T.length U, .int .i64 (IntKind.i64.wrap ((a : Int) + ((us.length + 1 + 1 : Nat) : Int)))] _) = _
     rw [ew, aF]
    rw [aF]; rfl
   have eL : (packN T a B.length B 0).1.length = us.length + 1 := by rw [<- hR]; rfl
   rw [eL, <- hR]
   refine aI e1 ?_
   refine ifK (fun g => by have g : (((atS (mkS B) (i : Int)).toNat : Int) == 0) = true := g; rw [e2] at g; exact ab (UInt8.toNat_inj.1 (show (B.getD i 0).toNat = (0 : UInt8).toNat by have g : ((B.getD i 0).toNat : Int) = 0 := (by simpa using g); show _ = 0; omega)) c0) (fun _ => ?_)
   have ew : IntKind.i64.wrap ((a : Int) + ((us.length + 1 : Nat) : Int)) = ((a + (us.length + 1) : Nat) : Int) := by rw [zAp (by omega) (by omega)]; omega
   refine ⟨_, _, _, 2, 1, rfl, ⟨by decide, by decide, List.mem_of_elem_eq_true (by kernel_rfl)⟩, .inl ⟨rfl, rfl⟩, ?_, ?_, ?_⟩
   ·rfl
   ·show some (AObj.cells [sq 1 T.length U, .int .i64 (IntKind.i64.wrap ((a : Int) + ((us.length + 1 : Nat) : Int)))] _) = _
    rw [ew, aF]
   rw [aF]; rfl
  | cons p F =>
   rcases hor with ⟨c0, hR⟩ | ⟨c0, hR⟩
   ·have eL : (packN T a B.length B 0).1.length = us.length + 1 + 1 := by rw [<- hR]; simp
    rw [eL, <- hR]
    refine aI e1 ?_
    refine ifK (fun _ => ?_) (fun g => by have g : (((atS (mkS B) (i : Int)).toNat : Int) == 0) = false := g; rw [e2, c0] at g; cases g)
    refine aI (by rw [hby, h1s]; simp only [bA, dT]; exact ⟨⟨⟨⟨⟨⟨rfl, rfl⟩, bL (by simp)⟩, rfl⟩, (by omega)⟩, (by omega)⟩, bL (by simp)⟩) ?_
    refine eI ((p :: F).flatMap layT.g) (aI ?_ ?_)
    ·exact zKf (pre := []) (post := []) (l := p :: F) h2s (by rw [aF, List.nil_append]; kernel_rfl)
    have hFb : F.length + 1 <= 300 := by have := zBd T a B.length B 0; rw [eL, <- hR] at this; simp only [aC] at this; omega
    have ho1 : oneL ((p :: F).flatMap layT.g) = true := oneT _
    refine aI (by rw [h2s, h2b]; simp only [bA, dT]; exact ⟨⟨⟨⟨⟨⟨rfl, rfl⟩, bL (by rw [zAe layT.g layT.k layT.len]; exact aJ _)⟩, ho1⟩, (by omega)⟩, (by omega)⟩, bL (by rw [zAe layT.g layT.k layT.len, zAe layT.g layT.k layT.len]; show T.length * 2 + 1 <= 0 + T.length * 2 + (F.length + 1) * 2; omega)⟩) ?_
    have ew : IntKind.i64.wrap ((a : Int) + ((us.length + 1 + 1 : Nat) : Int)) = ((a + (us.length + 1 + 1) : Nat) : Int) := by rw [zAp (by omega) (by omega)]; omega
    refine ⟨_, _, _, 5, 6, rfl, ⟨by decide, by decide, List.mem_of_elem_eq_true (by kernel_rfl)⟩, .inr ⟨aZ _ _, by decide, by decide, by decide, List.mem_of_elem_eq_true (by kernel_rfl)⟩, ?_, ?_, ?_⟩
    ·show some (AObj.cells (List.take _ _ ++ _) _) = _
     rw [h1s, aR, aD (by simp)]; simp <;> rfl
    ·show some (AObj.cells [sq 6 (T.length + (F.length + 1)) U, .int .i64 (IntKind.i64.wrap ((a : Int) + ((us.length + 1 + 1 : Nat) : Int)))] _) = _
     rw [ew, aB]; rfl
    show some (AObj.cells (List.take _ _ ++ _) _) = _
    rw [h2s, aD (by rw [zAe layT.g layT.k layT.len]; exact aJ _), List.flatMap_append]
   have eL : (packN T a B.length B 0).1.length = us.length + 1 := by rw [<- hR]; rfl
   rw [eL, <- hR]
   refine aI e1 ?_
   refine ifK (fun g => by have g : (((atS (mkS B) (i : Int)).toNat : Int) == 0) = true := g; rw [e2] at g; exact ab (UInt8.toNat_inj.1 (show (B.getD i 0).toNat = (0 : UInt8).toNat by have g : ((B.getD i 0).toNat : Int) = 0 := (by simpa using g); show _ = 0; omega)) c0) (fun _ => ?_)
   refine eI ((p :: F).flatMap layT.g) (aI ?_ ?_)
   ·exact zKf (pre := []) (post := []) (l := p :: F) h2s (by rw [aF, List.nil_append]; kernel_rfl)
   have hFb : F.length + 1 <= 300 := by have := zBd T a B.length B 0; rw [eL, <- hR] at this; simp only [aC] at this; omega
   have ho1 : oneL ((p :: F).flatMap layT.g) = true := oneT _
   refine aI (by rw [h2s, h2b]; simp only [bA, dT]; exact ⟨⟨⟨⟨⟨⟨rfl, rfl⟩, bL (by rw [zAe layT.g layT.k layT.len]; exact aJ _)⟩, ho1⟩, (by omega)⟩, (by omega)⟩, bL (by rw [zAe layT.g layT.k layT.len, zAe layT.g layT.k layT.len]; show T.length * 2 + 1 <= 0 + T.length * 2 + (F.length + 1) * 2; omega)⟩) ?_
   have ew : IntKind.i64.wrap ((a : Int) + ((us.length + 1 : Nat) : Int)) = ((a + (us.length + 1) : Nat) : Int) := by rw [zAp (by omega) (by omega)]; omega
   refine ⟨_, _, _, 2, 4, rfl, ⟨by decide, by decide, List.mem_of_elem_eq_true (by kernel_rfl)⟩, .inr ⟨aZ _ _, by decide, by decide, by decide, List.mem_of_elem_eq_true (by kernel_rfl)⟩, ?_, ?_, ?_⟩
   ·rfl
   ·show some (AObj.cells [sq 4 (T.length + (F.length + 1)) U, .int .i64 (IntKind.i64.wrap ((a : Int) + ((us.length + 1 : Nat) : Int)))] _) = _
    rw [ew, aB]; rfl
   show some (AObj.cells (List.take _ _ ++ _) _) = _
   rw [h2s, aD (by rw [zAe layT.g layT.k layT.len]; exact aJ _), List.flatMap_append]
def rqE (a : Nat) (en : Int) (B : Bl) (out : Bl) (F : List (Bl × Nat)) (i : Nat) (f : Nat -> Option Value) : Fs := match out, F with
 | [], _ => ⟨slots 7 [(0, pt 0), (1, .int .i64 (a : Int)), (2, .string (mkS B)), (9, .slice none 0 0), (10, .slice none 0 0), (11, .int .i64 (i : Int))] f, heap 3 [(0, .cells [.slice none 0 0, .int .i64 en] 74)], 1, [], []⟩
 | u :: us, [] => ⟨slots 7 [(0, pt 0), (1, .int .i64 (a : Int)), (2, .string (mkS B)), (9, sq 1 (us.length + 1) U), (10, .slice none 0 0), (11, .int .i64 (i : Int))] f, heap 3 [(0, .cells [.slice none 0 0, .int .i64 en] 74), (1, .cells ((u :: us).map byV) 5)], 2, [], []⟩
 | u :: us, p :: F => ⟨slots 7 [(0, pt 0), (1, .int .i64 (a : Int)), (2, .string (mkS B)), (9, sq 1 (us.length + 1) U), (10, sq 2 (F.length + 1) U), (11, .int .i64 (i : Int))] f, heap 3 [(0, .cells [.slice none 0 0, .int .i64 en] 74), (1, .cells ((u :: us).map byV) 5), (2, .cells ((p :: F).flatMap layT.g) 130)], 3, [], []⟩
def rqS (a : Nat) (en : Int) (B : Bl) (x : Bl × List (Bl × Nat)) (f : Nat -> Option Value) : Fs := rqE a en B x.1 x.2 x.1.length f
theorem zTh (a : Nat) (en : Int) (B : Bl) (ha : a <= 65535) (hB : Nm B) (hlB : B.length <= 255) {s0 : Fs} {K : Ex -> Fs -> Prop}
  (h0 : ∃ f, RcM Try.prog 0 1 (3 + (Try.f75.ntmps - 3)) none s0 (rqS a en B ([], []) f))
  (hex : ∀ out F i f, i < B.length -> (out = [] -> F = []) -> (B.getD i 0 = 0 /\ (out ++ [0], F) = packN [] a B.length B 0 \/ B.getD i 0 ≠ 0 /\ (out, F) = packN [] a B.length B 0) -> out.length <= 257 -> K (.exit 0) (rqE a en B out F i f)) :
  LW Try.prog 0 1 (3 + (Try.f75.ntmps - 3)) none (loopAt Try.f75 0) s0 K := by
 have h1s : (Try.prog.types[5]).size = 1 := by kernel_rfl
 have hby : (Try.prog.types[5]).bytes = 1 := by kernel_rfl
 have h2s : (Try.prog.types[130]).size = 2 := by kernel_rfl
 have h2b : (Try.prog.types[130]).bytes = 24 := by kernel_rfl
 obtain ⟨R, hR⟩ : ∃ R, packN [] a B.length B 0 = R := ⟨_, rfl⟩
 rw [hR] at hex
 refine zAn (rqS a en B) (fun x => B.length - x.1.length) (fun x => x.1.length <= B.length /\ Nm (B.drop x.1.length) /\ (x.1 = [] -> x.2 = []) /\ x.2.length <= x.1.length /\ ∃ f, (B.drop x.1.length).length <= f /\ (x.1 ++ (packN [] a f (B.drop x.1.length) x.1.length).1, x.2 ++ (packN [] a f (B.drop x.1.length) x.1.length).2) = R) ([], []) ⟨aH _, hB, fun _ => rfl, aJ _, B.length, aJ _, hR⟩ h0 ?_
 rintro ⟨out, F⟩ f ⟨hib, hnm, hoF, hFl, fu, hfu, hpk⟩
 have hib : out.length <= B.length := hib
 have hoF : out = [] -> F = [] := hoF
 have hFl : F.length <= out.length := hFl
 obtain ⟨t, ht⟩ : ∃ t, B.drop out.length = t := ⟨_, rfl⟩
 have hnm : Nm (B.drop out.length) := hnm
 have hfu : (B.drop out.length).length <= fu := hfu
 have hpk : (out ++ (packN [] a fu (B.drop out.length) out.length).1, F ++ (packN [] a fu (B.drop out.length) out.length).2) = R := hpk
 rw [ht] at hnm hfu hpk
 have htl : t.length = B.length - out.length := by rw [<- ht, aM]
 have hpos := hnm.pos
 obtain ⟨fu, rfl⟩ : ∃ g, fu = g + 1 := ⟨fu - 1, by omega⟩
 obtain ⟨c, hc⟩ : ∃ c, (t.getD 0 0).toNat = c := ⟨_, rfl⟩
 have hcl : c <= 63 := by rw [<- hc]; cases hnm <;> simp <;> omega
 have hct : c ≠ 0 -> c + 1 < t.length /\ Nm (t.drop (c + 1)) := fun h => by
  cases hnm with
  | root => exact ab (show c = 0 by rw [<- hc]; rfl) h
  | lab c' x r h1 h2 hx hr =>
   have hc : c'.toNat = c := hc
   have e : (c' :: (x ++ r)).drop (c + 1) = r := by rw [List.drop_succ_cons, <- hc, <- hx, List.drop_left]
   refine ⟨?_, by rw [e]; exact hr⟩
   have := hr.pos
   simp; omega
 have hB0 : B.getD out.length 0 = t.getD 0 0 := by rw [<- ht]; simp [List.getD_eq_getElem?_getD]
 have FACT : ∀ I : Int, I = (out.length : Int) -> inI I (mkS B).data.size = true /\ ((atS (mkS B) I).toNat : Int) = (c : Int) /\ inLH I ((mkS B).data.size : Int) (mkS B).data.size = true /\ subS (mkS B) I.toNat (((mkS B).data.size : Int)).toNat = mkS t /\
   IntKind.i64.wrap (IntKind.i64.wrap (I + 1) + IntKind.i64.wrap ((atS (mkS B) I).toNat : Int)) = ((out.length + c + 1 : Nat) : Int) /\ (c ≠ 0 -> inLH I (IntKind.i64.wrap (IntKind.i64.wrap (I + 1) + IntKind.i64.wrap ((atS (mkS B) I).toNat : Int))) (mkS B).data.size = true) /\
   (subS (mkS B) I.toNat (IntKind.i64.wrap (IntKind.i64.wrap (I + 1) + IntKind.i64.wrap ((atS (mkS B) I).toNat : Int))).toNat).data.toList = t.take (c + 1) /\ IntKind.i64.wrap ((a : Int) + I) = ((a + out.length : Nat) : Int) := fun I hI => by
  subst hI
  have e1 : ((atS (mkS B) (out.length : Int)).toNat : Int) = (c : Int) := by rw [zKk, hB0, hc]
  have e2 : IntKind.i64.wrap (IntKind.i64.wrap ((out.length : Int) + 1) + IntKind.i64.wrap ((atS (mkS B) (out.length : Int)).toNat : Int)) = ((out.length + c + 1 : Nat) : Int) := by
   rw [e1, zAp (x := (out.length : Int) + 1) (by omega) (by omega), zAp (x := (c : Int)) (by omega) (by omega), zAp (by omega) (by omega)]; omega
  refine ⟨by rw [zAr]; simp [inI]; omega, e1, by rw [zAr]; simp [inLH]; omega, ?_, e2, fun h => ?_, ?_, ?_⟩
  ·rw [zAr, aO, aO]; simp [subS, mkS, ht]
  ·have := (hct h).1
   rw [e2, zAr]; simp [inLH]; omega
  ·rw [e2, aO, aO]
   simp only [subS, mkS]
   rw [<- ht]
   rw [show out.length + c + 1 = out.length + (c + 1) by omega, List.drop_take]
   simp
  rw [zAp (by omega) (by omega)]; omega
 have hel : c ≠ 0 -> (t.take (c + 1)).length = c + 1 := fun h => by have := (hct h).1; rw [aU]; omega
 unfold packN at hpk
 simp only [hc] at hpk
 cases out with
 | nil =>
  have hF0 : F = [] := hoF rfl
  subst hF0
  obtain ⟨k1, k2, k3, k4, k5, k6, k7, k8⟩ := FACT 0 rfl
  obtain ⟨_, _, _, _, l5, _, l7, _⟩ := FACT ((List.length (([] : Bl), ([] : List (Bl × Nat))).fst : Nat) : Int) rfl
  refine zAm tbPk9 [1, 2] 1 _ none mixed _ _ _ ?_
  refine aI k1 ?_
  refine ifK (fun h1 => ?_) (fun h1 => ?_)
  ·have h1 : c ≠ 0 := fun e => by have h1 : (((atS (mkS B) 0).toNat : Int) != 0) = true := h1; rw [k2, e] at h1; cases h1
   rw [if_neg h1] at hpk
   refine aI k3 ?_
   refine eI (⟨0, none, [], en, t⟩ : PlX) (aI ⟨by show [Value.pointer _, Value.string (subS (mkS B) (Int.toNat 0) (((mkS B).data.size : Int)).toNat)] = _; rw [k4], rfl, rfl, aH _⟩ ?_)
   have hlk : lookT ([] : List (Bl × Nat)) t = none := rfl
   refine ifK (fun g => ?_) (fun g => ?_)
   ·have g : a + 0 < 16384 := by have g : decide (IntKind.i64.wrap ((a : Int) + 0) < 16384) = true := g; rw [k8] at g; have := oT g; simp at this; omega
    refine aI k3 ?_
    refine eI [Value.string (mkS t), .int .i64 (a : Int)] (aI (by rw [h2s]; show some (1, [Value.string (subS (mkS B) (Int.toNat 0) (((mkS B).data.size : Int)).toNat), Value.int .i64 (IntKind.i64.wrap ((a : Int) + 0))]) = _; rw [k4, k8]; rfl) ?_)
    refine aI (by kernel_rfl) ?_
    refine aI k1 ?_
    refine aI (k6 h1) ?_
    refine ifK (fun g => ab (aA g) (by rw [l7, hel h1]; omega)) (fun _ => ?_)
    refine aI (by rw [l7, hel h1, hby, aX (by omega), aX (by omega)]; rfl) ?_
    obtain ⟨u, us, hu⟩ : ∃ u us, t.take (c + 1) = u :: us := by
     have := hel h1
     cases hq : t.take (c + 1) with
     | nil => rw [hq] at this; cases this
     | cons u us => exact ⟨u, us, rfl⟩
    have hul : (u :: us).length = 0 + c + 1 := by rw [<- hu, hel h1]; omega
    have hul2 : (([] : Bl).length + c + 1 : Nat) = us.length + 1 := by simp at hul; simp; omega
    have hc1 := hct h1
    have hdr : B.drop (u :: us).length = t.drop (c + 1) := by rw [hul, <- ht]; simp
    refine ⟨(u :: us, [(t, a)]), ⟨?_, ?_, ?_, ?_, fu, ?_, ?_⟩, ?_, ?_⟩
    ·show (u :: us).length <= B.length
     rw [hul]; simp at htl; omega
    ·show Nm (B.drop (u :: us).length)
     rw [hdr]; exact hc1.2
    ·intro h; cases h
    ·show List.length _ <= (u :: us).length
     rw [hul]; simp
    ·show (B.drop (u :: us).length).length <= fu
     rw [hdr, aM]; omega
    ·show ((u :: us) ++ (packN [] a fu (B.drop (u :: us).length) (u :: us).length).1, [(t, a)] ++ (packN [] a fu (B.drop (u :: us).length) (u :: us).length).2) = R
     rw [hdr]
     have hpk : ([] ++ (t.take (c + 1) ++ (packN [] a fu (t.drop (c + 1)) (0 + c + 1)).1), [] ++ (if a + 0 < 16384 then (t, a + 0) :: (packN [] a fu (t.drop (c + 1)) (0 + c + 1)).2 else (packN [] a fu (t.drop (c + 1)) (0 + c + 1)).2)) = R := hpk
     rw [<- hpk, hul]; simp only [if_pos g]; simp [<- hu, aN]
    ·show B.length - (u :: us).length < B.length - 0
     rw [hul]; omega
    exact rcq [3, 2] ⟨(sP rfl rfl), (sI rfl), ⟨_, rfl, .string _⟩, ⟨_, rfl, by rw [l7, hu]; exact .sl _ _ _ _ _ rfl⟩, (sL rfl rfl), ⟨_, rfl, by rw [l5, hul2]; exact .int _ _⟩, tv⟩ ⟨bpo rfl, ⟨by decide, _, rfl, by rw [l7, hu]; exact .same (zAa (u :: us))⟩, bpo rfl, tv⟩ .nil
   have g : ¬ a + 0 < 16384 := fun hlt => by have g : decide (IntKind.i64.wrap ((a : Int) + 0) < 16384) = false := g; rw [k8] at g; exact ab (show ((a + ([] : Bl).length : Nat) : Int) < 16384 by simp; omega) (oF g)
   refine aI k1 ?_
   refine aI (k6 h1) ?_
   refine ifK (fun g => ab (aA g) (by rw [l7, hel h1]; omega)) (fun _ => ?_)
   refine aI (by rw [l7, hel h1, hby, aX (by omega), aX (by omega)]; rfl) ?_
   obtain ⟨u, us, hu⟩ : ∃ u us, t.take (c + 1) = u :: us := by
    have := hel h1
    cases hq : t.take (c + 1) with
    | nil => rw [hq] at this; cases this
    | cons u us => exact ⟨u, us, rfl⟩
   have hul : (u :: us).length = 0 + c + 1 := by rw [<- hu, hel h1]; omega
   have hul2 : (([] : Bl).length + c + 1 : Nat) = us.length + 1 := by simp at hul; simp; omega
   have hc1 := hct h1
   have hdr : B.drop (u :: us).length = t.drop (c + 1) := by rw [hul, <- ht]; simp
   refine ⟨(u :: us, []), ⟨?_, ?_, ?_, ?_, fu, ?_, ?_⟩, ?_, ?_⟩
   ·show (u :: us).length <= B.length
    rw [hul]; simp at htl; omega
   ·show Nm (B.drop (u :: us).length)
    rw [hdr]; exact hc1.2
   ·intro h; cases h
   ·show List.length _ <= (u :: us).length
    rw [hul]; simp
   ·show (B.drop (u :: us).length).length <= fu
    rw [hdr, aM]; omega
   ·show ((u :: us) ++ (packN [] a fu (B.drop (u :: us).length) (u :: us).length).1, [] ++ (packN [] a fu (B.drop (u :: us).length) (u :: us).length).2) = R
    rw [hdr]
    have hpk : ([] ++ (t.take (c + 1) ++ (packN [] a fu (t.drop (c + 1)) (0 + c + 1)).1), [] ++ (if a + 0 < 16384 then (t, a + 0) :: (packN [] a fu (t.drop (c + 1)) (0 + c + 1)).2 else (packN [] a fu (t.drop (c + 1)) (0 + c + 1)).2)) = R := hpk
    rw [<- hpk, hul]; simp only [if_neg g]; simp [<- hu, aN]
   ·show B.length - (u :: us).length < B.length - 0
    rw [hul]; omega
   exact rcq [1] ⟨(sP rfl rfl), (sI rfl), ⟨_, rfl, .string _⟩, ⟨_, rfl, by rw [l7, hu]; exact .sl _ _ _ _ _ rfl⟩, ⟨_, rfl, zAf 8 rfl⟩, ⟨_, rfl, by rw [l5, hul2]; exact .int _ _⟩, tv⟩ ⟨bpo rfl, ⟨by decide, _, rfl, by rw [l7, hu]; exact .same (zAa (u :: us))⟩, tv⟩ .nil
  have h1 : c = 0 := by have h1 : (((atS (mkS B) 0).toNat : Int) != 0) = false := h1; rw [k2] at h1; have : (c : Int) = 0 := by simpa using h1
                        omega
  rw [if_pos h1] at hpk
  refine aI rfl (zAg (rcq [] (d := 7) (d2 := 3) (lv := [(0, pt 0), (1, .int .i64 (a : Int)), (2, .string (mkS B)), (9, .slice none 0 0), (10, .slice none 0 0), (11, .int .i64 ((0 : Nat) : Int))]) (bs := [(0, .cells [.slice none 0 0, .int .i64 en] 74)]) (W := []) (m := 1) (df := []) ⟨(sP rfl rfl), (sI rfl), ⟨_, rfl, .string _⟩, ⟨_, rfl, zAf 8 rfl⟩, ⟨_, rfl, zAf 8 rfl⟩, (sI rfl), tv⟩ ⟨bpo rfl, tv⟩ .nil) (fun f => ?_))
  refine hex [] [] 0 f (by simp at htl; omega) (fun _ => rfl) (.inl ⟨?_, ?_⟩) (by decide)
  ·rw [show B.getD 0 0 = t.getD 0 0 from hB0]; exact UInt8.toNat_inj.1 (by rw [hc, h1]; rfl)
  rw [<- hpk]; simp
 | cons u us =>
  have hlen2 : (u :: us).length <= 255 := by omega
  have hlen3 : us.length + 1 <= 255 := hlen2
  obtain ⟨j1, j2, j3, j4, j5, j6, j7, j8⟩ := FACT ((us.length + 1 : Nat) : Int) rfl
  have hst : oneL ((t.take (c + 1)).map byV) = true := by unfold oneL; exact aG.2 (fun v hv => by obtain ⟨b, _, rfl⟩ := List.mem_map.1 hv; rfl)
  obtain ⟨k1, k2, k3, l4, l5, k6, l7, l8⟩ := FACT ((List.length (u :: us, F).fst : Nat) : Int) rfl
  cases F with
  | nil =>
   refine zAm tbPk9 [1, 2] 1 _ none mixed _ _ _ ?_
   refine aI k1 ?_
   refine ifK (fun h1 => ?_) (fun h1 => ?_)
   ·have h1 : c ≠ 0 := fun e => by have h1 : (((atS (mkS B) ((us.length + 1 : Nat) : Int)).toNat : Int) != 0) = true := h1; rw [j2, e] at h1; cases h1
    rw [if_neg h1] at hpk
    refine aI k3 ?_
    refine eI (⟨0, none, [], en, t⟩ : PlX) (aI ⟨by show [Value.pointer _, Value.string (subS (mkS B) (((us.length + 1 : Nat) : Int)).toNat (((mkS B).data.size : Int)).toNat)] = _; rw [j4], rfl, rfl, aH _⟩ ?_)
    have hlk : lookT ([] : List (Bl × Nat)) t = none := rfl
    refine ifK (fun g => ?_) (fun g => ?_)
    ·have g : a + (us.length + 1) < 16384 := by have g : decide (IntKind.i64.wrap ((a : Int) + ((us.length + 1 : Nat) : Int)) < 16384) = true := g; rw [j8] at g; have := oT g; simp only [aC] at this; omega
     refine aI k3 ?_
     refine eI [Value.string (mkS t), .int .i64 ((a + (us.length + 1) : Nat) : Int)] (aI (by rw [h2s]; show some (1, [Value.string (subS (mkS B) (((us.length + 1 : Nat) : Int)).toNat (((mkS B).data.size : Int)).toNat), Value.int .i64 (IntKind.i64.wrap ((a : Int) + ((us.length + 1 : Nat) : Int)))]) = _; rw [j4, j8]; rfl) ?_)
     refine aI (by kernel_rfl) ?_
     refine aI k1 ?_
     refine aI (k6 h1) ?_
     refine ifK (fun g => ab (aA g) (by rw [l7, hel h1]; omega)) (fun _ => ?_)
     refine aI (by rw [l7, hby, h1s]; simp only [bA, dT]; exact ⟨⟨⟨⟨⟨⟨rfl, rfl⟩, bL (by simp)⟩, hst⟩, (by omega)⟩, (by omega)⟩, bL (by have := (hct h1).1; simp; omega)⟩) ?_
     have hc1 := hct h1
     have hull : (us ++ t.take (c + 1)).length + 1 = us.length + 1 + c + 1 := by rw [aB, hel h1]; omega
     have hdr : B.drop (u :: (us ++ t.take (c + 1))).length = t.drop (c + 1) := by rw [aC, hull, <- ht, List.drop_drop]; rfl
     refine ⟨(u :: (us ++ t.take (c + 1)), [(t, a + (us.length + 1))]), ⟨?_, ?_, ?_, ?_, fu, ?_, ?_⟩, ?_, ?_⟩
     ·show (u :: (us ++ t.take (c + 1))).length <= B.length
      rw [aC, hull]; simp only [aC] at htl; omega
     ·show Nm (B.drop (u :: (us ++ t.take (c + 1))).length)
      rw [hdr]; exact hc1.2
     ·intro h; cases h
     ·show List.length _ <= (u :: (us ++ t.take (c + 1))).length
      have e : (u :: (us ++ t.take (c + 1))).length = us.length + 1 + c + 1 := hull
      rw [e]; simp only [aC, aB, List.length_nil] at hFl ⊢; omega
     ·show (B.drop (u :: (us ++ t.take (c + 1))).length).length <= fu
      rw [hdr, aM]; omega
     ·show ((u :: (us ++ t.take (c + 1))) ++ (packN [] a fu (B.drop (u :: (us ++ t.take (c + 1))).length) (u :: (us ++ t.take (c + 1))).length).1, ([(t, a + (us.length + 1))]) ++ (packN [] a fu (B.drop (u :: (us ++ t.take (c + 1))).length) (u :: (us ++ t.take (c + 1))).length).2) = R
      rw [hdr, aC]
      have hpk : ((u :: us) ++ (t.take (c + 1) ++ (packN [] a fu (t.drop (c + 1)) (us.length + 1 + c + 1)).1), ([] : List (Bl × Nat)) ++ (if a + (us.length + 1) < 16384 then (t, a + (us.length + 1)) :: (packN [] a fu (t.drop (c + 1)) (us.length + 1 + c + 1)).2 else (packN [] a fu (t.drop (c + 1)) (us.length + 1 + c + 1)).2)) = R := hpk
      rw [<- hpk, hull]; simp only [if_pos g]; simp [aN]
     ·show B.length - (u :: (us ++ t.take (c + 1))).length < B.length - (us.length + 1)
      rw [aC, hull]; simp only [aC] at htl; omega
     exact rcq [4, 3] ⟨(sP rfl rfl), (sI rfl), ⟨_, rfl, .string _⟩, ⟨_, rfl, by rw [l7, show (us ++ t.take (c + 1)).length + 1 = us.length + 1 + (t.take (c + 1)).length by rw [aB]; omega]; exact .sl _ _ _ _ _ rfl⟩, (sL rfl rfl), ⟨_, rfl, by rw [l5, show (u :: us).length + c + 1 = (u :: (us ++ t.take (c + 1))).length by rw [aC, aC, hull]]; exact .int _ _⟩, tv⟩ ⟨bpo rfl, ⟨by decide, _, rfl, zAv (by rw [l7, h1s, aR, aD (by simp)]; simp <;> rfl) (zAa _)⟩, ⟨by decide, _, rfl, .same (zAc layT.g layT.plain [(t, a + (us.length + 1))])⟩, tv⟩ .nil
    have g : ¬ a + (us.length + 1) < 16384 := fun hlt => by have g : decide (IntKind.i64.wrap ((a : Int) + ((us.length + 1 : Nat) : Int)) < 16384) = false := g; rw [j8] at g; exact ab (show ((a + (u :: us).length : Nat) : Int) < 16384 by simp only [aC]; omega) (oF g)
    refine aI k1 ?_
    refine aI (k6 h1) ?_
    refine ifK (fun g => ab (aA g) (by rw [l7, hel h1]; omega)) (fun _ => ?_)
    refine aI (by rw [l7, hby, h1s]; simp only [bA, dT]; exact ⟨⟨⟨⟨⟨⟨rfl, rfl⟩, bL (by simp)⟩, hst⟩, (by omega)⟩, (by omega)⟩, bL (by have := (hct h1).1; simp; omega)⟩) ?_
    have hc1 := hct h1
    have hull : (us ++ t.take (c + 1)).length + 1 = us.length + 1 + c + 1 := by rw [aB, hel h1]; omega
    have hdr : B.drop (u :: (us ++ t.take (c + 1))).length = t.drop (c + 1) := by rw [aC, hull, <- ht, List.drop_drop]; rfl
    refine ⟨(u :: (us ++ t.take (c + 1)), []), ⟨?_, ?_, ?_, ?_, fu, ?_, ?_⟩, ?_, ?_⟩
    ·show (u :: (us ++ t.take (c + 1))).length <= B.length
     rw [aC, hull]; simp only [aC] at htl; omega
    ·show Nm (B.drop (u :: (us ++ t.take (c + 1))).length)
     rw [hdr]; exact hc1.2
    ·intro h; cases h
    ·show List.length _ <= (u :: (us ++ t.take (c + 1))).length
     have e : (u :: (us ++ t.take (c + 1))).length = us.length + 1 + c + 1 := hull
     rw [e]; simp only [aC, aB, List.length_nil] at hFl ⊢; omega
    ·show (B.drop (u :: (us ++ t.take (c + 1))).length).length <= fu
     rw [hdr, aM]; omega
    ·show ((u :: (us ++ t.take (c + 1))) ++ (packN [] a fu (B.drop (u :: (us ++ t.take (c + 1))).length) (u :: (us ++ t.take (c + 1))).length).1, ([]) ++ (packN [] a fu (B.drop (u :: (us ++ t.take (c + 1))).length) (u :: (us ++ t.take (c + 1))).length).2) = R
     rw [hdr, aC]
     have hpk : ((u :: us) ++ (t.take (c + 1) ++ (packN [] a fu (t.drop (c + 1)) (us.length + 1 + c + 1)).1), ([] : List (Bl × Nat)) ++ (if a + (us.length + 1) < 16384 then (t, a + (us.length + 1)) :: (packN [] a fu (t.drop (c + 1)) (us.length + 1 + c + 1)).2 else (packN [] a fu (t.drop (c + 1)) (us.length + 1 + c + 1)).2)) = R := hpk
     rw [<- hpk, hull]; simp only [if_neg g]; simp [aN]
    ·show B.length - (u :: (us ++ t.take (c + 1))).length < B.length - (us.length + 1)
     rw [aC, hull]; simp only [aC] at htl; omega
    exact rcq [2] ⟨(sP rfl rfl), (sI rfl), ⟨_, rfl, .string _⟩, ⟨_, rfl, by rw [l7, show (us ++ t.take (c + 1)).length + 1 = us.length + 1 + (t.take (c + 1)).length by rw [aB]; omega]; exact .sl _ _ _ _ _ rfl⟩, ⟨_, rfl, zAf 8 rfl⟩, ⟨_, rfl, by rw [l5, show (u :: us).length + c + 1 = (u :: (us ++ t.take (c + 1))).length by rw [aC, aC, hull]]; exact .int _ _⟩, tv⟩ ⟨bpo rfl, ⟨by decide, _, rfl, zAv (by rw [l7, h1s, aR, aD (by simp)]; simp <;> rfl) (zAa _)⟩, tv⟩ .nil
   have h1 : c = 0 := by have h1 : (((atS (mkS B) ((us.length + 1 : Nat) : Int)).toNat : Int) != 0) = false := h1; rw [j2] at h1; have : (c : Int) = 0 := by simpa using h1
                         omega
   rw [if_pos h1] at hpk
   refine aI rfl (zAg (rcq [1] (d := 7) (d2 := 3) (lv := [(0, pt 0), (1, .int .i64 (a : Int)), (2, .string (mkS B)), (9, sq 1 (us.length + 1) U), (10, .slice none 0 0), (11, .int .i64 ((us.length + 1 : Nat) : Int))]) (bs := [(0, .cells [.slice none 0 0, .int .i64 en] 74), (1, .cells ((u :: us).map byV) 5)]) (W := []) (m := 2) (df := []) ⟨(sP rfl rfl), (sI rfl), ⟨_, rfl, .string _⟩, (sL rfl rfl), ⟨_, rfl, zAf 8 rfl⟩, (sI rfl), tv⟩ ⟨bpo rfl, bpo (zAa _), tv⟩ .nil) (fun f => ?_))
   refine hex (u :: us) ([]) (us.length + 1) f (by simp only [aC] at htl; omega) (fun h => by cases h) (.inl ⟨?_, ?_⟩) (by simp at hlen2 ⊢; omega)
   ·rw [show B.getD (us.length + 1) 0 = t.getD 0 0 from hB0]; exact UInt8.toNat_inj.1 (by rw [hc, h1]; rfl)
   rw [<- hpk]; simp
  | cons p F =>
   refine zAm tbPk9 [1, 2] 1 _ none mixed _ _ _ ?_
   refine aI k1 ?_
   refine ifK (fun h1 => ?_) (fun h1 => ?_)
   ·have h1 : c ≠ 0 := fun e => by have h1 : (((atS (mkS B) ((us.length + 1 : Nat) : Int)).toNat : Int) != 0) = true := h1; rw [j2, e] at h1; cases h1
    rw [if_neg h1] at hpk
    refine aI k3 ?_
    refine eI (⟨0, none, [], en, t⟩ : PlX) (aI ⟨by show [Value.pointer _, Value.string (subS (mkS B) (((us.length + 1 : Nat) : Int)).toNat (((mkS B).data.size : Int)).toNat)] = _; rw [j4], rfl, rfl, aH _⟩ ?_)
    have hlk : lookT ([] : List (Bl × Nat)) t = none := rfl
    refine ifK (fun g => ?_) (fun g => ?_)
    ·have g : a + (us.length + 1) < 16384 := by have g : decide (IntKind.i64.wrap ((a : Int) + ((us.length + 1 : Nat) : Int)) < 16384) = true := g; rw [j8] at g; have := oT g; simp only [aC] at this; omega
     refine aI k3 ?_
     refine aI (by rw [h2s, h2b]; simp only [bA, dT]; exact ⟨⟨⟨⟨⟨⟨rfl, rfl⟩, bL (by rw [zAe layT.g layT.k layT.len]; exact aJ _)⟩, rfl⟩, (by simp at hFl hlen2; omega)⟩, (by simp at hFl hlen2; omega)⟩, bL (by rw [zAe layT.g layT.k layT.len]; show (F.length + 1) * 2 + 1 <= 0 + (F.length + 1) * 2 + 2; omega)⟩) ?_
     refine aI k1 ?_
     refine aI (k6 h1) ?_
     refine ifK (fun g => ab (aA g) (by rw [l7, hel h1]; omega)) (fun _ => ?_)
     refine aI (by rw [l7, hby, h1s]; simp only [bA, dT]; exact ⟨⟨⟨⟨⟨⟨rfl, rfl⟩, bL (by simp)⟩, hst⟩, (by omega)⟩, (by omega)⟩, bL (by have := (hct h1).1; simp; omega)⟩) ?_
     have hc1 := hct h1
     have hull : (us ++ t.take (c + 1)).length + 1 = us.length + 1 + c + 1 := by rw [aB, hel h1]; omega
     have hdr : B.drop (u :: (us ++ t.take (c + 1))).length = t.drop (c + 1) := by rw [aC, hull, <- ht, List.drop_drop]; rfl
     refine ⟨(u :: (us ++ t.take (c + 1)), p :: (F ++ [(t, a + (us.length + 1))])), ⟨?_, ?_, ?_, ?_, fu, ?_, ?_⟩, ?_, ?_⟩
     ·show (u :: (us ++ t.take (c + 1))).length <= B.length
      rw [aC, hull]; simp only [aC] at htl; omega
     ·show Nm (B.drop (u :: (us ++ t.take (c + 1))).length)
      rw [hdr]; exact hc1.2
     ·intro h; cases h
     ·show List.length _ <= (u :: (us ++ t.take (c + 1))).length
      have e : (u :: (us ++ t.take (c + 1))).length = us.length + 1 + c + 1 := hull
      rw [e]; simp only [aC, aB, List.length_nil] at hFl ⊢; omega
     ·show (B.drop (u :: (us ++ t.take (c + 1))).length).length <= fu
      rw [hdr, aM]; omega
     ·show ((u :: (us ++ t.take (c + 1))) ++ (packN [] a fu (B.drop (u :: (us ++ t.take (c + 1))).length) (u :: (us ++ t.take (c + 1))).length).1, (p :: (F ++ [(t, a + (us.length + 1))])) ++ (packN [] a fu (B.drop (u :: (us ++ t.take (c + 1))).length) (u :: (us ++ t.take (c + 1))).length).2) = R
      rw [hdr, aC]
      have hpk : ((u :: us) ++ (t.take (c + 1) ++ (packN [] a fu (t.drop (c + 1)) (us.length + 1 + c + 1)).1), (p :: F) ++ (if a + (us.length + 1) < 16384 then (t, a + (us.length + 1)) :: (packN [] a fu (t.drop (c + 1)) (us.length + 1 + c + 1)).2 else (packN [] a fu (t.drop (c + 1)) (us.length + 1 + c + 1)).2)) = R := hpk
      rw [<- hpk, hull]; simp only [if_pos g]; simp [aN]
     ·show B.length - (u :: (us ++ t.take (c + 1))).length < B.length - (us.length + 1)
      rw [aC, hull]; simp only [aC] at htl; omega
     exact rcq [5, 4] ⟨(sP rfl rfl), (sI rfl), ⟨_, rfl, .string _⟩, ⟨_, rfl, by rw [l7, show (us ++ t.take (c + 1)).length + 1 = us.length + 1 + (t.take (c + 1)).length by rw [aB]; omega]; exact .sl _ _ _ _ _ rfl⟩, ⟨_, rfl, by rw [show (F ++ [(t, a + (us.length + 1))]).length + 1 = F.length + 1 + 1 by simp]; exact .sl _ _ _ _ _ rfl⟩, ⟨_, rfl, by rw [l5, show (u :: us).length + c + 1 = (u :: (us ++ t.take (c + 1))).length by rw [aC, aC, hull]]; exact .int _ _⟩, tv⟩ ⟨bpo rfl, ⟨by decide, _, rfl, zAv (by rw [l7, h1s, aR, aD (by simp)]; simp <;> rfl) (zAa _)⟩, ⟨by decide, _, rfl, zAv (by rw [h2s, l4, l8, aD (by rw [zAe layT.g layT.k layT.len]; exact aJ _)]; simp [layT]) (zAc layT.g layT.plain _)⟩, tv⟩ .nil
    have g : ¬ a + (us.length + 1) < 16384 := fun hlt => by have g : decide (IntKind.i64.wrap ((a : Int) + ((us.length + 1 : Nat) : Int)) < 16384) = false := g; rw [j8] at g; exact ab (show ((a + (u :: us).length : Nat) : Int) < 16384 by simp only [aC]; omega) (oF g)
    refine aI k1 ?_
    refine aI (k6 h1) ?_
    refine ifK (fun g => ab (aA g) (by rw [l7, hel h1]; omega)) (fun _ => ?_)
    refine aI (by rw [l7, hby, h1s]; simp only [bA, dT]; exact ⟨⟨⟨⟨⟨⟨rfl, rfl⟩, bL (by simp)⟩, hst⟩, (by omega)⟩, (by omega)⟩, bL (by have := (hct h1).1; simp; omega)⟩) ?_
    have hc1 := hct h1
    have hull : (us ++ t.take (c + 1)).length + 1 = us.length + 1 + c + 1 := by rw [aB, hel h1]; omega
    have hdr : B.drop (u :: (us ++ t.take (c + 1))).length = t.drop (c + 1) := by rw [aC, hull, <- ht, List.drop_drop]; rfl
    refine ⟨(u :: (us ++ t.take (c + 1)), p :: F), ⟨?_, ?_, ?_, ?_, fu, ?_, ?_⟩, ?_, ?_⟩
    ·show (u :: (us ++ t.take (c + 1))).length <= B.length
     rw [aC, hull]; simp only [aC] at htl; omega
    ·show Nm (B.drop (u :: (us ++ t.take (c + 1))).length)
     rw [hdr]; exact hc1.2
    ·intro h; cases h
    ·show List.length _ <= (u :: (us ++ t.take (c + 1))).length
     have e : (u :: (us ++ t.take (c + 1))).length = us.length + 1 + c + 1 := hull
     rw [e]; simp only [aC, aB, List.length_nil] at hFl ⊢; omega
    ·show (B.drop (u :: (us ++ t.take (c + 1))).length).length <= fu
     rw [hdr, aM]; omega
    ·show ((u :: (us ++ t.take (c + 1))) ++ (packN [] a fu (B.drop (u :: (us ++ t.take (c + 1))).length) (u :: (us ++ t.take (c + 1))).length).1, (p :: F) ++ (packN [] a fu (B.drop (u :: (us ++ t.take (c + 1))).length) (u :: (us ++ t.take (c + 1))).length).2) = R
     rw [hdr, aC]
     have hpk : ((u :: us) ++ (t.take (c + 1) ++ (packN [] a fu (t.drop (c + 1)) (us.length + 1 + c + 1)).1), (p :: F) ++ (if a + (us.length + 1) < 16384 then (t, a + (us.length + 1)) :: (packN [] a fu (t.drop (c + 1)) (us.length + 1 + c + 1)).2 else (packN [] a fu (t.drop (c + 1)) (us.length + 1 + c + 1)).2)) = R := hpk
     rw [<- hpk, hull]; simp only [if_neg g]; simp [aN]
    ·show B.length - (u :: (us ++ t.take (c + 1))).length < B.length - (us.length + 1)
     rw [aC, hull]; simp only [aC] at htl; omega
    exact rcq [3, 2] ⟨(sP rfl rfl), (sI rfl), ⟨_, rfl, .string _⟩, ⟨_, rfl, by rw [l7, show (us ++ t.take (c + 1)).length + 1 = us.length + 1 + (t.take (c + 1)).length by rw [aB]; omega]; exact .sl _ _ _ _ _ rfl⟩, (sL rfl rfl), ⟨_, rfl, by rw [l5, show (u :: us).length + c + 1 = (u :: (us ++ t.take (c + 1))).length by rw [aC, aC, hull]]; exact .int _ _⟩, tv⟩ ⟨bpo rfl, ⟨by decide, _, rfl, zAv (by rw [l7, h1s, aR, aD (by simp)]; simp <;> rfl) (zAa _)⟩, bpo (zAc layT.g layT.plain _), tv⟩ .nil
   have h1 : c = 0 := by have h1 : (((atS (mkS B) ((us.length + 1 : Nat) : Int)).toNat : Int) != 0) = false := h1; rw [j2] at h1; have : (c : Int) = 0 := by simpa using h1
                         omega
   rw [if_pos h1] at hpk
   refine aI rfl (zAg (rcq [1, 2] (d := 7) (d2 := 3) (lv := [(0, pt 0), (1, .int .i64 (a : Int)), (2, .string (mkS B)), (9, sq 1 (us.length + 1) U), (10, sq 2 (F.length + 1) U), (11, .int .i64 ((us.length + 1 : Nat) : Int))]) (bs := [(0, .cells [.slice none 0 0, .int .i64 en] 74), (1, .cells ((u :: us).map byV) 5), (2, .cells ((p :: F).flatMap layT.g) 130)]) (W := []) (m := 3) (df := []) ⟨(sP rfl rfl), (sI rfl), ⟨_, rfl, .string _⟩, (sL rfl rfl), (sL rfl rfl), (sI rfl), tv⟩ ⟨bpo rfl, bpo (zAa _), bpo (zAc layT.g layT.plain _), tv⟩ .nil) (fun f => ?_))
   refine hex (u :: us) (p :: F) (us.length + 1) f (by simp only [aC] at htl; omega) (fun h => by cases h) (.inl ⟨?_, ?_⟩) (by simp at hlen2 ⊢; omega)
   ·rw [show B.getD (us.length + 1) 0 = t.getD 0 0 from hB0]; exact UInt8.toNat_inj.1 (by rw [hc, h1]; rfl)
   rw [<- hpk]; simp
theorem rname0_fn (a en : Nat) (B : Bl) (ha : a <= 65535) (hen : en <= a) (hB : Nm B) (hlB : B.length <= 255) :
  ∃ r, FnS Try.prog 0 75 [pt 0, .int .i64 (a : Int), .string (mkS B)] (heap 1 [(0, .cells [.slice none 0 0, .int .i64 (en : Int)] 74)]) 1 r /\
   ∃ H m wr b l, r = .ret (.tuple #[sq b (packN [] a B.length B 0).1.length U, .int .i64 0]) H m wr /\ (1 <= b /\ b < JJ /\ 0 ∈ wr) /\ H.get b = some (.cells ((packN [] a B.length B 0).1.map byV) 5) /\
    ((packN [] a B.length B 0).2 = [] /\ H.get 0 = some (.cells [.slice none 0 0, .int .i64 ((a + (packN [] a B.length B 0).1.length : Nat) : Int)] 74) \/ (packN [] a B.length B 0).2 ≠ [] /\ (1 <= l /\ l < JJ /\ l ≠ b) /\ H.get 0 = some (.cells [sq l (packN [] a B.length B 0).2.length U, .int .i64 ((a + (packN [] a B.length B 0).1.length : Nat) : Int)] 74) /\ H.get l = some (.cells ((packN [] a B.length B 0).2.flatMap layT.g) 130)) := by
 have hsh : shortB (mkS B) = true := by unfold shortB; rw [zAr]; exact bL (by omega)
 have hlab : (labels (bs (mkS B))).2 = 0 := by rw [show bs (mkS B) = B from by simp [bs, mkS]]; exact (zAu B).2 ⟨hB, hlB⟩
 have h1s : (Try.prog.types[5]).size = 1 := by kernel_rfl
 have hby : (Try.prog.types[5]).bytes = 1 := by kernel_rfl
 have h2s : (Try.prog.types[130]).size = 2 := by kernel_rfl
 have h2b : (Try.prog.types[130]).bytes = 24 := by kernel_rfl
 refine zBh mixed tbPk9 [1, 2] Try.func75 (c := bodyOf Try.f75) (by kernel_rfl) ?_
 refine aI hsh ?_
 refine ifK (fun g => by have g : ((labels (bs (mkS B))).2 != 0) = true := g; rw [hlab] at g; cases g) (fun _ => ?_)
 refine ifK (fun g => ab (oT g) (by omega)) (fun _ => ?_)
 refine ifK (fun g => ab (oT g) (by omega)) (fun _ => ?_)
 refine zTh a (en : Int) B ha hB hlB (rcq [] ⟨(sP rfl rfl), (sI rfl), ⟨_, rfl, .string _⟩, ⟨_, rfl, zAf 8 rfl⟩, ⟨_, rfl, zAf 8 rfl⟩, (sI rfl), tv⟩ ⟨bpo rfl, tv⟩ .nil) ?_
 intro out F i f hi hoF hor hl
 have e1 : inI (i : Int) (mkS B).data.size = true := by rw [zAr]; simp [inI]; omega
 have e2 : ((atS (mkS B) (i : Int)).toNat : Int) = ((B.getD i 0).toNat : Int) := by rw [zKk]
 cases out with
 | nil =>
  have hF0 : F = [] := hoF rfl
  subst hF0
  rcases hor with ⟨c0, hR⟩ | ⟨_, hR⟩
  ·rw [<- hR]
   refine aI e1 ?_
   refine ifK (fun _ => ?_) (fun g => by have g : (((atS (mkS B) (i : Int)).toNat : Int) == 0) = false := g; rw [e2, c0] at g; cases g)
   refine eI [Value.int .u8 0] (aI rfl ?_)
   refine aI (by kernel_rfl) ?_
   have ew : IntKind.i64.wrap ((a : Int) + ((1 : Nat) : Int)) = ((a + 1 : Nat) : Int) := by rw [zAp (by omega) (by omega)]; omega
   refine ⟨_, _, _, 2, 0, rfl, ⟨by decide, by decide, List.mem_of_elem_eq_true (by kernel_rfl)⟩, rfl, .inl ⟨rfl, ?_⟩⟩
   show some (AObj.cells [.slice none 0 0, .int .i64 (IntKind.i64.wrap ((a : Int) + ((1 : Nat) : Int)))] _) = _
   rw [ew]; rfl
  exact ab (congrArg Prod.fst hR).symm (zCn [] a _ B 0 hB.pos)
 | cons u us =>
  have hl : us.length + 1 <= 257 := hl
  cases F with
  | nil =>
   rcases hor with ⟨c0, hR⟩ | ⟨c0, hR⟩
   ·have eL : (packN [] a B.length B 0).1.length = us.length + 1 + 1 := by rw [<- hR]; simp
    rw [eL, <- hR]
    refine aI e1 ?_
    refine ifK (fun _ => ?_) (fun g => by have g : (((atS (mkS B) (i : Int)).toNat : Int) == 0) = false := g; rw [e2, c0] at g; cases g)
    refine eI [Value.int .u8 0] (aI rfl ?_)
    refine aI (by rw [hby, h1s]; simp only [bA, dT]; exact ⟨⟨⟨⟨⟨⟨rfl, rfl⟩, bL (by simp)⟩, rfl⟩, (by omega)⟩, (by omega)⟩, bL (by simp)⟩) ?_
    have ew : IntKind.i64.wrap ((a : Int) + ((us.length + 1 + 1 : Nat) : Int)) = ((a + (us.length + 1 + 1) : Nat) : Int) := by rw [zAp (by omega) (by omega)]; omega
    refine ⟨_, _, _, 3, 0, rfl, ⟨by decide, by decide, List.mem_of_elem_eq_true (by kernel_rfl)⟩, (show some (AObj.cells (List.take _ _ ++ _) _) = _ from by rw [h1s, aR, aD (by simp)]; simp <;> rfl), .inl ⟨rfl, ?_⟩⟩
    show some (AObj.cells [.slice none 0 0, .int .i64 (IntKind.i64.wrap ((a : Int) + ((us.length + 1 + 1 : Nat) : Int)))] _) = _
    rw [ew] <;> rfl
   have eL : (packN [] a B.length B 0).1.length = us.length + 1 := by rw [<- hR]; rfl
   rw [eL, <- hR]
   refine aI e1 ?_
   refine ifK (fun g => by have g : (((atS (mkS B) (i : Int)).toNat : Int) == 0) = true := g; rw [e2] at g; exact ab (UInt8.toNat_inj.1 (show (B.getD i 0).toNat = (0 : UInt8).toNat by have g : ((B.getD i 0).toNat : Int) = 0 := (by simpa using g); show _ = 0; omega)) c0) (fun _ => ?_)
   have ew : IntKind.i64.wrap ((a : Int) + ((us.length + 1 : Nat) : Int)) = ((a + (us.length + 1) : Nat) : Int) := by rw [zAp (by omega) (by omega)]; omega
   refine ⟨_, _, _, 1, 0, rfl, ⟨by decide, by decide, List.mem_of_elem_eq_true (by kernel_rfl)⟩, rfl, .inl ⟨rfl, ?_⟩⟩
   show some (AObj.cells [.slice none 0 0, .int .i64 (IntKind.i64.wrap ((a : Int) + ((us.length + 1 : Nat) : Int)))] _) = _
   rw [ew] <;> rfl
  | cons p F =>
   rcases hor with ⟨c0, hR⟩ | ⟨c0, hR⟩
   ·have eL : (packN [] a B.length B 0).1.length = us.length + 1 + 1 := by rw [<- hR]; simp
    rw [eL, <- hR]
    refine aI e1 ?_
    refine ifK (fun _ => ?_) (fun g => by have g : (((atS (mkS B) (i : Int)).toNat : Int) == 0) = false := g; rw [e2, c0] at g; cases g)
    refine aI (by rw [hby, h1s]; simp only [bA, dT]; exact ⟨⟨⟨⟨⟨⟨rfl, rfl⟩, bL (by simp)⟩, rfl⟩, (by omega)⟩, (by omega)⟩, bL (by simp)⟩) ?_
    refine eI ((p :: F).flatMap layT.g) (aI ?_ ?_)
    ·exact zKf (pre := []) (post := []) (l := p :: F) h2s (by rw [aF, List.nil_append]; kernel_rfl)
    have hFb : F.length + 1 <= 300 := by have := zBd [] a B.length B 0; rw [eL, <- hR] at this; simp only [aC] at this; omega
    have ho1 : oneL ((p :: F).flatMap layT.g) = true := oneT _
    refine aI (by rw [h2b, bA]; exact ⟨aX (by omega), aX (by omega)⟩) ?_
    have ew : IntKind.i64.wrap ((a : Int) + ((us.length + 1 + 1 : Nat) : Int)) = ((a + (us.length + 1 + 1) : Nat) : Int) := by rw [zAp (by omega) (by omega)]; omega
    refine ⟨_, _, _, 4, 5, rfl, ⟨by decide, by decide, List.mem_of_elem_eq_true (by kernel_rfl)⟩, (show some (AObj.cells (List.take _ _ ++ _) _) = _ from by rw [h1s, aR, aD (by simp)]; simp <;> rfl), .inr ⟨aZ _ _, ⟨by decide, by decide, by decide⟩, ?_, ?_⟩⟩
    ·show some (AObj.cells [sq 5 (F.length + 1) U, .int .i64 (IntKind.i64.wrap ((a : Int) + ((us.length + 1 + 1 : Nat) : Int)))] _) = _
     rw [ew] <;> rfl
    rfl
   have eL : (packN [] a B.length B 0).1.length = us.length + 1 := by rw [<- hR]; rfl
   rw [eL, <- hR]
   refine aI e1 ?_
   refine ifK (fun g => by have g : (((atS (mkS B) (i : Int)).toNat : Int) == 0) = true := g; rw [e2] at g; exact ab (UInt8.toNat_inj.1 (show (B.getD i 0).toNat = (0 : UInt8).toNat by have g : ((B.getD i 0).toNat : Int) = 0 := (by simpa using g); show _ = 0; omega)) c0) (fun _ => ?_)
   refine eI ((p :: F).flatMap layT.g) (aI ?_ ?_)
   ·exact zKf (pre := []) (post := []) (l := p :: F) h2s (by rw [aF, List.nil_append]; kernel_rfl)
   have hFb : F.length + 1 <= 300 := by have := zBd [] a B.length B 0; rw [eL, <- hR] at this; simp only [aC] at this; omega
   have ho1 : oneL ((p :: F).flatMap layT.g) = true := oneT _
   refine aI (by rw [h2b, bA]; exact ⟨aX (by omega), aX (by omega)⟩) ?_
   have ew : IntKind.i64.wrap ((a : Int) + ((us.length + 1 : Nat) : Int)) = ((a + (us.length + 1) : Nat) : Int) := by rw [zAp (by omega) (by omega)]; omega
   refine ⟨_, _, _, 1, 3, rfl, ⟨by decide, by decide, List.mem_of_elem_eq_true (by kernel_rfl)⟩, rfl, .inr ⟨aZ _ _, ⟨by decide, by decide, by decide⟩, ?_, ?_⟩⟩
   ·show some (AObj.cells [sq 3 (F.length + 1) U, .int .i64 (IntKind.i64.wrap ((a : Int) + ((us.length + 1 : Nat) : Int)))] _) = _
    rw [ew] <;> rfl
   rfl
theorem rnameE_fn (a : Int) (en : Nat) (cells : List Value) (hp : plainL cells = true) (c : Nat) (s : ByteArray) (hs : shortB s = true) (he : pnE en a s ≠ 0) :
  ∃ r, FnS Try.prog 0 75 [pt 0, .int .i64 a, .string s] (heap 2 [(0, .cells [sq 1 c U, .int .i64 (en : Int)] 74), (1, .cells cells 130)]) 2 r /\
   ∃ H m wr, r = .ret (.tuple #[.slice none 0 0, .int .i64 (pnE en a s)]) H m wr /\ ∀ k ∈ wr, 2 <= k := by
 refine zBh mixed tbPk9 [1, 2, 3] Try.func75 (c := bodyOf Try.f75) (by kernel_rfl) ?_
 unfold pnE at he ⊢
 refine aI hs ?_
 refine ifK (fun g => ?_) (fun g => ?_)
 ·have g : (labels (bs s)).2 ≠ 0 := by have g : ((labels (bs s)).2 != 0) = true := g; simpa using g
  rw [if_pos g]; exact ⟨_, _, _, rfl, zGf rfl⟩
 have g : (labels (bs s)).2 = 0 := by have g : ((labels (bs s)).2 != 0) = false := g; simpa using g
 rw [if_neg (by simpa using g)] at he ⊢
 refine ifK (fun h1 => ?_) (fun h1 => ?_)
 ·have h1 := oT h1
  rw [if_pos (.inl h1)]; exact ⟨_, _, _, rfl, zGf rfl⟩
 have h1 := oF h1
 refine ifK (fun h2 => ?_) (fun h2 => ?_)
 ·have h2 := oT h2
  rw [if_pos (.inr h2)]; exact ⟨_, _, _, rfl, zGf rfl⟩
 have h2 := oF h2
 rw [if_neg (by omega)] at he ⊢
 refine ifK (fun h3 => ?_) (fun h3 => ?_)
 ·have h3 := oT h3
  rw [if_pos h3]; exact ⟨_, _, _, rfl, zGf rfl⟩
 have h3 := oF h3
 rw [if_neg h3] at he
 exact ab rfl he
theorem zXh (a : Int) (en : Nat) (s : ByteArray) (hs : shortB s = true) (he : pnE en a s ≠ 0) :
  ∃ r, FnS Try.prog 0 75 [pt 0, .int .i64 a, .string s] (heap 1 [(0, .cells [.slice none 0 0, .int .i64 (en : Int)] 74)]) 1 r /\
   ∃ H m wr, r = .ret (.tuple #[.slice none 0 0, .int .i64 (pnE en a s)]) H m wr /\ ∀ k ∈ wr, 1 <= k := by
 refine zBh mixed tbPk9 [1, 2, 3] Try.func75 (c := bodyOf Try.f75) (by kernel_rfl) ?_
 unfold pnE at he ⊢
 refine aI hs ?_
 refine ifK (fun g => ?_) (fun g => ?_)
 ·have g : (labels (bs s)).2 ≠ 0 := by have g : ((labels (bs s)).2 != 0) = true := g; simpa using g
  rw [if_pos g]; exact ⟨_, _, _, rfl, zGf rfl⟩
 have g : (labels (bs s)).2 = 0 := by have g : ((labels (bs s)).2 != 0) = false := g; simpa using g
 rw [if_neg (by simpa using g)] at he ⊢
 refine ifK (fun h1 => ?_) (fun h1 => ?_)
 ·have h1 := oT h1
  rw [if_pos (.inl h1)]; exact ⟨_, _, _, rfl, zGf rfl⟩
 have h1 := oF h1
 refine ifK (fun h2 => ?_) (fun h2 => ?_)
 ·have h2 := oT h2
  rw [if_pos (.inr h2)]; exact ⟨_, _, _, rfl, zGf rfl⟩
 have h2 := oF h2
 rw [if_neg (by omega)] at he ⊢
 refine ifK (fun h3 => ?_) (fun h3 => ?_)
 ·have h3 := oT h3
  rw [if_pos h3]; exact ⟨_, _, _, rfl, zGf rfl⟩
 have h3 := oF h3
 rw [if_neg h3] at he
 exact ab rfl he
structure RnX where
 pb : Nat
 v : Option Nat
 en : Nat
 T : List (Bl × Nat)
 a : Int
 s : ByteArray
 er : Bool
 o : Bl
 F : List (Bl × Nat)
def rnV (v : Option Nat) (T : List (Bl × Nat)) : Value := match v with
 | none => .slice none 0 0
 | some b => sq b T.length U
def rnAt (v : Option Nat) (T : List (Bl × Nat)) (H : Tr AObj) : Prop := match v with
 | none => T = []
 | some b => H.get b = some (.cells (T.flatMap layT.g) 130) /\ T ≠ []
def rnO (pb : Nat) (v : Option Nat) (T : List (Bl × Nat)) (a : Int) (o : Bl) (F : List (Bl × Nat)) (H : Tr AObj) (n : Nat) : Res := match v, F with
 | none, [] => .ret (.tuple #[sq n o.length U, .int .i64 0]) ((H.set pb (some (.cells [.slice none 0 0, .int .i64 ((a.toNat + o.length : Nat) : Int)] 74))).set n (some (.cells (o.map byV) 5))) (n + 1) [pb]
 | none, p :: F => .ret (.tuple #[sq n o.length U, .int .i64 0]) (((H.set pb (some (.cells [.slice (some ⟨n + 1, 0, none⟩) (T ++ p :: F).length U, .int .i64 ((a.toNat + o.length : Nat) : Int)] 74))).set n (some (.cells (o.map byV) 5))).set (n + 1) (some (.cells ((T ++ p :: F).flatMap layT.g) 130))) (n + 2) [pb]
 | some b, [] => .ret (.tuple #[sq n o.length U, .int .i64 0]) ((H.set pb (some (.cells [sq b T.length U, .int .i64 ((a.toNat + o.length : Nat) : Int)] 74))).set n (some (.cells (o.map byV) 5))) (n + 1) [pb, b]
 | some b, p :: F => .ret (.tuple #[sq n o.length U, .int .i64 0]) ((((H.set pb (some (.cells [.slice (some ⟨n + 1, 0, none⟩) (T ++ p :: F).length U, .int .i64 ((a.toNat + o.length : Nat) : Int)] 74))).set b none).set n (some (.cells (o.map byV) 5))).set (n + 1) (some (.cells ((T ++ p :: F).flatMap layT.g) 130))) (n + 2) [pb, b]
def RnX.res (x : RnX) (H : Tr AObj) (n : Nat) : Res := match x.er with
 | true => .ret (.tuple #[.slice none 0 0, .int .i64 (pnE x.en x.a x.s)]) H n []
 | false => rnO x.pb x.v x.T x.a x.o x.F H n
theorem rn_pre {v v' : Option Nat} {T T' : List (Bl × Nat)} {en en' : Nat} {H : Tr AObj} {pb : Nat} (h2 : H.get pb = some (.cells [rnV v T, .int .i64 (en : Int)] 74)) (k2 : H.get pb = some (.cells [rnV v' T', .int .i64 (en' : Int)] 74)) (h3 : rnAt v T H) (k3 : rnAt v' T' H) : v = v' /\ T = T' /\ en = en' := by
 rw [h2] at k2
 simp only [aP, AObj.cells.injEq, aQ, Value.int.injEq, true_and, and_true] at k2
 obtain ⟨hv, e⟩ := k2
 have e : en = en' := by omega
 subst e
 cases v with
 | none => cases v' with
  | none => have h3 : T = [] := h3; have k3 : T' = [] := k3; rw [h3, k3]; exact ⟨rfl, rfl, rfl⟩
  | some p => cases hv
 | some p => cases v' with
  | none => cases hv
  | some q =>
   simp only [rnV, Value.slice.injEq, aP, Addr.mk.injEq, and_true] at hv
   obtain ⟨rfl, _⟩ := hv
   have h3 : H.get p = some (.cells (T.flatMap layT.g) 130) := h3.1
   have k3 : H.get p = some (.cells (T'.flatMap layT.g) 130) := k3.1
   rw [h3] at k3
   simp only [aP, AObj.cells.injEq, and_true] at k3
   exact ⟨rfl, layT.flat_inj _ _ k3, rfl⟩
theorem zBp (σ : Nat -> Nat -> Prop) (k b : Nat) (h : σ k b) (c : Nat) (e : Int) : RO Try.prog σ (.cells [sq k c U, .int .i64 e] 74) (.cells [sq b c U, .int .i64 e] 74) := RO.cells [_, _] [] _ _ (.cons _ _ _ _ (.sl _ _ _ _ _ h) (.cons _ _ _ _ (.int _ _) .nil))
theorem pb_ne {H : Tr AObj} {pb b : Nat} {l l' : List Value} (h2 : H.get pb = some (.cells l 74)) (h3 : H.get b = some (.cells l' 130)) : pb ≠ b := fun e => by
 subst e; rw [h2] at h3
 have : (74 : Nat) = 130 := by
  simp only [aP, AObj.cells.injEq] at h3; exact h3.2
 exact ab this (by decide)
theorem rn_ok0 (pb en : Nat) (a : Int) (s : ByteArray) (hs : shortB s = true) (H : Tr AObj) (n : Nat) (h2 : H.get pb = some (.cells [.slice none 0 0, .int .i64 (en : Int)] 74)) (R : Bl × List (Bl × Nat)) (he : pnE en a s = 0) (hR : packN [] a.toNat (bs s).length (bs s) 0 = R) :
  CallOK Try.prog 0 75 [pt pb, .int .i64 a, .string s] H n (rnO pb none [] a R.1 R.2 H n) := by
 obtain ⟨k, rfl, hk, hen, hB, hlB, es⟩ := zKb he
 obtain ⟨r, hF, H', m, wr, b, l, rfl, ⟨hb1, hbJ, w0⟩, g1, g2⟩ := rname0_fn k en (bs s) hk hen hB hlB
 rw [es] at hF
 rw [aO] at hR
 rw [hR] at g1 g2 hF
 obtain ⟨o, F⟩ := R
 have hcb : CallB Try.prog [pb] H (heap 1 [(0, .cells [.slice none 0 0, .int .i64 (en : Int)] 74)]) := zCl ⟨⟨pb, _, rfl, h2, .same rfl⟩, tv⟩
 have harg : RL (caR [pb]) [pt pb, .int .i64 (k : Int), .string s] [pt 0, .int .i64 (k : Int), .string s] := .cons _ _ _ _ (.ptr _ _ _ rfl) (.cons _ _ _ _ (.int _ _) (.cons _ _ _ _ (.string _) .nil))
 have hw0 : ∀ j ob, (heap 1 [(0, AObj.cells [.slice none 0 0, .int .i64 (en : Int)] 74)]).get j = some ob -> j < [pb].length -> ¬ ob.isWin := fun j ob ho hj => by
  match j, hj, ho with
  | 0, _, ho => have ho : some (AObj.cells _ _) = some ob := ho; cases ho; exact fun h => h
  | j + 1, hj, _ => exact ab (show j + 1 < 1 from hj) (by omega)
 have hw : ∀ j ∈ [pb], ∃ o, H.get j = some o /\ ¬ o.isWin := fun j hj => by
  simp only [List.mem_singleton] at hj; subst hj; exact ⟨_, h2, fun h => h⟩
 rcases g2 with ⟨f0, g2⟩ | ⟨f0, ⟨hl1, hlJ, hlb⟩, g2, g3⟩
 ·have f0 : F = [] := f0
  subst f0
  refine zAt [pb] [b] [(pb, some (.cells [.slice none 0 0, .int .i64 ((k + o.length : Nat) : Int)] 74)), (n, some (.cells (o.map byV) 5))] hF (by simp) hcb harg hw0 hw (by simp) (fun x hx => by simp at hx; subst hx; exact ⟨hb1, hbJ, by rw [g1]; simp⟩)
   (.tuple _ _ (.cons _ _ _ _ (.sl _ _ _ _ _ (zGe (A := [pb]) hb1)) (.cons _ _ _ _ (.int _ _) .nil))) (fun p hp => by simp at hp; rcases hp with rfl | rfl <;> simp) (fun q j e1 _ => .inl (by have := List.mem_of_getElem? e1; simp at this; subst this; simp)) (fun j ob hm => ?_)
  rcases aK.1 hm with e | hm
  ·cases e; exact ⟨0, _, zBt rfl, g2, .same rfl, fun _ => w0⟩
  rcases aK.1 hm with e | hm
  ·cases e; exact ⟨b, _, zGe (A := [pb]) hb1, g1, .same (zAa _), fun h => by have h : b < 1 := h; omega⟩
  cases hm
 obtain ⟨p, F, rfl⟩ : ∃ p F', F = p :: F' := by cases F with | nil => exact ab rfl f0 | cons p F => exact ⟨p, F, rfl⟩
 have hBn : [b, l].Nodup := by simp [Ne.symm hlb]
 have t1 : tau [pb] [b, l] n b n := zDw 0 hBn hb1 rfl
 have t2 : tau [pb] [b, l] n l (n + 1) := zDw 1 hBn hl1 rfl
 refine zAt [pb] [b, l] [(pb, some (.cells [.slice (some ⟨n + 1, 0, none⟩) ([] ++ p :: F).length U, .int .i64 ((k + o.length : Nat) : Int)] 74)), (n, some (.cells (o.map byV) 5)), (n + 1, some (.cells (([] ++ p :: F).flatMap layT.g) 130))] hF (by simp) hcb harg hw0 hw hBn (fun x hx => by
   simp only [aK, List.not_mem_nil, or_false] at hx
   rcases hx with rfl | rfl
   ·exact ⟨hb1, hbJ, by rw [g1]; simp⟩
   exact ⟨hl1, hlJ, by rw [g3]; simp⟩)
  (.tuple _ _ (.cons _ _ _ _ (.sl _ _ _ _ _ t1) (.cons _ _ _ _ (.int _ _) .nil))) (fun p hp => by simp at hp; rcases hp with rfl | rfl | rfl <;> simp) (fun q j e1 _ => .inl (by have := List.mem_of_getElem? e1; simp at this; subst this; simp)) (fun j ob hm => ?_)
 rcases aK.1 hm with e | hm
 ·cases e; exact ⟨0, _, zBt rfl, g2, zBp _ _ _ t2 _ _, fun _ => w0⟩
 rcases aK.1 hm with e | hm
 ·cases e; exact ⟨b, _, t1, g1, .same (zAa _), fun h => by have h : b < 1 := h; omega⟩
 rcases aK.1 hm with e | hm
 ·cases e; exact ⟨l, _, t2, g3, .same (zAc layT.g layT.plain _), fun h => by have h : l < 1 := h; omega⟩
 cases hm
theorem rn_ok1 (pb lb en : Nat) (T : List (Bl × Nat)) (a : Int) (s : ByteArray) (hs : shortB s = true) (hT : goodT T) (hTl : T.length <= 1000000000) (hT0 : T ≠ []) (H : Tr AObj) (n : Nat) (h2 : H.get pb = some (.cells [sq lb T.length U, .int .i64 (en : Int)] 74))
  (h3 : H.get lb = some (.cells (T.flatMap layT.g) 130)) (R : Bl × List (Bl × Nat)) (he : pnE en a s = 0) (hR : packN T a.toNat (bs s).length (bs s) 0 = R) :
  CallOK Try.prog 0 75 [pt pb, .int .i64 a, .string s] H n (rnO pb (some lb) T a R.1 R.2 H n) := by
 obtain ⟨k, rfl, hk, hen, hB, hlB, es⟩ := zKb he
 obtain ⟨r, hF, H', m, wr, b, l, rfl, ⟨hb1, hbJ, w0⟩, hl, g1, g2, g3⟩ := rname_fn k en T (bs s) hk hen hT hTl hT0 hB hlB
 rw [es] at hF
 rw [aO] at hR
 rw [hR] at g1 g2 g3 hF hl
 obtain ⟨o, F⟩ := R
 have hne : pb ≠ lb := pb_ne h2 h3
 have hA : [pb, lb].Nodup := by simp [hne]
 have pT : plainL (T.flatMap layT.g) = true := zAc layT.g layT.plain _
 have hcb : CallB Try.prog [pb, lb] H (heap 2 [(0, .cells [sq 1 T.length U, .int .i64 (en : Int)] 74), (1, .cells (T.flatMap layT.g) 130)]) := zCl ⟨⟨pb, _, rfl, h2, zBp (caR [pb, lb]) lb 1 rfl _ _⟩, ⟨lb, _, rfl, h3, .same pT⟩, tv⟩
 have harg : RL (caR [pb, lb]) [pt pb, .int .i64 (k : Int), .string s] [pt 0, .int .i64 (k : Int), .string s] := .cons _ _ _ _ (.ptr _ _ _ rfl) (.cons _ _ _ _ (.int _ _) (.cons _ _ _ _ (.string _) .nil))
 have hw0 : ∀ j ob, (heap 2 [(0, AObj.cells [sq 1 T.length U, .int .i64 (en : Int)] 74), (1, .cells (T.flatMap layT.g) 130)]).get j = some ob -> j < [pb, lb].length -> ¬ ob.isWin := fun j ob ho hj => by
  match j, hj, ho with
  | 0, _, ho => have ho : some (AObj.cells _ _) = some ob := ho; cases ho; exact fun h => h
  | 1, _, ho => have ho : some (AObj.cells _ _) = some ob := ho; cases ho; exact fun h => h
  | j + 2, hj, _ => exact ab (show j + 2 < 2 from hj) (by omega)
 have hw : ∀ j ∈ [pb, lb], ∃ o, H.get j = some o /\ ¬ o.isWin := fun j hj => by
  simp only [aK, List.not_mem_nil, or_false] at hj
  rcases hj with rfl | rfl
  ·exact ⟨_, h2, fun h => h⟩
  exact ⟨_, h3, fun h => h⟩
 rcases hl with ⟨f0, rfl⟩ | ⟨f0, hl1, hlJ, hlb, w1⟩
 ·have f0 : F = [] := f0
  subst f0
  rw [aF] at g2 g3
  refine zAt [pb, lb] [b] [(pb, some (.cells [sq lb T.length U, .int .i64 ((k + o.length : Nat) : Int)] 74)), (n, some (.cells (o.map byV) 5))] hF hA hcb harg hw0 hw (by simp) (fun x hx => by simp at hx; subst hx; exact ⟨hb1, hbJ, by rw [g1]; simp⟩)
   (.tuple _ _ (.cons _ _ _ _ (.sl _ _ _ _ _ (zGe (A := [pb, lb]) hb1)) (.cons _ _ _ _ (.int _ _) .nil))) (fun p hp => by simp at hp; rcases hp with rfl | rfl <;> simp) (fun q j e1 _ => ?_) (fun j ob hm => ?_)
  ·match q, e1 with
   | 0, e1 => cases e1; exact .inl (by simp)
   | 1, e1 => cases e1; exact .inr ⟨_, _, h3, g3, .same pT⟩
   | q + 2, e1 => simp at e1
  rcases aK.1 hm with e | hm
  ·cases e; exact ⟨0, _, zBt rfl, g2, zBp _ _ _ (zBt rfl) _ _, fun _ => w0⟩
  rcases aK.1 hm with e | hm
  ·cases e; exact ⟨b, _, zGe (A := [pb, lb]) hb1, g1, .same (zAa _), fun h => by have h : b < 2 := h; omega⟩
  cases hm
 obtain ⟨p, F, rfl⟩ : ∃ p F', F = p :: F' := by cases F with | nil => exact ab rfl f0 | cons p F => exact ⟨p, F, rfl⟩
 have hBn : [b, l].Nodup := by simp [Ne.symm hlb]
 have t1 : tau [pb, lb] [b, l] n b n := zDw 0 hBn hb1 rfl
 have t2 : tau [pb, lb] [b, l] n l (n + 1) := zDw 1 hBn hl1 rfl
 refine zAt [pb, lb] [b, l] [(pb, some (.cells [.slice (some ⟨n + 1, 0, none⟩) (T ++ p :: F).length U, .int .i64 ((k + o.length : Nat) : Int)] 74)), (lb, none), (n, some (.cells (o.map byV) 5)), (n + 1, some (.cells ((T ++ p :: F).flatMap layT.g) 130))] hF hA hcb harg hw0 hw hBn (fun x hx => by
   simp only [aK, List.not_mem_nil, or_false] at hx
   rcases hx with rfl | rfl
   ·exact ⟨hb1, hbJ, by rw [g1]; simp⟩
   exact ⟨hl1, hlJ, by rw [g3]; simp⟩)
  (.tuple _ _ (.cons _ _ _ _ (.sl _ _ _ _ _ t1) (.cons _ _ _ _ (.int _ _) .nil))) (fun p hp => by simp at hp; rcases hp with rfl | rfl | rfl | rfl <;> simp) (fun q j e1 _ => .inl (by have := List.mem_of_getElem? e1; simp at this; rcases this with rfl | rfl <;> simp)) (fun j ob hm => ?_)
 rcases aK.1 hm with e | hm
 ·cases e; exact ⟨0, _, zBt rfl, g2, zBp _ _ _ t2 _ _, fun _ => w0⟩
 rcases aK.1 hm with e | hm
 ·cases e
 rcases aK.1 hm with e | hm
 ·cases e; exact ⟨b, _, t1, g1, .same (zAa _), fun h => by have h : b < 2 := h; omega⟩
 rcases aK.1 hm with e | hm
 ·cases e; exact ⟨l, _, t2, g3, .same (zAc layT.g layT.plain _), fun h => by have h : l < 2 := h; omega⟩
 cases hm
noncomputable def zUk : Ct Try.prog 0 :=
 CtR.ct { f := 75, X := RnX,
          pre := fun x as0 H _ => as0 = [.pointer (some ⟨x.pb, 0, none⟩), .int .i64 x.a, .string x.s] /\ H.get x.pb = some (.cells [rnV x.v x.T, .int .i64 (x.en : Int)] 74) /\ rnAt x.v x.T H /\ goodT x.T /\ x.T.length <= 1000000000 /\ shortB x.s = true /\ pnR x.en x.T x.a x.s x.er x.o x.F,
          out := RnX.res,
          tr := fun x H n K => match x.er with
           | true => K (.ret (.tuple #[.slice none 0 0, .int .i64 (pnE x.en x.a x.s)]) H n [])
           | false => frcN x.pb fun pb => match x.v with
            | none => K (rnO pb none x.T x.a x.o x.F H n)
            | some b => frcN b fun b => K (rnO pb (some b) x.T x.a x.o x.F H n),
          trOk := fun x H n K h => by
           obtain ⟨pb, v, en, T, a, s, er, o, F⟩ := x
           cases er with
           | true => exact h
           | false =>
            have h : (frcN pb fun pb => _) := h
            rw [zCe] at h
            cases v with
            | none => exact h
            | some b =>
             have h : (frcN b fun b => _) := h
             rw [zCe] at h
             exact h,
          ok := fun x as0 H n ⟨h1, h2, h3, h4, h5, h6, h7⟩ => by
           subst h1
           obtain ⟨pb, v, en, T, a, s, er, o, F⟩ := x
           have h7 : pnR en T a s er o F := h7
           cases v with
           | none =>
            have h3 : T = [] := h3
            subst h3
            have h2 : H.get pb = some (.cells [.slice none 0 0, .int .i64 (en : Int)] 74) := h2
            cases er with
            | true =>
             obtain ⟨r, hF, H', m, wr, rfl, hw⟩ := zXh a en s h6 h7.ne
             exact zDa [pb] hF hw zSl (.cons _ _ _ _ (.ptr _ _ _ rfl) (.cons _ _ _ _ (.int _ _) (.cons _ _ _ _ (.string _) .nil))) (zCl ⟨⟨pb, _, rfl, h2, .same rfl⟩, tv⟩) rfl
            | false =>
             have := rn_ok0 pb en a s h6 H n h2 (o, F) h7.eq (h7.2 rfl)
             cases F <;> exact this
           | some b =>
            obtain ⟨h3, hT0⟩ := h3
            have h2 : H.get pb = some (.cells [sq b T.length U, .int .i64 (en : Int)] 74) := h2
            cases er with
            | true =>
             have pT : plainL (T.flatMap layT.g) = true := zAc layT.g layT.plain _
             obtain ⟨r, hF, H', m, wr, rfl, hw⟩ := rnameE_fn a en (T.flatMap layT.g) pT T.length s h6 h7.ne
             exact zDa [pb, b] hF hw (zCs (by simp [pb_ne h2 h3])) (.cons _ _ _ _ (.ptr _ _ _ rfl) (.cons _ _ _ _ (.int _ _) (.cons _ _ _ _ (.string _) .nil))) (zCl ⟨⟨pb, _, rfl, h2, zBp (caR [pb, b]) b 1 rfl _ _⟩, ⟨b, _, rfl, h3, .same pT⟩, tv⟩) rfl
            | false =>
             have := rn_ok1 pb b en T a s h6 h4 h5 hT0 H n h2 h3 (o, F) h7.eq (h7.2 rfl)
             cases F <;> exact this,
          uniq := fun x y as0 H n ⟨h1, h2, h3, _, _, _, h7⟩ ⟨k1, k2, k3, _, _, _, k7⟩ => by
           obtain ⟨pb, v, en, T, a, s, er, o, F⟩ := x
           obtain ⟨pb', v', en', T', a', s', er', o', F'⟩ := y
           rw [h1] at k1
           simp only [aQ, Value.pointer.injEq, aP, Addr.mk.injEq, and_true, Value.int.injEq, true_and, Value.string.injEq] at k1
           obtain ⟨rfl, rfl, rfl⟩ := k1
           obtain ⟨rfl, rfl, rfl⟩ := rn_pre h2 k2 h3 k3
           obtain ⟨rfl, e⟩ := pnR.uniq h7 k7
           cases er with
           | true => rfl
           | false => obtain ⟨rfl, rfl⟩ := e rfl; rfl }
theorem zBv {T : List (Bl × Nat)} (hT : goodT T) (a f : Nat) (t : Bl) (o : Nat) : goodT (T ++ (packN T a f t o).2) := by
 obtain ⟨h1, h2⟩ := zHh T a f t o
 refine ⟨?_, fun p hp => ?_⟩
 ·rw [List.map_append, List.nodup_append]
  refine ⟨hT.1, h2, fun x hx y hy e => ?_⟩
  subst e
  obtain ⟨q, hq, rfl⟩ := List.mem_map.1 hy
  exact zEo.1 (h1 q hq).1 hx
 rcases List.mem_append.1 hp with h | h
 ·exact hT.2 p h
 exact (h1 p h).2.2
theorem zAw (T : List (Bl × Nat)) (a : Nat) : ∀ (f : Nat) (t : Bl) (o : Nat), (packN T a f t o).1.length <= t.length + 2
 | 0, _, _ => by simp [packN]
 | f + 1, t, o => by
  unfold packN
  by_cases hc : (t.getD 0 0).toNat = 0
  ·simp only [hc, if_true]; simp
  simp only [hc, if_false]
  cases hl : lookT T t with
  | some k => simp
  | none =>
   have ih := zAw T a f (t.drop ((t.getD 0 0).toNat + 1)) (o + (t.getD 0 0).toNat + 1)
   simp only [aB, aU, aM] at ih ⊢
   omega
def wrN (a : Int) (T : List (Bl × Nat)) : List (Bs × Bool) -> Bl -> List (Bl × Nat) -> Nat -> Int × Bl × List (Bl × Nat) × Nat
 | [], out, F, en => (0, out, F, en)
 | (s, false) :: ps, out, F, en => wrN a T ps (out ++ s) F en
 | (s, true) :: ps, out, F, en =>
  let at' := IntKind.i64.wrap (a + (out.length : Int))
  if pnE en at' (mkS s) ≠ 0 then (pnE en at' (mkS s), [], F, en)
  else let r := packN (T ++ F) at'.toNat s.length s 0
   wrN a T ps (out ++ r.1) (F ++ r.2) (at'.toNat + r.1.length)
def pcsD (t : Int) (l : Bs) : List (Bs × Bool) := match ptsT t with | none => [(l, false)] | some _ => outP t l
def wrD (en : Nat) (T : List (Bl × Nat)) (a t : Int) (l : Bs) : Int × Bl × List (Bl × Nat) × Nat :=
 if checkD t l ≠ 0 then (checkD t l, [], [], en) else wrN a T (pcsD t l) [] [] en
theorem zPk (a : Int) {T : List (Bl × Nat)} : ∀ (ps : List (Bs × Bool)) (out : Bl) (F : List (Bl × Nat)) (en : Nat), goodT (T ++ F) -> goodT (T ++ (wrN a T ps out F en).2.2.1)
 | [], _, _, _, h => h
 | (s, false) :: ps, out, F, en, h => by unfold wrN; exact zPk a ps _ _ _ h
 | (s, true) :: ps, out, F, en, h => by
  unfold wrN
  simp only []
  split
  ·exact h
  refine zPk a ps _ _ _ ?_
  rw [<- aN]
  exact zBv h _ _ _ _
theorem zVy {en : Nat} {T : List (Bl × Nat)} {a t : Int} {l : Bs} (h : goodT T) : goodT (T ++ (wrD en T a t l).2.2.1) := by
 unfold wrD
 split
 ·simpa using h
 exact zPk a _ _ _ _ (by simpa using h)
theorem zCr {en : Nat} {a : Int} {s : ByteArray} (h : pnE en a s = 0) : (0 <= a /\ a <= 65535) /\ en <= a /\ (labels (bs s)).2 = 0 /\ (bs s).length <= 255 := by
 obtain ⟨k, rfl, h1, h2, h3, h4, _⟩ := zKb h
 exact ⟨⟨by omega, by omega⟩, by omega, (zAu _).2 ⟨h3, h4⟩, h4⟩
theorem zTz (a : Int) {T : List (Bl × Nat)} : ∀ (ps : List (Bs × Bool)) (out : Bl) (F : List (Bl × Nat)) (en : Nat), (∀ s, (s, true) ∈ ps -> s.length <= 255) ->
  (wrN a T ps out F en).2.1.length <= out.length + sumL ps + 2 * ps.length /\ (wrN a T ps out F en).2.2.1.length <= F.length + 257 * ps.length /\ ((wrN a T ps out F en).2.2.2 <= en \/ (wrN a T ps out F en).2.2.2 <= 65792)
 | [], _, _, _, _ => ⟨by simp [wrN, sumL], by simp [wrN], .inl (aJ _)⟩
 | (s, false) :: ps, out, F, en, h => by
  unfold wrN
  obtain ⟨h1, h2, h3⟩ := zTz a (T := T) ps (out ++ s) F en (fun s hs => h s (List.mem_cons_of_mem _ hs))
  refine ⟨?_, by simp only [aC]; omega, h3⟩
  simp only [sumL, List.flatMap_cons, aB, aC] at h1 ⊢; omega
 | (s, true) :: ps, out, F, en, h => by
  unfold wrN
  simp only []
  have hs := h s (List.mem_cons_self ..)
  split
  ·exact ⟨by simp, by simp, .inl (aJ _)⟩
  rename_i he
  have hp := zCr (Decidable.not_not.1 he)
  obtain ⟨r, hr⟩ : ∃ r, packN (T ++ F) (IntKind.i64.wrap (a + (out.length : Int))).toNat s.length s 0 = r := ⟨_, rfl⟩
  have l1 := zAw (T ++ F) (IntKind.i64.wrap (a + (out.length : Int))).toNat s.length s 0
  have l2 := zBd (T ++ F) (IntKind.i64.wrap (a + (out.length : Int))).toNat s.length s 0
  rw [hr] at l1 l2 ⊢
  obtain ⟨h1, h2, h3⟩ := zTz a (T := T) ps (out ++ r.1) (F ++ r.2) ((IntKind.i64.wrap (a + (out.length : Int))).toNat + r.1.length) (fun s hs => h s (List.mem_cons_of_mem _ hs))
  refine ⟨?_, ?_, .inr ?_⟩
  ·simp only [sumL, List.flatMap_cons, aB, aC] at h1 ⊢; omega
  ·simp only [aB, aC] at h2 ⊢; omega
  rcases h3 with h3 | h3
  ·omega
  exact h3
theorem cuts_nm : ∀ (ps : List Pt) (l : Bs) (o : List (Bs × Bool)) (r : Bs), cuts ps l = some (o, r) -> ∀ s, (s, true) ∈ o -> (labels s).2 = 0 /\ s.length <= 255
 | [], l, o, r, h, s, hs => by simp only [cuts, aP, Prod.mk.injEq] at h; obtain ⟨rfl, _⟩ := h; cases hs
 | p :: ps, l, o, r, h, s, hs => by
  simp only [cuts] at h
  cases hc : p.cut l with
  | none => rw [hc] at h; cases h
  | some n =>
   rw [hc] at h
   simp only [] at h
   obtain ⟨⟨o', r'⟩, h1, h2⟩ := Option.map_eq_some_iff.1 h
   simp only [Prod.mk.injEq] at h2
   obtain ⟨rfl, rfl⟩ := h2
   rcases aK.1 hs with e | e
   ·simp only [Prod.mk.injEq] at e
    obtain ⟨rfl, e2⟩ := e
    cases p with
    | nm =>
     obtain ⟨_, k2, k3, k4⟩ := zWq hc
     exact ⟨k4, by omega⟩
    | rest => cases e2
    | sz k => cases e2
   exact cuts_nm ps _ _ _ h1 s e
theorem zLk {t : Int} {l : Bs} (h : checkD t l = 0) : (∀ s, (s, true) ∈ pcsD t l -> (labels s).2 = 0 /\ s.length <= 255) /\ sumL (pcsD t l) = l.length /\ (pcsD t l).length <= 3 /\ l.length <= 65535 := by
 obtain ⟨h1, h2, h3, h4⟩ := zCm h
 unfold pcsD
 cases hp : ptsT t with
 | none => exact ⟨fun s hs => by simp at hs, by simp [sumL], by simp, h3⟩
 | some ps =>
  obtain ⟨o, q1, q2⟩ := zOi hp h4
  have e1 : outP t l = o := by unfold outP; rw [q2]
  obtain ⟨w1, w2⟩ := zOa _ _ _ _ q1
  simp only [e1]
  refine ⟨cuts_nm _ _ _ _ q1, ?_, ?_, h3⟩
  ·unfold sumL; rw [aF] at w2; rw [w2]
  rw [w1]
  rcases ptsT_case hp with ⟨_, ⟨_, h⟩ | h⟩
  ·exact h
  rw [h]; decide
theorem zip_pcs : ∀ (ps : List Pt) (l : Bs) (o : List (Bs × Bool)) (r : Bs), cuts ps l = some (o, r) -> (((ps.map Pt.pr).map Pr.i).zip (o.map (·.1))).map (fun x => (x.2, decide (x.1 = -1))) = o
 | [], l, o, r, h => by simp only [cuts, aP, Prod.mk.injEq] at h; obtain ⟨rfl, _⟩ := h; rfl
 | p :: ps, l, o, r, h => by
  simp only [cuts] at h
  cases hc : p.cut l with
  | none => rw [hc] at h; cases h
  | some n =>
   rw [hc] at h
   simp only [] at h
   obtain ⟨⟨o', r'⟩, h1, h2⟩ := Option.map_eq_some_iff.1 h
   simp only [Prod.mk.injEq] at h2
   obtain ⟨rfl, rfl⟩ := h2
   have ih := zip_pcs ps _ _ _ h1
   simp only [List.map_cons, List.zip_cons_cons, ih]
   congr 1
   cases p with
   | nm => rfl
   | rest => rfl
   | sz k =>
    have hk : ¬ (Pr.sz k).i = -1 := by show ¬ ((k : Nat) : Int) = -1; omega
    show (_, decide ((Pr.sz k).i = -1)) = _
    rw [aY hk]; rfl
theorem pcsR_eq {t : Int} {l : Bs} (h : fitsD t l = true) : ((formL t).zip (rpO t l)).map (fun x => (x.2, decide (x.1 = -1))) = pcsD t l /\ (formL t).length = (rpO t l).length := by
 unfold pcsD
 cases hp : ptsT t with
 | none =>
  have e : rpO t l = [l] := by unfold rpO; rw [zOw hp]; simp [cutsR, Pr.cut]
  have e2 : formL t = [-3] := by rw [(zOv t).1, zOw hp]; rfl
  rw [e, e2]; exact ⟨rfl, rfl⟩
 | some ps =>
  obtain ⟨o, q1, q2⟩ := zOi hp h
  have e1 : outP t l = o := by unfold outP; rw [q2]
  obtain ⟨w1, _⟩ := zOa _ _ _ _ q1
  rw [rpO_of hp q2, (zOv t).1, prT_some hp, zip_pcs ps l o [] q1]
  simp only [e1]
  exact ⟨trivial, by simp [w1]⟩
end Go.Proofs.Ytcggcoijhdagnaa
