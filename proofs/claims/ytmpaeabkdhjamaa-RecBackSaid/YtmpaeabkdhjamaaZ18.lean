/- DERIVED. Texts put together: W4, W5, D7, D8, Bk2, D9, R8, PkC, R3, Wr7, Rb1, Ov1, R4, R5, Lv1, Wr8, Rb2, Rb3, Rb4, Rb5, Rb6, Wr9, Sb1, Lv2, Lv3. -/
import Derived.Test.YtmpaeabkdhjamaaZ12
import Derived.Test.YtmpaeabkdhjamaaZ13
import Derived.Test.YtmpaeabkdhjamaaZ17
set_option maxRecDepth 1000000
set_option maxHeartbeats 32000000
namespace Go.Proofs.Ytmpaeabkdhjamaa
open Go Go.RowKit
def wrQ (B : Bl) (x : Int) (r : Res) : Prop := ∃ res, rdOk B x res ∧ ∃ H m wr, r = .ret (rrV res) H m wr ∧ ∀ k ∈ wr, 1 ≤ k
theorem read_fn (l : Bl) (o n c : Nat) (x : Int) (h : o + n ≤ l.length) (hn : n ≤ 1000000000) (hcap : c = U ∨ n ≤ c ∧ c ≤ 9223372036854775807) : ∃ r, FnS Try.prog 0 71 [.slice (some ⟨0, o, none⟩) n c, .int .i64 x] (heap 1 [(0, .win (l.map byV) 1)]) 1 r ∧ wrQ ((l.drop o).take n) x r := by
 have hlB := lenB h
 refine zBu mixed tbW3 [0, 4] Try.func71 (c := bodyOf Try.f71) (by kernel_rfl) ?_
 refine ifK (fun h1 => ?_) (fun h1 => ?_)
 ·have h1 := of_decide_eq_true h1
  exact ⟨⟨[], 0, 5, 0⟩, .inl ⟨.inl h1, rfl⟩, _, _, _, rfl, zAq rfl⟩
 have h1 := of_decide_eq_false h1
 refine ifK (fun h2 => ?_) (fun h2 => ?_)
 ·have h2 := of_decide_eq_true h2
  exact ⟨⟨[], 0, 5, 0⟩, .inl ⟨.inr (by rw [hlB]; omega), rfl⟩, _, _, _, rfl, zAq rfl⟩
 have h2 := of_decide_eq_false h2
 obtain ⟨a, rfl⟩ : ∃ a : Nat, x = (a : Int) := ⟨x.toNat, by omega⟩
 have ha : a ≤ n := by omega
 refine read_loop l o n c a h hn hcap ha (rcq [1] ⟨⟨_, rfl, .sl _ _ _ _ _ rfl⟩, ⟨_, rfl, .int _ _⟩, ⟨_, rfl, .ptr _ _ _ rfl⟩, ⟨_, rfl, zAa 8 rfl⟩, ⟨_, rfl, .int _ _⟩, ⟨_, rfl, .int _ _⟩, ⟨_, rfl, .int _ _⟩, trivial⟩ ⟨bpo (byV_plain l), bpo rfl, trivial⟩ .nil) (fun e pos f hr => ?_) (fun bh f hr => ?_) (fun u us bh f hl hr => ?_)
 ·exact ⟨⟨[], 0, e, pos⟩, .inr ⟨a, rfl, by omega, hr⟩, _, _, _, rfl, zAq rfl⟩
 ·exact ⟨⟨[0], bh, 0, 0⟩, .inr ⟨a, rfl, by omega, hr⟩, _, _, _, rfl, zAq rfl⟩
 ·have h1s : (Try.prog.types[5]).size = 1 := by kernel_rfl
  have hby : (Try.prog.types[5]).bytes = 1 := by kernel_rfl
  have hl0 : us.length + 1 ≤ 254 := hl
  refine And.intro (by rw [hby, h1s]; simp only [Bool.and_eq_true, decide_eq_true_eq]; exact ⟨⟨⟨⟨⟨⟨rfl, rfl⟩, Nat.ble_eq_true_of_le (by simp)⟩, rfl⟩, (by omega)⟩, (by omega)⟩, Nat.ble_eq_true_of_le (by simp)⟩) ?_
  refine Exists.intro ((u :: us) ++ [0]) (And.intro ?_ ?_)
  ·have hsrc : ∀ G : Gh, G 4 = some (.cells ((((u :: us).map byV).take ((us.length + 1) * (Try.prog.types[5]).size)) ++ [.int .u8 0]) 5) → zAm G 1 (.slice (some ⟨4, 0, none⟩) (us.length + 1 + 1) U) = some (us.length + 1 + 1, ((u :: us) ++ [0]).map fun b : UInt8 => Value.int .u8 (b.toNat : Int)) := fun G hG => by
    rw [h1s, Nat.mul_one, List.take_of_length_le (by simp)] at hG
    unfold zAm
    simp only [hG, Option.bind_some, AObj.look, show (us.length + 1 + 1).beq 0 = false from rfl, cond_false]
    rw [Nat.ble_eq_true_of_le (by simp)]
    simp only [cond_true, List.drop_zero, Nat.mul_one]
    rw [List.take_of_length_le (by simp), List.map_append]; rfl
   exact hsrc _ rfl
  ·exact ⟨⟨(u :: us) ++ [0], bh, 0, 0⟩, .inr ⟨a, rfl, by omega, hr⟩, _, _, _, rfl, zAq rfl⟩
end Go.Proofs.Ytmpaeabkdhjamaa
namespace Go.Proofs.Ytmpaeabkdhjamaa
open Go Go.RowKit
def RdB.B (x : RdB) : Bl := (x.l.drop x.o).take x.n
def RdB.small (x : RdB) : Prop := x.n ≤ 1000000000 ∧ (x.c = U ∨ x.n ≤ x.c ∧ x.c ≤ 9223372036854775807)
noncomputable def zTe : CtQ Try.prog :=
 { f := 71, X := RdB × Int, pre := fun x a H _ => a = [x.1.sl, .int .i64 x.2] ∧ x.1.at H ∧ x.1.small, Q := fun x v => ∃ r : RR, v = rrV r ∧ rdOk x.1.B x.2 r,
   ok := fun ⟨⟨b, o, n, c, l⟩, i⟩ a H m ⟨h1, h2, h3⟩ => by
    subst h1
    obtain ⟨r, hF, res, hr, H', m', wr, rfl, hw⟩ := read_fn l o n c i h2.2 h3.1 h3.2
    exact ⟨rrV res, zBf [b] hF hw zEv (.cons _ _ _ _ (.sl _ _ _ _ _ rfl) (zBi rfl)) (zDe h2.1 (byV_plain l)) (rrV_plain res), res, rfl, hr⟩,
   uniq := fun ⟨x, i⟩ ⟨y, j⟩ a H m ⟨h1, h2, _⟩ ⟨k1, k2, _⟩ => by
    rw [h1] at k1
    simp only [List.cons.injEq, Value.int.injEq, true_and, and_true] at k1
    rw [RdB.uniq k1.1 h2 k2, k1.2] }
noncomputable def ct_wread : Ct Try.prog 0 := zTe.ct
theorem Rd.name {B : Bl} {a p i : Nat} {out : Bl} {bh : Int} {r : RR} (h : Rd B a p i out bh r) (ha : a ≤ B.length) (hi : i ≤ B.length) (hp : p ≤ B.length) (hbh : bh ≤ B.length) : (r.e = 0 ∨ r.s = []) ∧ (r.e ≠ 0 → 0 ≤ r.pos ∧ r.pos ≤ B.length) ∧ (r.e = 0 → r.next ≤ B.length) := by
 have z : ∀ k : Nat, (0 : Int) ≤ (k : Int) := fun k => Int.natCast_nonneg k
 have le : ∀ k m : Nat, k ≤ m → (k : Int) ≤ (m : Int) := fun k m h => Int.ofNat_le.2 h
 induction h with
 | over h => exact ⟨.inr rfl, fun _ => ⟨z _, Int.le_refl _⟩, fun e => by cases e⟩
 | zero h hc =>
  refine ⟨.inl rfl, fun e => absurd rfl e, fun _ => ?_⟩
  dsimp only
  split
  ·exact le (_ + 1) _ h
  ·exact hbh
 | pshort h hc h2 => exact ⟨.inr rfl, fun _ => ⟨z _, Int.le_refl _⟩, fun e => by cases e⟩
 | ploop h hc h2 h3 => exact ⟨.inr rfl, fun _ => ⟨z _, le _ _ (by omega)⟩, fun e => by cases e⟩
 | ptr h hc h2 h3 hr ih =>
  refine ih (by omega) (by omega) ?_
  split
  ·exact le (_ + 2) _ h2
  ·exact hbh
 | bad h hc hc2 => exact ⟨.inr rfl, fun _ => ⟨z _, le _ _ (by omega)⟩, fun e => by cases e⟩
 | short h hc hc2 h2 => exact ⟨.inr rfl, fun _ => ⟨z _, Int.le_refl _⟩, fun e => by cases e⟩
 | long h hc hc2 h2 h3 => exact ⟨.inr rfl, fun _ => ⟨z _, le _ _ ha⟩, fun e => by cases e⟩
 | lab h hc hc2 h2 h3 hr ih => exact ih h2 hp hbh
end Go.Proofs.Ytmpaeabkdhjamaa
namespace Go.Proofs.Ytmpaeabkdhjamaa
open Go Go.RowKit
noncomputable def tbD7 (t : Int) (ps : List Pt) (ht : ∀ H n, partsGo t H n partsTab = partsOut ps.length (ps.flatMap Pt.cell) H n) : Tb Try.prog 0 := tbOf mixed [zFk t ps ht, ct_wread, zFl]
noncomputable def tbD7n (t : Int) (ht : ∀ H n, partsGo t H n partsTab = .ret (.tuple #[.slice none 0 0, .bool false]) H n []) : Tb Try.prog 0 := tbOf mixed [zLn t ht]
theorem Rd.fine {B : Bl} {a p i : Nat} {out : Bl} {bh : Int} {r : RR} (h : Rd B a p i out bh r) (hb : bh = -1 ∨ 0 ≤ bh) (ho : out.length ≤ 254) : r.e = 0 → 0 ≤ r.next ∧ r.s.length ≤ 255 := by
 have z : ∀ k : Nat, (0 : Int) ≤ (k : Int) := fun k => Int.natCast_nonneg k
 induction h with
 | zero h hc =>
  intro _
  dsimp only
  refine ⟨?_, by rw [List.length_append, List.length_singleton]; omega⟩
  split
  ·exact z (_ + 1)
  ·omega
 | ptr h hc h2 h3 hr ih =>
  refine ih ?_ ho
  split
  ·exact .inr (z (_ + 2))
  ·exact hb
 | lab h hc hc2 h2 h3 hr ih =>
  refine ih hb ?_
  rw [List.length_append, List.length_take, List.length_drop]; omega
 | _ => intro e; cases e
theorem rdOk.fine {B : Bl} {x : Int} {r : RR} (h : rdOk B x r) : (r.e ≠ 0 → 0 ≤ r.pos ∧ r.pos ≤ B.length) ∧ (r.e = 0 → 0 ≤ r.next ∧ r.next ≤ B.length ∧ r.s.length ≤ 255) := by
 rcases h with ⟨_, rfl⟩ | ⟨a, rfl, h1, h2⟩
 ·exact ⟨fun _ => ⟨Int.le_refl _, Int.natCast_nonneg _⟩, fun e => by cases e⟩
 ·obtain ⟨_, q1, q2⟩ := h2.name h1 h1 h1 (by omega)
  have q3 := h2.fine (.inl rfl) (by simp)
  exact ⟨q1, fun e => ⟨(q3 e).1, q2 e, (q3 e).2⟩⟩
inductive RdP (B : Bl) (a e t : Int) : List Pt → Int → Bs → Bs × Int × Int → Prop
 | fin {i : Int} {out : Bs} (h1 : i = e) (h2 : checkD t out = 0) : RdP B a e t [] i out (out, 0, 0)
 | off {i : Int} {out : Bs} (h : ¬ (i = e ∧ checkD t out = 0)) : RdP B a e t [] i out ([], 4, a)
 | nmb {ps : List Pt} {i : Int} {out : Bs} {r : RR} (h : rdOk B i r) (he : r.e ≠ 0) : RdP B a e t (.nm :: ps) i out ([], r.e, r.pos)
 | nmo {ps : List Pt} {i : Int} {out : Bs} {r : RR} (h : rdOk B i r) (he : r.e = 0) (h2 : r.next > e) : RdP B a e t (.nm :: ps) i out ([], 4, a)
 | nmc {ps : List Pt} {i : Int} {out : Bs} {r : RR} {y : Bs × Int × Int} (h : rdOk B i r) (he : r.e = 0) (h2 : ¬ r.next > e) (k : RdP B a e t ps r.next (out ++ r.s) y) : RdP B a e t (.nm :: ps) i out y
 | rest {ps : List Pt} {i : Int} {out : Bs} {y : Bs × Int × Int} (k : RdP B a e t ps e (out ++ (B.drop i.toNat).take (e.toNat - i.toNat)) y) : RdP B a e t (.rest :: ps) i out y
 | szb {ps : List Pt} {z : Nat} {i : Int} {out : Bs} (h : e - i < z) : RdP B a e t (.sz z :: ps) i out ([], 4, a)
 | szc {ps : List Pt} {z : Nat} {i : Int} {out : Bs} {y : Bs × Int × Int} (h : ¬ e - i < z) (k : RdP B a e t ps (i + z) (out ++ (B.drop i.toNat).take ((i + z).toNat - i.toNat)) y) : RdP B a e t (.sz z :: ps) i out y
theorem RdP.det {B : Bl} {a e t : Int} {ps : List Pt} {i : Int} {out : Bs} {y y' : Bs × Int × Int} (h : RdP B a e t ps i out y) (k : RdP B a e t ps i out y') : y = y' := by
 induction h generalizing y' with
 | fin h1 h2 => cases k with | fin => rfl | off h => exact absurd ⟨h1, h2⟩ h
 | off h => cases k with | fin h1 h2 => exact absurd ⟨h1, h2⟩ h | off => rfl
 | nmb h he => cases k with | nmb h' => rw [zAn h h'] | nmo h' he' => rw [zAn h h'] at he; exact absurd he' he | nmc h' he' => rw [zAn h h'] at he; exact absurd he' he
 | nmo h he h2 => cases k with | nmb h' he' => rw [zAn h h'] at he; exact absurd he he' | nmo => rfl | nmc h' he' h2' => rw [zAn h h'] at h2; exact absurd h2 h2'
 | nmc h he h2 _ ih => cases k with | nmb h' he' => rw [zAn h h'] at he; exact absurd he he' | nmo h' he' h2' => rw [zAn h h'] at h2; exact absurd h2' h2 | nmc h' _ _ k' => rw [← zAn h h'] at k'; exact ih k'
 | rest _ ih => cases k with | rest k' => exact ih k'
 | szb h => cases k with | szb => rfl | szc h' => exact absurd h h'
 | szc h _ ih => cases k with | szb h' => exact absurd h' h | szc _ k' => exact ih k'
def rrS (l : Bl) (o n c : Nat) (t a e : Int) (ps : List Pt) (x : Nat × Int × ByteArray) (f : Nat → Option Value) : Fs :=
 ⟨slots 8 [(0, .slice (some ⟨0, o, none⟩) n c), (3, .int .i64 t), (9, .pointer (some ⟨1, 0, none⟩)), (10, .int .i64 e), (13, .pointer (some ⟨3, 0, none⟩)), (14, .string x.2.2), (15, .int .i64 x.2.1), (76, .slice (some ⟨2, 0, none⟩) ps.length ps.length), (77, .int .i64 ps.length), (78, .int .i64 x.1)] f,
  heap 3 [(0, .win (l.map byV) 1), (1, .cells [.int .i64 0, .int .i64 0] 55), (2, .cells (ps.flatMap Pt.cell) 116), (3, .cells [.int .i64 4, .int .i64 a] 55)], 4, [], []⟩
theorem rr_loop (l : Bl) (o n c : Nat) (t a e : Int) (ps : List Pt) (ht : ∀ H n, partsGo t H n partsTab = partsOut ps.length (ps.flatMap Pt.cell) H n) (hps : ps.length < 900) (h : o + n ≤ l.length) (hn : n ≤ 1000000) (hcap : c = U ∨ n ≤ c ∧ c ≤ 9223372036854775807) (ha : 0 ≤ a ∧ a ≤ e ∧ e ≤ n) {s0 : Fs} {K : Ex → Fs → Prop}
  (h0 : ∃ f, RcM Try.prog 0 1 (4 + (Try.f54.ntmps - 4)) none s0 (rrS l o n c t a e ps (0, a, ⟨#[]⟩) f))
  (hret : ∀ er pos f, er ≠ 0 → 0 ≤ pos → pos ≤ (n : Int) → RdP ((l.drop o).take n) a e t ps a [] ([], er, pos) → K .ret ⟨slots 8 [(8, .string ⟨#[]⟩), (9, .pointer (some ⟨1, 0, none⟩))] f, heap 2 [(1, .cells [.int .i64 er, .int .i64 pos] 55)], 2, [], []⟩)
  (hex : ∀ i out f, (bs out).length ≤ 1000000000 → (∀ y, RdP ((l.drop o).take n) a e t [] i (bs out) y → RdP ((l.drop o).take n) a e t ps a [] y) → K (.exit 1) ⟨slots 8 [(3, .int .i64 t), (9, .pointer (some ⟨1, 0, none⟩)), (10, .int .i64 e), (13, .pointer (some ⟨3, 0, none⟩)), (14, .string out), (15, .int .i64 i)] f, heap 3 [(1, .cells [.int .i64 0, .int .i64 0] 55), (3, .cells [.int .i64 4, .int .i64 a] 55)], 4, [], []⟩) :
  LW Try.prog 0 1 (4 + (Try.f54.ntmps - 4)) none (loopAt Try.f54 0) s0 K := by
 refine zBp (rrS l o n c t a e ps) (fun x => ps.length - x.1) (fun x => x.1 ≤ ps.length ∧ (0 ≤ x.2.1 ∧ x.2.1 ≤ e) ∧ (bs x.2.2).length ≤ x.1 * 1001000 ∧ ∀ y, RdP ((l.drop o).take n) a e t (ps.drop x.1) x.2.1 (bs x.2.2) y → RdP ((l.drop o).take n) a e t ps a [] y) (0, a, ⟨#[]⟩) ⟨Nat.zero_le _, ⟨ha.1, ha.2.1⟩, by simp [bs], fun y hy => hy⟩ h0 ?_
 rintro ⟨k, i, out⟩ f ⟨hk, ⟨hi1, hi2⟩, hout, hinv⟩
 have hk : k ≤ ps.length := hk
 have hi1 : 0 ≤ i := hi1
 have hi2 : i ≤ e := hi2
 have hout : (bs out).length ≤ k * 1001000 := hout
 have hinv : ∀ y, RdP ((l.drop o).take n) a e t (ps.drop k) i (bs out) y → RdP ((l.drop o).take n) a e t ps a [] y := hinv
 have htake : ∀ j m : Nat, j + m ≤ n → (l.drop (o + j)).take m = (((l.drop o).take n).drop j).take m := fun j m hjm => by rw [List.drop_take, List.take_take, List.drop_drop, Nat.min_eq_left (by omega)]
 obtain ⟨ha1, ha2, ha3⟩ := ha
 have h1s : (Try.prog.types[5]).size = 1 := by kernel_rfl
 have lenB' : ((l.drop o).take n).length = n := lenB h
 have hmulk : k * 1001000 ≤ 900 * 1001000 := Nat.mul_le_mul_right _ (by omega)
 have side : ∀ (h1 : k < ps.length), (0 + ((k : Nat) : Int).toNat * 3 + 3 ≤ (ps.flatMap Pt.cell).length ∧ List.take 3 (List.drop (0 + ((k : Nat) : Int).toNat * 3) (ps.flatMap Pt.cell)) = ps[k].cell) := fun h1 => by
  have := zEx Pt.cell 3 Pt.cell_len ps k h1
  rw [Int.toNat_natCast, Nat.zero_add]; exact this
 have srcs : ∀ (x y : Int) (o' c' : Nat) (G : Gh), 0 ≤ x → x ≤ y → y ≤ n → (o' = o + x.toNat ∨ y.toNat - x.toNat = 0) → G 0 = some (.win (l.map byV) 1) → zAm G 1 (.slice (some ⟨0, o', none⟩) (y.toNat - x.toNat) c') = some (y.toNat - x.toNat, (((l.drop (o + x.toNat)).take (y.toNat - x.toNat)).map fun b : UInt8 => Value.int .u8 (b.toNat : Int))) := fun x y o' c' G h1 h2 h3 ho hG => by
  unfold zAm
  by_cases hz : y.toNat - x.toNat = 0
  ·rw [hz]; simp
  ·have ho := ho.resolve_right hz
   subst ho
   have : (y.toNat - x.toNat).beq 0 = false := by cases hb : (y.toNat - x.toNat).beq 0; rfl; exact absurd (Nat.eq_of_beq_eq_true hb) hz
   simp only [this, cond_false, hG, Option.bind_some, AObj.look]
   rw [Nat.ble_eq_true_of_le (by simp; omega)]
   simp only [cond_true, Nat.mul_one, List.map_take, List.map_drop]; rfl
 refine zAo (tbD7 t ps ht) [0, 2] 1 _ none mixed _ _ _ ?_
 refine ifK (fun h1 => ?_) (fun h1 => ?_)
 ·have h1 : k < ps.length := by have := of_decide_eq_true h1; omega
  have hsd := side h1
  have hst : ps.drop k = ps[k] :: ps.drop (k + 1) := List.drop_eq_getElem_cons h1
  have hmul1 : (k + 1) * 1001000 = k * 1001000 + 1001000 := by rw [Nat.add_mul, Nat.one_mul]
  refine ifK (fun _ => ?_) (fun h2 => absurd h2 (by simp [inI]; omega))
  cases hp : ps[k] with
  | nm =>
   rw [hp] at hsd
   refine Exists.intro 0 (Exists.intro true (Exists.intro false (And.intro hsd ?_)))
   refine Exists.intro (⟨0, o, n, c, l⟩, i) (And.intro ⟨rfl, ⟨rfl, h⟩, by show n ≤ _; omega, hcap⟩ ?_)
   rintro v ⟨r, rfl, hr⟩
   obtain ⟨s, nx, er, pos⟩ := r
   obtain ⟨q1, q2⟩ := hr.fine
   have q1 : er ≠ 0 → 0 ≤ pos ∧ pos ≤ (((l.drop o).take n).length : Int) := q1
   have q2 : er = 0 → 0 ≤ nx ∧ nx ≤ (((l.drop o).take n).length : Int) ∧ s.length ≤ 255 := q2
   rw [lenB'] at q1 q2
   refine ifK (fun h3 => ?_) (fun h3 => ?_)
   ·have h3 : er ≠ 0 := by simpa using h3
    refine And.intro ?_ ?_
    ·kernel_rfl
    exact And.intro rfl (zAj (rcq [1] (d := 8) (d2 := 2) (lv := [(8, .string ⟨#[]⟩), (9, .pointer (some ⟨1, 0, none⟩))]) (bs := [(1, .cells [.int .i64 er, .int .i64 pos] 55)]) (W := []) (m := 2) (df := []) ⟨⟨_, rfl, .string _⟩, ⟨_, rfl, .ptr _ _ _ rfl⟩, trivial⟩ ⟨bpo rfl, trivial⟩ .nil) (fun f => hret _ _ f h3 (q1 h3).1 (q1 h3).2 (hinv _ (by rw [hst, hp]; exact .nmb hr h3))))
   ·have h3 : er = 0 := by simpa using h3
    obtain ⟨q3, q4, q5⟩ := q2 h3
    refine ifK (fun h4 => ?_) (fun h4 => ?_)
    ·refine And.intro ?_ ?_
     ·kernel_rfl
     exact And.intro rfl (zAj (rcq [1] (d := 8) (d2 := 2) (lv := [(8, .string ⟨#[]⟩), (9, .pointer (some ⟨1, 0, none⟩))]) (bs := [(1, .cells [.int .i64 4, .int .i64 a] 55)]) (W := []) (m := 2) (df := []) ⟨⟨_, rfl, .string _⟩, ⟨_, rfl, .ptr _ _ _ rfl⟩, trivial⟩ ⟨bpo rfl, trivial⟩ .nil) (fun f => hret _ _ f (by decide) ha1 (by omega) (hinv _ (by rw [hst, hp]; exact .nmo hr h3 (of_decide_eq_true h4)))))
    ·have h4 : ¬ nx > e := of_decide_eq_false h4
     have eS : bs ⟨s.toArray⟩ = s := zHi s
     refine And.intro (zEe (by rw [eS]; have e9 : (bs (k, i, out).2.2).length = (bs out).length := rfl; omega)) ?_
     refine ⟨(k + 1, nx, catS out ⟨s.toArray⟩), ⟨h1, ⟨q3, by show nx ≤ e; omega⟩, ?_, fun y hy => hinv y (by rw [hst, hp]; exact .nmc hr h3 h4 (by have hy : RdP _ a e t (ps.drop (k + 1)) nx (bs (catS out ⟨s.toArray⟩)) y := hy; rw [zEp, eS] at hy; exact hy))⟩, ?_, ?_⟩
     ·show (bs (catS _ _)).length ≤ (k + 1) * 1001000
      rw [zEp, eS, List.length_append]; omega
     ·show ps.length - (k + 1) < ps.length - k; omega
     ·exact rcq [1, 2, 3] ⟨⟨_, rfl, .sl _ _ _ _ _ rfl⟩, ⟨_, rfl, .int _ _⟩, ⟨_, rfl, .ptr _ _ _ rfl⟩, ⟨_, rfl, .int _ _⟩, ⟨_, rfl, .ptr _ _ _ rfl⟩, ⟨_, rfl, .string _⟩, ⟨_, rfl, .int _ _⟩, ⟨_, rfl, .sl _ _ _ _ _ rfl⟩, ⟨_, rfl, .int _ _⟩, zAh rfl (by rw [wrapN (by omega) (by omega)]; omega), trivial⟩ ⟨bpo (byV_plain l), bpo rfl, bpo (zAb _ Pt.cell_plain ps), bpo rfl, trivial⟩ .nil
  | rest =>
   rw [hp] at hsd
   refine Exists.intro 0 (Exists.intro false (Exists.intro true (And.intro hsd ?_)))
   refine ifK (fun hcu => ?_) (fun hcu => ?_)
   ·refine And.intro (by simp only [inLH, Bool.and_eq_true, decide_eq_true_eq]; omega) ?_
    refine Exists.intro ((l.drop (o + i.toNat)).take ((e).toNat - i.toNat)) (And.intro (by rw [h1s]; exact srcs i (e) (o + i.toNat * (Try.prog.types[5]).size) _ _ hi1 (by omega) (by omega) (.inl (by rw [h1s]; omega)) rfl) ?_)
    have eS : bs ⟨((l.drop (o + i.toNat)).take ((e).toNat - i.toNat)).toArray⟩ = (l.drop (o + i.toNat)).take ((e).toNat - i.toNat) := zHi _
    have eL : ((l.drop (o + i.toNat)).take ((e).toNat - i.toNat)).length ≤ 1000000 := by rw [List.length_take]; omega
    refine And.intro (zEe (by rw [eS]; have e9 : (bs (k, i, out).2.2).length = (bs out).length := rfl; omega)) ?_
    refine ⟨(k + 1, e, catS out ⟨((l.drop (o + i.toNat)).take ((e).toNat - i.toNat)).toArray⟩), ⟨h1, ⟨by show 0 ≤ e; omega, by show e ≤ e; omega⟩, ?_, fun y hy => hinv y (by rw [hst, hp]; refine .rest ?_; have hy : RdP _ a e t (ps.drop (k + 1)) e (bs (catS out ⟨((l.drop (o + i.toNat)).take ((e).toNat - i.toNat)).toArray⟩)) y := hy; rw [zEp, eS, htake _ _ (by omega)] at hy; exact hy)⟩, ?_, ?_⟩
    ·show (bs (catS _ _)).length ≤ (k + 1) * 1001000
     rw [zEp, eS, List.length_append]; omega
    ·show ps.length - (k + 1) < ps.length - k; omega
    ·exact rcq [1, 2, 3] ⟨⟨_, rfl, .sl _ _ _ _ _ rfl⟩, ⟨_, rfl, .int _ _⟩, ⟨_, rfl, .ptr _ _ _ rfl⟩, ⟨_, rfl, .int _ _⟩, ⟨_, rfl, .ptr _ _ _ rfl⟩, ⟨_, rfl, .string _⟩, ⟨_, rfl, .int _ _⟩, ⟨_, rfl, .sl _ _ _ _ _ rfl⟩, ⟨_, rfl, .int _ _⟩, zAh rfl (by rw [wrapN (by omega) (by omega)]; omega), trivial⟩ ⟨bpo (byV_plain l), bpo rfl, bpo (zAb _ Pt.cell_plain ps), bpo rfl, trivial⟩ .nil
   ·have hcU : c ≠ U := fun e0 => (by subst e0; cases hcu)
    obtain ⟨hc1, hc2⟩ := hcap.resolve_left hcU
    refine And.intro (by simp only [inLH, Bool.and_eq_true, decide_eq_true_eq]; exact ⟨⟨⟨⟨by omega, by omega⟩, by omega⟩, Nat.ble_eq_true_of_le hc1⟩, Nat.ble_eq_true_of_le (by omega)⟩) ?_
    refine Exists.intro ((l.drop (o + i.toNat)).take ((e).toNat - i.toNat)) (And.intro (by rw [h1s]; exact srcs i (e) (bif c.beq i.toNat then o else o + i.toNat * (Try.prog.types[5]).size) _ _ hi1 (by omega) (by omega) ((by cases hb : c.beq i.toNat with | true => (have hb2 := Nat.eq_of_beq_eq_true hb; exact .inr (by omega)) | false => exact .inl (by rw [cond_false, h1s]; omega))) rfl) ?_)
    have eS : bs ⟨((l.drop (o + i.toNat)).take ((e).toNat - i.toNat)).toArray⟩ = (l.drop (o + i.toNat)).take ((e).toNat - i.toNat) := zHi _
    have eL : ((l.drop (o + i.toNat)).take ((e).toNat - i.toNat)).length ≤ 1000000 := by rw [List.length_take]; omega
    refine And.intro (zEe (by rw [eS]; have e9 : (bs (k, i, out).2.2).length = (bs out).length := rfl; omega)) ?_
    refine ⟨(k + 1, e, catS out ⟨((l.drop (o + i.toNat)).take ((e).toNat - i.toNat)).toArray⟩), ⟨h1, ⟨by show 0 ≤ e; omega, by show e ≤ e; omega⟩, ?_, fun y hy => hinv y (by rw [hst, hp]; refine .rest ?_; have hy : RdP _ a e t (ps.drop (k + 1)) e (bs (catS out ⟨((l.drop (o + i.toNat)).take ((e).toNat - i.toNat)).toArray⟩)) y := hy; rw [zEp, eS, htake _ _ (by omega)] at hy; exact hy)⟩, ?_, ?_⟩
    ·show (bs (catS _ _)).length ≤ (k + 1) * 1001000
     rw [zEp, eS, List.length_append]; omega
    ·show ps.length - (k + 1) < ps.length - k; omega
    ·exact rcq [1, 2, 3] ⟨⟨_, rfl, .sl _ _ _ _ _ rfl⟩, ⟨_, rfl, .int _ _⟩, ⟨_, rfl, .ptr _ _ _ rfl⟩, ⟨_, rfl, .int _ _⟩, ⟨_, rfl, .ptr _ _ _ rfl⟩, ⟨_, rfl, .string _⟩, ⟨_, rfl, .int _ _⟩, ⟨_, rfl, .sl _ _ _ _ _ rfl⟩, ⟨_, rfl, .int _ _⟩, zAh rfl (by rw [wrapN (by omega) (by omega)]; omega), trivial⟩ ⟨bpo (byV_plain l), bpo rfl, bpo (zAb _ Pt.cell_plain ps), bpo rfl, trivial⟩ .nil
  | sz z =>
   rw [hp] at hsd
   refine Exists.intro (z : Int) (Exists.intro false (Exists.intro false (And.intro hsd ?_)))
   have ew : IntKind.i64.wrap (e - i) = e - i := wrapN (by omega) (by omega)
   refine ifK (fun h3 => ?_) (fun h3 => ?_)
   ·refine And.intro ?_ ?_
    ·kernel_rfl
    exact And.intro rfl (zAj (rcq [1] (d := 8) (d2 := 2) (lv := [(8, .string ⟨#[]⟩), (9, .pointer (some ⟨1, 0, none⟩))]) (bs := [(1, .cells [.int .i64 4, .int .i64 a] 55)]) (W := []) (m := 2) (df := []) ⟨⟨_, rfl, .string _⟩, ⟨_, rfl, .ptr _ _ _ rfl⟩, trivial⟩ ⟨bpo rfl, trivial⟩ .nil) (fun f => hret _ _ f (by decide) ha1 (by omega) (hinv _ (by rw [hst, hp]; exact .szb (by have h3 := of_decide_eq_true h3; rw [ew] at h3; exact h3)))))
   have h3 : ¬ e - i < z := by have h3 := of_decide_eq_false h3; rw [ew] at h3; exact h3
   have ey : IntKind.i64.wrap (i + (z : Int)) = i + z := wrapN (by omega) (by omega)
   refine And.intro ?_ ?_
   ·kernel_rfl
   refine ifK (fun hcu => ?_) (fun hcu => ?_)
   ·refine And.intro (by simp only [inLH, Bool.and_eq_true, decide_eq_true_eq]; omega) ?_
    refine Exists.intro ((l.drop (o + i.toNat)).take ((IntKind.i64.wrap (i + (z : Int))).toNat - i.toNat)) (And.intro (by rw [h1s]; exact srcs i (IntKind.i64.wrap (i + (z : Int))) (o + i.toNat * (Try.prog.types[5]).size) _ _ hi1 (by omega) (by omega) (.inl (by rw [h1s]; omega)) rfl) ?_)
    have eS : bs ⟨((l.drop (o + i.toNat)).take ((IntKind.i64.wrap (i + (z : Int))).toNat - i.toNat)).toArray⟩ = (l.drop (o + i.toNat)).take ((IntKind.i64.wrap (i + (z : Int))).toNat - i.toNat) := zHi _
    have eL : ((l.drop (o + i.toNat)).take ((IntKind.i64.wrap (i + (z : Int))).toNat - i.toNat)).length ≤ 1000000 := by rw [List.length_take]; omega
    refine And.intro (zEe (by rw [eS]; have e9 : (bs (k, i, out).2.2).length = (bs out).length := rfl; omega)) ?_
    refine ⟨(k + 1, IntKind.i64.wrap (i + (z : Int)), catS out ⟨((l.drop (o + i.toNat)).take ((IntKind.i64.wrap (i + (z : Int))).toNat - i.toNat)).toArray⟩), ⟨h1, ⟨by show 0 ≤ IntKind.i64.wrap (i + (z : Int)); omega, by show IntKind.i64.wrap (i + (z : Int)) ≤ e; omega⟩, ?_, fun y hy => hinv y (by rw [hst, hp]; refine .szc h3 ?_; have hy : RdP _ a e t (ps.drop (k + 1)) (IntKind.i64.wrap (i + (z : Int))) (bs (catS out ⟨((l.drop (o + i.toNat)).take ((IntKind.i64.wrap (i + (z : Int))).toNat - i.toNat)).toArray⟩)) y := hy; rw [zEp, eS, htake _ _ (by omega), ey] at hy; exact hy)⟩, ?_, ?_⟩
    ·show (bs (catS _ _)).length ≤ (k + 1) * 1001000
     rw [zEp, eS, List.length_append]; omega
    ·show ps.length - (k + 1) < ps.length - k; omega
    ·exact rcq [1, 2, 3] ⟨⟨_, rfl, .sl _ _ _ _ _ rfl⟩, ⟨_, rfl, .int _ _⟩, ⟨_, rfl, .ptr _ _ _ rfl⟩, ⟨_, rfl, .int _ _⟩, ⟨_, rfl, .ptr _ _ _ rfl⟩, ⟨_, rfl, .string _⟩, ⟨_, rfl, .int _ _⟩, ⟨_, rfl, .sl _ _ _ _ _ rfl⟩, ⟨_, rfl, .int _ _⟩, zAh rfl (by rw [wrapN (by omega) (by omega)]; omega), trivial⟩ ⟨bpo (byV_plain l), bpo rfl, bpo (zAb _ Pt.cell_plain ps), bpo rfl, trivial⟩ .nil
   ·have hcU : c ≠ U := fun e0 => (by subst e0; cases hcu)
    obtain ⟨hc1, hc2⟩ := hcap.resolve_left hcU
    refine And.intro (by simp only [inLH, Bool.and_eq_true, decide_eq_true_eq]; exact ⟨⟨⟨⟨by omega, by omega⟩, by omega⟩, Nat.ble_eq_true_of_le hc1⟩, Nat.ble_eq_true_of_le (by omega)⟩) ?_
    refine Exists.intro ((l.drop (o + i.toNat)).take ((IntKind.i64.wrap (i + (z : Int))).toNat - i.toNat)) (And.intro (by rw [h1s]; exact srcs i (IntKind.i64.wrap (i + (z : Int))) (bif c.beq i.toNat then o else o + i.toNat * (Try.prog.types[5]).size) _ _ hi1 (by omega) (by omega) ((by cases hb : c.beq i.toNat with | true => (have hb2 := Nat.eq_of_beq_eq_true hb; exact .inr (by omega)) | false => exact .inl (by rw [cond_false, h1s]; omega))) rfl) ?_)
    have eS : bs ⟨((l.drop (o + i.toNat)).take ((IntKind.i64.wrap (i + (z : Int))).toNat - i.toNat)).toArray⟩ = (l.drop (o + i.toNat)).take ((IntKind.i64.wrap (i + (z : Int))).toNat - i.toNat) := zHi _
    have eL : ((l.drop (o + i.toNat)).take ((IntKind.i64.wrap (i + (z : Int))).toNat - i.toNat)).length ≤ 1000000 := by rw [List.length_take]; omega
    refine And.intro (zEe (by rw [eS]; have e9 : (bs (k, i, out).2.2).length = (bs out).length := rfl; omega)) ?_
    refine ⟨(k + 1, IntKind.i64.wrap (i + (z : Int)), catS out ⟨((l.drop (o + i.toNat)).take ((IntKind.i64.wrap (i + (z : Int))).toNat - i.toNat)).toArray⟩), ⟨h1, ⟨by show 0 ≤ IntKind.i64.wrap (i + (z : Int)); omega, by show IntKind.i64.wrap (i + (z : Int)) ≤ e; omega⟩, ?_, fun y hy => hinv y (by rw [hst, hp]; refine .szc h3 ?_; have hy : RdP _ a e t (ps.drop (k + 1)) (IntKind.i64.wrap (i + (z : Int))) (bs (catS out ⟨((l.drop (o + i.toNat)).take ((IntKind.i64.wrap (i + (z : Int))).toNat - i.toNat)).toArray⟩)) y := hy; rw [zEp, eS, htake _ _ (by omega), ey] at hy; exact hy)⟩, ?_, ?_⟩
    ·show (bs (catS _ _)).length ≤ (k + 1) * 1001000
     rw [zEp, eS, List.length_append]; omega
    ·show ps.length - (k + 1) < ps.length - k; omega
    ·exact rcq [1, 2, 3] ⟨⟨_, rfl, .sl _ _ _ _ _ rfl⟩, ⟨_, rfl, .int _ _⟩, ⟨_, rfl, .ptr _ _ _ rfl⟩, ⟨_, rfl, .int _ _⟩, ⟨_, rfl, .ptr _ _ _ rfl⟩, ⟨_, rfl, .string _⟩, ⟨_, rfl, .int _ _⟩, ⟨_, rfl, .sl _ _ _ _ _ rfl⟩, ⟨_, rfl, .int _ _⟩, zAh rfl (by rw [wrapN (by omega) (by omega)]; omega), trivial⟩ ⟨bpo (byV_plain l), bpo rfl, bpo (zAb _ Pt.cell_plain ps), bpo rfl, trivial⟩ .nil
 ·have h1 : ¬ k < ps.length := by have := of_decide_eq_false h1; omega
  exact And.intro rfl (zAj (rcq [1, 99, 3] (d := 8) (d2 := 3) (lv := [(3, .int .i64 t), (9, .pointer (some ⟨1, 0, none⟩)), (10, .int .i64 e), (13, .pointer (some ⟨3, 0, none⟩)), (14, .string out), (15, .int .i64 i)]) (bs := [(1, .cells [.int .i64 0, .int .i64 0] 55), (3, .cells [.int .i64 4, .int .i64 a] 55)]) (W := []) (m := 4) (df := []) ⟨⟨_, rfl, .int _ _⟩, ⟨_, rfl, .ptr _ _ _ rfl⟩, ⟨_, rfl, .int _ _⟩, ⟨_, rfl, .ptr _ _ _ rfl⟩, ⟨_, rfl, .string _⟩, ⟨_, rfl, .int _ _⟩, trivial⟩ ⟨bpo rfl, bpo rfl, trivial⟩ .nil) (fun f => hex _ _ f (by omega) (fun y hy => hinv y (by rw [show ps.drop k = [] from List.drop_eq_nil_of_le (by omega)]; exact hy))))
end Go.Proofs.Ytmpaeabkdhjamaa
namespace Go.Proofs.Ytmpaeabkdhjamaa
open Go Go.RowKit
def rdV (y : Bs × Int × Int) : Value := .tuple #[str y.1, .agg #[.int .i64 y.2.1, .int .i64 y.2.2]]
def rdQ (B : Bl) (a z t : Int) (y : Bs × Int × Int) : Prop :=
 if t < 0 ∨ t > 65535 ∨ z < 0 ∨ z > 65535 then y = ([], 2, 0) else if a < 0 ∨ a > B.length then y = ([], 5, 0) else if (B.length : Int) - a < z then y = ([], 4, (B.length : Int)) else
 match ptsT t with | none => y = ((B.drop a.toNat).take z.toNat, 0, 0) | some ps => RdP B a (a + z) t ps a [] y
theorem zNs {B : Bl} {a z t : Int} {y y' : Bs × Int × Int} (h : rdQ B a z t y) (k : rdQ B a z t y') : y = y' := by
 unfold rdQ at h k
 split at h
 ·rename_i c; rw [if_pos c] at k; rw [h, k]
 ·rename_i c; rw [if_neg c] at k
  split at h
  ·rename_i c; rw [if_pos c] at k; rw [h, k]
  ·rename_i c; rw [if_neg c] at k
   split at h
   ·rename_i c; rw [if_pos c] at k; rw [h, k]
   ·rename_i c; rw [if_neg c] at k
    cases hp : ptsT t with
    | none => rw [hp] at h k; rw [h, k]
    | some ps => rw [hp] at h k; exact h.det k
def rrR (B : Bl) (a z t : Int) (r : Res) : Prop := ∃ y H m wr, r = .ret (rdV y) H m wr ∧ (∀ k ∈ wr, 1 ≤ k) ∧ rdQ B a z t y
theorem zFc {B : Bl} {a z t : Int} (h : t < 0 ∨ t > 65535 ∨ z < 0 ∨ z > 65535) : rdQ B a z t ([], 2, 0) := by unfold rdQ; rw [if_pos h]
theorem zHb {B : Bl} {a z t : Int} (h1 : ¬ (t < 0 ∨ t > 65535 ∨ z < 0 ∨ z > 65535)) (h : a < 0 ∨ a > B.length) : rdQ B a z t ([], 5, 0) := by unfold rdQ; rw [if_neg h1, if_pos h]
theorem zPx {B : Bl} {a z t : Int} {n : Nat} (h1 : ¬ (t < 0 ∨ t > 65535 ∨ z < 0 ∨ z > 65535)) (h2 : ¬ (a < 0 ∨ a > B.length)) (hn : B.length = n) (h : (n : Int) - a < z) : rdQ B a z t ([], 4, (n : Int)) := by subst hn; unfold rdQ; rw [if_neg h1, if_neg h2, if_pos h]
theorem zJa {B : Bl} {a z t : Int} {ps : List Pt} {y : Bs × Int × Int} (h1 : ¬ (t < 0 ∨ t > 65535 ∨ z < 0 ∨ z > 65535)) (h2 : ¬ (a < 0 ∨ a > B.length)) (h3 : ¬ (B.length : Int) - a < z) (hp : ptsT t = some ps) (h : RdP B a (a + z) t ps a [] y) : rdQ B a z t y := by
 unfold rdQ; rw [if_neg h1, if_neg h2, if_neg h3, hp]; exact h
theorem rdQ_none {B : Bl} {a z t : Int} (h1 : ¬ (t < 0 ∨ t > 65535 ∨ z < 0 ∨ z > 65535)) (h2 : ¬ (a < 0 ∨ a > B.length)) (h3 : ¬ (B.length : Int) - a < z) (hp : ptsT t = none) : rdQ B a z t ((B.drop a.toNat).take z.toNat, 0, 0) := by
 unfold rdQ; rw [if_neg h1, if_neg h2, if_neg h3, hp]
theorem zVc {t : Int} {s : Bs} (hp : ptsT t = none) (h : 0 ≤ t ∧ t ≤ 65535) (hs : s.length ≤ 65535) : checkD t s = 0 := by
 unfold checkD fitsD
 rw [hp, if_neg (by omega), if_neg (by omega)]; rfl
theorem rdread_fn (l : Bl) (o n c : Nat) (a z t : Int) (h : o + n ≤ l.length) (hn : n ≤ 1000000) (hcap : c = U ∨ n ≤ c ∧ c ≤ 9223372036854775807) : ∃ r, FnS Try.prog 0 54 [.slice (some ⟨0, o, none⟩) n c, .int .i64 a, .int .i64 z, .int .i64 t] (heap 1 [(0, .win (l.map byV) 1)]) 1 r ∧ rrR ((l.drop o).take n) a z t r := by
 have h1s : (Try.prog.types[5]).size = 1 := by kernel_rfl
 cases hp : ptsT t with
 | some ps =>
  obtain ⟨p1, _, p3⟩ := zGz hp
  have p2 : ps.length < 900 := by rcases (zKb hp).2 with ⟨_, q⟩ | q
                                  ·omega
                                  ·rw [q]; decide
  refine zBu mixed (tbD7 t ps p3) [0] Try.func54 (c := bodyOf Try.f54) (by kernel_rfl) ?_
  refine ifK (fun g => ?_) (fun h1 => ?_)
  ·exact ⟨([], 2, 0), _, _, _, rfl, zAq rfl, zFc (.inl (of_decide_eq_true g))⟩
  refine ifK (fun g => ?_) (fun h2 => ?_)
  ·exact ⟨([], 2, 0), _, _, _, rfl, zAq rfl, zFc (.inr (.inl (of_decide_eq_true g)))⟩
  refine ifK (fun g => ?_) (fun h3 => ?_)
  ·exact ⟨([], 2, 0), _, _, _, rfl, zAq rfl, zFc (.inr (.inr (.inl (of_decide_eq_true g))))⟩
  refine ifK (fun g => ?_) (fun h4 => ?_)
  ·exact ⟨([], 2, 0), _, _, _, rfl, zAq rfl, zFc (.inr (.inr (.inr (of_decide_eq_true g))))⟩
  have hN1 : ¬ (t < 0 ∨ t > 65535 ∨ z < 0 ∨ z > 65535) := by have q1 := of_decide_eq_false h1; have q2 := of_decide_eq_false h2; have q3 := of_decide_eq_false h3; have q4 := of_decide_eq_false h4; omega
  refine ifK (fun g => ?_) (fun h5 => ?_)
  ·exact ⟨([], 5, 0), _, _, _, rfl, zAq rfl, zHb hN1 (.inl (of_decide_eq_true g))⟩
  refine ifK (fun g => ?_) (fun h6 => ?_)
  ·exact ⟨([], 5, 0), _, _, _, rfl, zAq rfl, zHb hN1 (.inr (by rw [lenB h]; exact of_decide_eq_true g))⟩
  have h3 : ¬ z < 0 := of_decide_eq_false h3
  have h5 : ¬ a < 0 := of_decide_eq_false h5
  have h6 : ¬ a > (n : Int) := of_decide_eq_false h6
  have e1 : IntKind.i64.wrap ((n : Int) - a) = n - a := wrapN (by omega) (by omega)
  have hN2 : ¬ (a < 0 ∨ a > (((l.drop o).take n).length : Int)) := by rw [lenB h]; omega
  refine ifK (fun g => ?_) (fun h7 => ?_)
  ·exact ⟨([], 4, (n : Int)), _, _, _, rfl, zAq rfl, zPx hN1 hN2 (lenB h) (by have g := of_decide_eq_true g; rw [e1] at g; exact g)⟩
  have h7 : ¬ (n : Int) - a < z := by have h7 := of_decide_eq_false h7; rw [e1] at h7; exact h7
  have hN3 : ¬ (((l.drop o).take n).length : Int) - a < z := by rw [lenB h]; exact h7
  have e2 : IntKind.i64.wrap (a + z) = a + z := wrapN (by omega) (by omega)
  refine And.intro (by simp) ?_
  refine rr_loop l o n c t a (IntKind.i64.wrap (a + z)) ps p3 p2 h hn hcap ⟨by omega, by omega, by omega⟩ (rcq [1, 2, 3] ⟨⟨_, rfl, .sl _ _ _ _ _ rfl⟩, ⟨_, rfl, .int _ _⟩, ⟨_, rfl, .ptr _ _ _ rfl⟩, ⟨_, rfl, .int _ _⟩, ⟨_, rfl, .ptr _ _ _ rfl⟩, ⟨_, rfl, .string _⟩, ⟨_, rfl, .int _ _⟩, ⟨_, rfl, .sl _ _ _ _ _ rfl⟩, ⟨_, rfl, .int _ _⟩, ⟨_, rfl, .int _ _⟩, trivial⟩ ⟨bpo (byV_plain l), bpo rfl, bpo (zAb _ Pt.cell_plain ps), bpo rfl, trivial⟩ .nil) (fun er pos f w1 w2 w3 w4 => ?_) (fun i out f hl hO => ?_)
  ·exact ⟨_, _, _, _, rfl, zAq rfl, zJa hN1 hN2 hN3 hp (by rw [e2] at w4; exact w4)⟩
  ·refine ifK (fun g => ?_) (fun h8 => ?_)
   ·refine And.intro ?_ ?_
    ·kernel_rfl
    exact ⟨([], 4, a), _, _, _, rfl, zAq rfl, zJa hN1 hN2 hN3 hp (by have := hO _ (.off (fun q => by rw [q.1] at g; simp at g)); rw [e2] at this; exact this)⟩
   refine And.intro (zBt hl) ?_
   refine ifK (fun h9 => ?_) (fun h9 => ?_)
   ·refine And.intro ?_ ?_
    ·kernel_rfl
    exact ⟨([], 4, a), _, _, _, rfl, zAq rfl, zJa hN1 hN2 hN3 hp (by have := hO _ (.off (fun q => by rw [q.2] at h9; simp at h9)); rw [e2] at this; exact this)⟩
   ·have h9 : checkD t (bs out) = 0 := by simpa using h9
    have h8 : i = IntKind.i64.wrap (a + z) := by simpa using h8
    exact ⟨(bs out, 0, 0), _, _, _, (by show _ = Res.ret (.tuple #[str (bs out), .agg #[.int .i64 0, .int .i64 0]]) _ _ _; rw [← zMh out]; first | done | rfl), zAq rfl, zJa hN1 hN2 hN3 hp (by have := hO _ (.fin h8 h9); rw [e2] at this; exact this)⟩
 | none =>
  refine zBu mixed (tbD7n t (zPv hp)) [0] Try.func54 (c := bodyOf Try.f54) (by kernel_rfl) ?_
  refine ifK (fun g => ?_) (fun h1 => ?_)
  ·exact ⟨([], 2, 0), _, _, _, rfl, zAq rfl, zFc (.inl (of_decide_eq_true g))⟩
  refine ifK (fun g => ?_) (fun h2 => ?_)
  ·exact ⟨([], 2, 0), _, _, _, rfl, zAq rfl, zFc (.inr (.inl (of_decide_eq_true g)))⟩
  refine ifK (fun g => ?_) (fun h3 => ?_)
  ·exact ⟨([], 2, 0), _, _, _, rfl, zAq rfl, zFc (.inr (.inr (.inl (of_decide_eq_true g))))⟩
  refine ifK (fun g => ?_) (fun h4 => ?_)
  ·exact ⟨([], 2, 0), _, _, _, rfl, zAq rfl, zFc (.inr (.inr (.inr (of_decide_eq_true g))))⟩
  have hN1 : ¬ (t < 0 ∨ t > 65535 ∨ z < 0 ∨ z > 65535) := by have q1 := of_decide_eq_false h1; have q2 := of_decide_eq_false h2; have q3 := of_decide_eq_false h3; have q4 := of_decide_eq_false h4; omega
  refine ifK (fun g => ?_) (fun h5 => ?_)
  ·exact ⟨([], 5, 0), _, _, _, rfl, zAq rfl, zHb hN1 (.inl (of_decide_eq_true g))⟩
  refine ifK (fun g => ?_) (fun h6 => ?_)
  ·exact ⟨([], 5, 0), _, _, _, rfl, zAq rfl, zHb hN1 (.inr (by rw [lenB h]; exact of_decide_eq_true g))⟩
  have h1 : ¬ t < 0 := of_decide_eq_false h1
  have h2 : ¬ t > 65535 := of_decide_eq_false h2
  have h3 : ¬ z < 0 := of_decide_eq_false h3
  have h4 : ¬ z > 65535 := of_decide_eq_false h4
  have h5 : ¬ a < 0 := of_decide_eq_false h5
  have h6 : ¬ a > (n : Int) := of_decide_eq_false h6
  have e1 : IntKind.i64.wrap ((n : Int) - a) = n - a := wrapN (by omega) (by omega)
  have hN2 : ¬ (a < 0 ∨ a > (((l.drop o).take n).length : Int)) := by rw [lenB h]; omega
  refine ifK (fun g => ?_) (fun h7 => ?_)
  ·exact ⟨([], 4, (n : Int)), _, _, _, rfl, zAq rfl, zPx hN1 hN2 (lenB h) (by have g := of_decide_eq_true g; rw [e1] at g; exact g)⟩
  have h7 : ¬ (n : Int) - a < z := by have h7 := of_decide_eq_false h7; rw [e1] at h7; exact h7
  have hN3 : ¬ (((l.drop o).take n).length : Int) - a < z := by rw [lenB h]; exact h7
  have e2 : IntKind.i64.wrap (a + z) = a + z := wrapN (by omega) (by omega)
  have eS : bs ⟨((l.drop (o + a.toNat)).take ((IntKind.i64.wrap (a + z)).toNat - a.toNat)).toArray⟩ = (l.drop (o + a.toNat)).take ((IntKind.i64.wrap (a + z)).toNat - a.toNat) := zHi _
  have eL : ((l.drop (o + a.toNat)).take ((IntKind.i64.wrap (a + z)).toNat - a.toNat)).length ≤ 65535 := by rw [List.length_take, e2]; omega
  have fin : rdQ ((l.drop o).take n) a z t ((l.drop (o + a.toNat)).take ((IntKind.i64.wrap (a + z)).toNat - a.toNat), 0, 0) := by
   have := rdQ_none hN1 hN2 hN3 hp
   rw [List.drop_take, List.take_take, List.drop_drop, Nat.min_eq_left (by omega)] at this
   rw [e2, show (a + z).toNat - a.toNat = z.toNat by omega]; exact this
  have srcs : ∀ (o' c' : Nat) (G : Gh), (o' = o + a.toNat ∨ (IntKind.i64.wrap (a + z)).toNat - a.toNat = 0) → G 0 = some (.win (l.map byV) 1) → zAm G 1 (.slice (some ⟨0, o', none⟩) ((IntKind.i64.wrap (a + z)).toNat - a.toNat) c') = some ((IntKind.i64.wrap (a + z)).toNat - a.toNat, (((l.drop (o + a.toNat)).take ((IntKind.i64.wrap (a + z)).toNat - a.toNat)).map fun b : UInt8 => Value.int .u8 (b.toNat : Int))) := fun o' c' G ho hG => by
   rw [e2]
   rw [e2] at ho
   unfold zAm
   by_cases hz : (a + z).toNat - a.toNat = 0
   ·rw [hz]; simp
   ·have ho := ho.resolve_right hz
    subst ho
    have : ((a + z).toNat - a.toNat).beq 0 = false := by cases hb : ((a + z).toNat - a.toNat).beq 0; rfl; exact absurd (Nat.eq_of_beq_eq_true hb) hz
    simp only [this, cond_false, hG, Option.bind_some, AObj.look]
    rw [Nat.ble_eq_true_of_le (by simp; omega)]
    simp only [cond_true, Nat.mul_one, List.map_take, List.map_drop]; rfl
  refine And.intro (by simp) ?_
  refine ifK (fun hcu => ?_) (fun hcu => ?_)
  ·refine And.intro (by rw [e2]; simp only [inLH, Bool.and_eq_true, decide_eq_true_eq]; omega) ?_
   refine Exists.intro ((l.drop (o + a.toNat)).take ((IntKind.i64.wrap (a + z)).toNat - a.toNat)) (And.intro (by rw [h1s]; exact srcs _ _ _ (.inl (by rw [Nat.mul_one])) rfl) ?_)
   exact ⟨((l.drop (o + a.toNat)).take ((IntKind.i64.wrap (a + z)).toNat - a.toNat), 0, 0), _, _, _, rfl, zAq rfl, fin⟩
  ·have hcU : c ≠ U := fun e0 => (by subst e0; cases hcu)
   obtain ⟨hc1, hc2⟩ := hcap.resolve_left hcU
   refine And.intro (by rw [e2]; simp only [inLH, Bool.and_eq_true, decide_eq_true_eq]; exact ⟨⟨⟨⟨by omega, by omega⟩, by omega⟩, Nat.ble_eq_true_of_le hc1⟩, Nat.ble_eq_true_of_le (by omega)⟩) ?_
   refine Exists.intro ((l.drop (o + a.toNat)).take ((IntKind.i64.wrap (a + z)).toNat - a.toNat)) (And.intro (by rw [h1s]; exact srcs _ _ _ (by rw [Nat.mul_one]; cases hb : c.beq a.toNat with | true => (have hb2 := Nat.eq_of_beq_eq_true hb; rw [e2]; exact .inr (by omega)) | false => exact .inl rfl) rfl) ?_)
   exact ⟨((l.drop (o + a.toNat)).take ((IntKind.i64.wrap (a + z)).toNat - a.toNat), 0, 0), _, _, _, rfl, zAq rfl, fin⟩
end Go.Proofs.Ytmpaeabkdhjamaa
namespace Go.Proofs.Ytmpaeabkdhjamaa
open Go Go.RowKit
theorem bs_mkS (s : Bs) : bs (mkS s) = s := by simp [bs, mkS]
theorem zKv (a : Int) {T : List (Bl × Nat)} : ∀ (ps : List (Bs × Bool)) (out : Bl) (F : List (Bl × Nat)) (en : Nat), (wrN a T ps out F en).1 = 0 → ∃ X, (wrN a T ps out F en).2.1 = out ++ X
 | [], out, _, _, _ => ⟨[], by simp [wrN]⟩
 | (s, false) :: ps, out, F, en, h => by
  unfold wrN at h ⊢
  obtain ⟨X, hX⟩ := zKv a ps _ _ _ h
  exact ⟨s ++ X, by rw [hX, List.append_assoc]⟩
 | (s, true) :: ps, out, F, en, h => by
  unfold wrN at h ⊢
  simp only [] at h ⊢
  split at h
  ·rename_i he; exact absurd h he
  ·rename_i he
   rw [if_neg he]
   obtain ⟨X, hX⟩ := zKv a ps _ _ _ h
   exact ⟨_, by rw [hX, List.append_assoc]⟩
theorem wrapA {a n : Nat} (h : a + n < 9223372036854775807) : IntKind.i64.wrap ((a : Int) + (n : Int)) = ((a + n : Nat) : Int) := by rw [wrapN (by omega) (by omega)]; omega
theorem wrN_ok {a : Nat} {T : List (Bl × Nat)} : ∀ (ps : List (Bs × Bool)) (out : Bl) (F : List (Bl × Nat)) (en : Nat), (∀ s, (s, true) ∈ ps → (labels s).2 = 0 ∧ s.length ≤ 255) → en ≤ a + out.length → a + out.length + sumL ps ≤ 65535 → (wrN (a : Int) T ps out F en).1 = 0 ∧ (wrN (a : Int) T ps out F en).2.2.2 ≤ a + (wrN (a : Int) T ps out F en).2.1.length
 | [], out, F, en, _, he, _ => ⟨rfl, he⟩
 | (s, false) :: ps, out, F, en, hs, he, hl => by
  unfold wrN
  simp only [sumL, List.flatMap_cons, List.length_append] at hl
  exact wrN_ok ps _ _ _ (fun s h => hs s (List.mem_cons_of_mem _ h)) (by simp; omega) (by simp only [sumL, List.length_append]; omega)
 | (s, true) :: ps, out, F, en, hs, he, hl => by
  unfold wrN
  simp only [sumL, List.flatMap_cons, List.length_append] at hl
  obtain ⟨h1, h2⟩ := hs s (List.mem_cons_self ..)
  simp only [wrapA (show a + out.length < 9223372036854775807 by omega)]
  have hp : pnE en ((a + out.length : Nat) : Int) (mkS s) = 0 := by
   unfold pnE
   rw [bs_mkS, if_neg (not_not_intro h1), if_neg (by omega), if_neg (by omega)]
  rw [if_neg (not_not_intro hp), Int.toNat_natCast]
  have l1 := zIx (T ++ F) (a + out.length) s.length s 0 ((zBz s).1 h1).1
  exact wrN_ok ps _ _ _ (fun s h => hs s (List.mem_cons_of_mem _ h)) (by simp; omega) (by simp only [sumL, List.length_append]; omega)
theorem zLu {B : Bl} {T G : List (Bl × Nat)} {a b : Nat} (h : knowsN B T a) (hab : a ≤ b) (hG : ∀ s k, (s, k) ∈ G → k < b ∧ k < 16384 ∧ ∃ e, Nw B k k s e) : knowsN B (T ++ G) b := fun t k hm => by
 rcases List.mem_append.1 hm with hm | hm
 ·exact h.mono hab t k hm
 ·exact hG t k hm
theorem zGu {B W o X Y : Bl} {a : Nat} (hb : (B.drop a).take W.length = W) (hW : W = o ++ X ++ Y) : (B.drop (a + o.length)).take X.length = X := by
 have h1 := zHf (B := B) (i := a) (k := o.length) hb (by rw [hW]; simp)
 have h2 := congrArg (List.take X.length) h1
 rw [List.take_take, Nat.min_eq_left (by rw [hW]; simp)] at h2
 rw [h2, hW, List.append_assoc, List.drop_left, List.take_left]
theorem wrN_rd {B : Bl} {a : Nat} {T : List (Bl × Nat)} {t : Int} {W : Bl} (hB : a + W.length ≤ B.length) (hBl : B.length < 9223372036854775807) (hb : (B.drop a).take W.length = W) (ai : Int) : ∀ (ps : List Pt) (l : Bs) (o : List (Bs × Bool)) (r : Bs) (out : Bl) (F : List (Bl × Nat)) (en : Nat) (w : Bs) (R : Int × Bl × List (Bl × Nat) × Nat),
  cuts ps l = some (o, r) → ps.all Pt.small = true → wrN (a : Int) T o out F en = R → R.1 = 0 → R.2.1 = W → knowsN B (T ++ F) (a + out.length) → checkD t (w ++ o.flatMap fun p => p.1) = 0 →
  RdP B ai ((a + W.length : Nat) : Int) t ps ((a + out.length : Nat) : Int) w (w ++ (o.flatMap fun p => p.1), 0, 0) ∧ knowsN B (T ++ R.2.2.1) (a + W.length)
 | [], l, o, r, out, F, en, w, R, hc, _, hR, _, hW, hK, hck => by
  simp only [cuts, Option.some.injEq, Prod.mk.injEq] at hc
  obtain ⟨rfl, rfl⟩ := hc
  unfold wrN at hR
  subst hR
  have hW : out = W := hW
  subst hW
  have e : w ++ (([] : List (Bs × Bool)).flatMap fun p => p.1) = w := by simp
  rw [e] at hck ⊢
  exact ⟨.fin rfl hck, hK⟩
 | p :: ps, l, o, r, out, F, en, w, R, hc, hsm, hR, hR0, hW, hK, hck => by
  simp only [cuts] at hc
  cases hq : p.cut l with
  | none => rw [hq] at hc; cases hc
  | some n =>
   rw [hq] at hc
   simp only [] at hc
   obtain ⟨⟨o', r'⟩, h1, h2⟩ := Option.map_eq_some_iff.1 hc
   simp only [Prod.mk.injEq] at h2
   obtain ⟨rfl, rfl⟩ := h2
   rw [List.all_cons, Bool.and_eq_true] at hsm
   have efl : w ++ (((l.take n, p.isName) :: o').flatMap fun p => p.1) = (w ++ l.take n) ++ (o'.flatMap fun p => p.1) := by simp
   rw [efl] at hck ⊢
   cases p with
   | rest => exact absurd hsm.1 (by decide)
   | sz k =>
    have hn : n = k ∧ k ≤ l.length := by
     simp only [Pt.cut] at hq
     split at hq
     ·cases hq; exact ⟨rfl, by assumption⟩
     ·cases hq
    obtain ⟨rfl, hkl⟩ := hn
    have hR : wrN (a : Int) T ((l.take n, false) :: o') out F en = R := hR
    unfold wrN at hR
    obtain ⟨X, hX⟩ := zKv (a : Int) (T := T) o' (out ++ l.take n) F en (by rw [hR]; exact hR0)
    rw [hR, hW] at hX
    have hln : (l.take n).length = n := by rw [List.length_take]; omega
    have hWl : W.length = out.length + n + X.length := by rw [hX]; simp; omega
    obtain ⟨q1, q2⟩ := wrN_rd hB hBl hb ai ps (l.drop n) o' r' (out ++ l.take n) F en (w ++ l.take n) R h1 hsm.2 hR hR0 hW (hK.mono (by simp)) hck
    refine ⟨.szc (by omega) ?_, q2⟩
    have e1 : ((a + out.length : Nat) : Int) + (n : Int) = ((a + (out ++ l.take n).length : Nat) : Int) := by simp [hln]; omega
    have e2 : (B.drop ((a + out.length : Nat) : Int).toNat).take ((((a + out.length : Nat) : Int) + (n : Int)).toNat - ((a + out.length : Nat) : Int).toNat) = l.take n := by
     have := zGu hb hX
     rw [hln] at this
     rw [show (((a + out.length : Nat) : Int) + (n : Int)).toNat - ((a + out.length : Nat) : Int).toNat = n by omega, Int.toNat_natCast]; exact this
    rw [e2, e1]; exact q1
   | nm =>
    obtain ⟨m1, m2, m3, m4⟩ := zLs hq
    have hR : wrN (a : Int) T ((l.take n, true) :: o') out F en = R := hR
    have h255 : (l.take n).length ≤ 255 := by omega
    generalize l.take n = s at *
    have hout : out.length ≤ W.length := by
     obtain ⟨X, hX⟩ := zKv (a : Int) (T := T) ((s, true) :: o') out F en (by rw [hR]; exact hR0)
     rw [hR, hW] at hX
     rw [hX]; simp
    unfold wrN at hR
    simp only [wrapA (show a + out.length < 9223372036854775807 by omega)] at hR
    by_cases he : pnE en ((a + out.length : Nat) : Int) (mkS s) ≠ 0
    ·rw [if_pos he] at hR
     subst hR
     exact absurd hR0 he
    rw [if_neg he, Int.toNat_natCast] at hR
    obtain ⟨P, hP⟩ : ∃ P, packN (T ++ F) (a + out.length) s.length s 0 = P := ⟨_, rfl⟩
    rw [hP] at hR
    obtain ⟨X, hX⟩ := zKv (a : Int) (T := T) o' (out ++ P.1) (F ++ P.2) (a + out.length + P.1.length) (by rw [hR]; exact hR0)
    rw [hR, hW] at hX
    have hWl : W.length = out.length + P.1.length + X.length := by rw [hX]; simp; omega
    have hbP : (B.drop (a + out.length)).take P.1.length = P.1 := zGu hb hX
    obtain ⟨n1, n2⟩ := zNq (B := B) hK s.length s 0 m1 (Nat.le_refl _) (by rw [hP]; omega) (by rw [hP]; exact hbP)
    rw [hP] at n1 n2
    have hK2 : knowsN B (T ++ (F ++ P.2)) (a + (out ++ P.1).length) := by
     rw [← List.append_assoc]
     refine zLu hK (by simp) (fun u k hm => ?_)
     obtain ⟨_, k2, k3, k4⟩ := n2 u k hm
     exact ⟨by simp; omega, k3, k4⟩
    obtain ⟨q1, q2⟩ := wrN_rd hB hBl hb ai ps (l.drop n) o' r' (out ++ P.1) (F ++ P.2) _ (w ++ s) R h1 hsm.2 hR hR0 hW hK2 hck
    refine ⟨.nmc (r := ⟨s, ((a + out.length + P.1.length : Nat) : Int), 0, 0⟩) (.inr ⟨a + out.length, rfl, by omega, ?_⟩) rfl (by show ¬ ((a + out.length + P.1.length : Nat) : Int) > _; omega) ?_, q2⟩
    ·have := n1.rd (a := a + out.length) [] (-1) (by simpa using h255)
     rw [if_pos (by decide), List.nil_append] at this
     exact this
    ·have e1 : ((a + out.length + P.1.length : Nat) : Int) = ((a + (out ++ P.1).length : Nat) : Int) := by simp; omega
     show RdP B ai _ t ps ((a + out.length + P.1.length : Nat) : Int) (w ++ s) _
     rw [e1]; exact q1
theorem wrD_back {a en : Nat} {T : List (Bl × Nat)} {t : Int} {l : Bs} (hck : checkD t l = 0) (hen : en ≤ a) (hal : a + l.length ≤ 65535) {e : Int} {W : Bl} {F : List (Bl × Nat)} {en' : Nat} (hD : wrD en T (a : Int) t l = (e, W, F, en')) : e = 0 ∧ W.length ≤ l.length ∧ en' ≤ a + W.length ∧
  (∀ B : Bl, a + W.length ≤ B.length → B.length < 9223372036854775807 → (B.drop a).take W.length = W → knowsN B T a → rdQ B (a : Int) (W.length : Int) t (l, 0, 0) ∧ knowsN B (T ++ F) (a + W.length)) := by
 have hWl := wrD_le (en := en) (T := T) (a := (a : Int)) (t := t) (l := l)
 rw [hD] at hWl
 have hWl : W.length ≤ l.length := hWl
 obtain ⟨k1, k2, k3, k4⟩ := zRy hck
 obtain ⟨c1, c2, c3, c4⟩ := zFj hck
 unfold wrD at hD
 rw [if_neg (not_not_intro hck)] at hD
 obtain ⟨o1, o2⟩ := wrN_ok (a := a) (T := T) (pcsD t l) [] [] en k1 (by simpa using hen) (by simp; omega)
 rw [hD] at o1 o2
 refine ⟨o1, hWl, o2, fun B hB hBl hb hK => ?_⟩
 unfold rdQ
 rw [if_neg (by omega), if_neg (by omega), if_neg (by omega)]
 unfold pcsD at hD
 cases hp : ptsT t with
 | none =>
  rw [hp] at hD
  simp only [wrN, List.nil_append, Prod.mk.injEq] at hD
  obtain ⟨_, rfl, rfl, _⟩ := hD
  refine ⟨?_, by rw [List.append_nil]; exact hK.mono (by omega)⟩
  simp only [Int.toNat_natCast, hb]
 | some ps =>
  rw [hp] at hD
  simp only [] at hD ⊢
  obtain ⟨o, q1, q2⟩ := zNh hp c4
  have eo : outP t l = o := by unfold outP; rw [q2]
  rw [eo] at hD
  obtain ⟨_, w2⟩ := zIq _ _ _ _ q1
  rw [List.append_nil] at w2
  rcases (zKb hp).2 with ⟨hs, _⟩ | rfl
  ·have := wrN_rd (t := t) hB hBl hb (a : Int) ps l o [] [] [] en [] _ q1 hs hD o1 rfl (by rw [List.append_nil]; exact hK) (by rw [List.nil_append, w2]; exact hck)
   rw [List.nil_append, w2, show ((a + ([] : Bl).length : Nat) : Int) = (a : Int) by simp] at this
   rw [show ((a : Int) + (W.length : Int)) = ((a + W.length : Nat) : Int) by omega]
   exact this
  ·simp only [cuts, Option.map_eq_some_iff] at q1
   cases hq : Pt.rest.cut l with
   | none => rw [hq] at q1; cases q1
   | some n =>
    rw [hq] at q1
    simp only [Option.map_some, Option.some.injEq, Prod.mk.injEq] at q1
    have hn : n = l.length := by
     simp only [Pt.cut] at hq
     split at hq <;> cases hq; rfl
    subst hn
    rw [List.take_length] at q1
    obtain ⟨rfl, _⟩ := q1
    have hD : wrN (a : Int) T [(l, false)] [] [] en = (e, W, F, en') := hD
    simp only [wrN, List.nil_append, Prod.mk.injEq] at hD
    obtain ⟨_, rfl, rfl, _⟩ := hD
    refine ⟨.rest ?_, by rw [List.append_nil]; exact hK.mono (by omega)⟩
    have e2 : (B.drop ((a : Int)).toNat).take (((a : Int) + (l.length : Int)).toNat - ((a : Int)).toNat) = l := by
     rw [show ((a : Int) + (l.length : Int)).toNat - ((a : Int)).toNat = l.length by omega, Int.toNat_natCast]; exact hb
    rw [e2, List.nil_append]
    exact .fin rfl hck
end Go.Proofs.Ytmpaeabkdhjamaa
namespace Go.Proofs.Ytmpaeabkdhjamaa
open Go Go.RowKit
noncomputable def cq_rdread : CtQ Try.prog :=
 { f := 54, X := RdB × Int × Int × Int, pre := fun x a H _ => a = [x.1.sl, .int .i64 x.2.1, .int .i64 x.2.2.1, .int .i64 x.2.2.2] ∧ x.1.at H ∧ x.1.n ≤ 1000000 ∧ (x.1.c = U ∨ x.1.n ≤ x.1.c ∧ x.1.c ≤ 9223372036854775807), Q := fun x v => ∃ y, v = rdV y ∧ rdQ x.1.B x.2.1 x.2.2.1 x.2.2.2 y,
   ok := fun ⟨⟨b, o, n, c, l⟩, i, z, t⟩ a H m ⟨h1, h2, h3, h4⟩ => by
    subst h1
    obtain ⟨r, hF, y, H', m', wr, rfl, hw, hq⟩ := rdread_fn l o n c i z t h2.2 h3 h4
    exact ⟨rdV y, zBf [b] hF hw zEv (.cons _ _ _ _ (.sl _ _ _ _ _ rfl) (zBi rfl)) (zDe h2.1 (byV_plain l)) rfl, y, rfl, hq⟩,
   uniq := fun ⟨x, i, z, t⟩ ⟨y, i', z', t'⟩ a H m ⟨h1, h2, _⟩ ⟨k1, k2, _⟩ => by
    rw [h1] at k1
    simp only [List.cons.injEq, Value.int.injEq, true_and, and_true] at k1
    obtain ⟨e1, rfl, rfl, rfl⟩ := k1
    rw [RdB.uniq e1 h2 k2] }
noncomputable def zVh : Ct Try.prog 0 := cq_rdread.ctY (Bs × Int × Int) rdV (fun (x : RdB × Int × Int × Int) y => rdQ x.1.B x.2.1 x.2.2.1 x.2.2.2 y) (fun _ _ h => h)
noncomputable def ct_wreadY : Ct Try.prog 0 := zTe.ctY RR rrV (fun (x : RdB × Int) r => rdOk x.1.B x.2 r) (fun _ _ h => h)
theorem rdOk.pos {B : Bl} {x : Int} {r : RR} (h : rdOk B x r) (he : r.e = 0) : x < r.next := by
 rcases h with ⟨_, rfl⟩ | ⟨a, rfl, h1, h2⟩
 ·cases he
 ·have key : ∀ {p i : Nat} {out : Bl} {bh : Int} {r : RR}, Rd B a p i out bh r → (bh < 0 → a ≤ i) → (0 ≤ bh → (a : Int) < bh) → r.e = 0 → (a : Int) < r.next := by
   intro p i out bh r h
   induction h with
   | zero h hc =>
    intro q1 q2 _
    dsimp only
    split
    ·have := q1 (by assumption); omega
    ·exact q2 (by omega)
   | ptr h hc h2 h3 hr ih =>
    intro q1 q2 he
    refine ih (fun q => ?_) (fun _ => ?_) he
    ·split at q
     ·omega
     ·omega
    ·split
     ·have := q1 (by assumption); omega
     ·exact q2 (by omega)
   | lab h hc hc2 h2 h3 hr ih => intro q1 q2 he; exact ih (fun q => by have := q1 q; omega) q2 he
   | _ => intro _ _ e; cases e
  exact key h2 (fun _ => Nat.le_refl _) (fun q => by omega) he
theorem RdP.fine {B : Bl} {a e t : Int} {ps : List Pt} {i : Int} {out : Bs} {y : Bs × Int × Int} (h : RdP B a e t ps i out y) (ha : 0 ≤ a ∧ a ≤ B.length) : (y.2.1 ≠ 0 → y.1 = [] ∧ 0 ≤ y.2.2 ∧ y.2.2 ≤ B.length) ∧ (y.2.1 = 0 → y.2.2 = 0 ∧ checkD t y.1 = 0) := by
 induction h with
 | fin h1 h2 => exact ⟨fun e => absurd rfl e, fun _ => ⟨rfl, h2⟩⟩
 | off h => exact ⟨fun _ => ⟨rfl, ha⟩, fun e => by cases e⟩
 | nmb h he => exact ⟨fun _ => ⟨rfl, h.fine.1 he⟩, fun e => absurd e he⟩
 | nmo h he h2 => exact ⟨fun _ => ⟨rfl, ha⟩, fun e => by cases e⟩
 | nmc _ _ _ _ ih => exact ih
 | rest _ ih => exact ih
 | szb h => exact ⟨fun _ => ⟨rfl, ha⟩, fun e => by cases e⟩
 | szc _ _ ih => exact ih
theorem rdQ.fine {B : Bl} {a z t : Int} {y : Bs × Int × Int} (h : rdQ B a z t y) : (y.2.1 ≠ 0 → y.1 = [] ∧ 0 ≤ y.2.2 ∧ y.2.2 ≤ B.length) ∧ (y.2.1 = 0 → y.2.2 = 0 ∧ checkD t y.1 = 0 ∧ 0 ≤ z ∧ a + z ≤ B.length) := by
 unfold rdQ at h
 split at h
 ·subst h; exact ⟨fun _ => ⟨rfl, Int.le_refl _, Int.natCast_nonneg _⟩, fun e => by cases e⟩
 ·split at h
  ·subst h; exact ⟨fun _ => ⟨rfl, Int.le_refl _, Int.natCast_nonneg _⟩, fun e => by cases e⟩
  ·split at h
   ·subst h; exact ⟨fun _ => ⟨rfl, Int.natCast_nonneg _, Int.le_refl _⟩, fun e => by cases e⟩
   ·cases hp : ptsT t with
    | none =>
     rw [hp] at h
     subst h
     exact ⟨fun e => absurd rfl e, fun _ => ⟨rfl, zVc hp (by omega) (by rw [List.length_take]; omega), by omega, by omega⟩⟩
    | some ps =>
     rw [hp] at h
     obtain ⟨q1, q2⟩ := RdP.fine h (by omega)
     exact ⟨q1, fun e => ⟨(q2 e).1, (q2 e).2, by omega, by omega⟩⟩
end Go.Proofs.Ytmpaeabkdhjamaa
namespace Go.Proofs.Ytmpaeabkdhjamaa
open Go Go.RowKit
noncomputable def baseR8 : List (Ct Try.prog 0) := [ct_wreadY, zTf, ct_get32, zVh]
noncomputable def inl_takes : Ct Try.prog 0 := Ct.inl (tbOf mixed baseR8) mixed [0] 72 Try.f72 Try.func72 (bodyOf Try.f72) (by kernel_rfl)
noncomputable def tbR8a : Tb Try.prog 0 := tbOf mixed (inl_takes :: baseR8)
noncomputable def inl_name : Ct Try.prog 0 := Ct.inl tbR8a mixed [0] 51 Try.f51 Try.func51 (bodyOf Try.f51) (by kernel_rfl)
noncomputable def inl_two : Ct Try.prog 0 := Ct.inl tbR8a mixed [0] 52 Try.f52 Try.func52 (bodyOf Try.f52) (by kernel_rfl)
noncomputable def inl_four : Ct Try.prog 0 := Ct.inl tbR8a mixed [0] 53 Try.f53 Try.func53 (bodyOf Try.f53) (by kernel_rfl)
noncomputable def tbR8 : Tb Try.prog 0 := tbOf mixed (inl_name :: inl_two :: inl_four :: baseR8)
def numAt (B : Bl) (k sz : Nat) : Nat := beN ((B.drop k).take sz)
def recBad (e p : Int) : Value := .tuple #[.agg #[.string ⟨#[]⟩, .int .i64 0, .int .i64 0, .int .i64 0, .string ⟨#[]⟩], .int .i64 0, .agg #[.int .i64 e, .int .i64 p]]
def zSf (s : Bl) (t c ttl : Nat) (d : Bs) (next : Int) : Value := .tuple #[.agg #[str s, .int .i64 t, .int .i64 c, .int .i64 (if ttl > 2147483647 then 0 else (ttl : Int)), str d], .int .i64 next, .agg #[.int .i64 0, .int .i64 0]]
def queBad (e p : Int) : Value := .tuple #[.agg #[.string ⟨#[]⟩, .int .i64 0, .int .i64 0], .int .i64 0, .agg #[.int .i64 e, .int .i64 p]]
def zSb (s : Bl) (t c : Nat) (next : Int) : Value := .tuple #[.agg #[str s, .int .i64 t, .int .i64 c], .int .i64 next, .agg #[.int .i64 0, .int .i64 0]]
inductive recQ (B : Bl) (a : Int) : Value → Prop
 | name {r : RR} (h : rdOk B a r) (he : r.e ≠ 0) : recQ B a (recBad r.e r.pos)
 | short {r : RR} {k : Nat} (h : rdOk B a r) (he : r.e = 0) (hk : r.next = k) (hl : B.length < k + 10) : recQ B a (recBad 4 (B.length : Int))
 | data {r : RR} {k : Nat} {y : Bs × Int × Int} (h : rdOk B a r) (he : r.e = 0) (hk : r.next = k) (hl : k + 10 ≤ B.length) (hy : rdQ B (k + 10 : Nat) (numAt B (k + 8) 2) (numAt B k 2) y) (hf : y.2.1 ≠ 0) : recQ B a (recBad y.2.1 y.2.2)
 | fine {r : RR} {k : Nat} {y : Bs × Int × Int} (h : rdOk B a r) (he : r.e = 0) (hk : r.next = k) (hl : k + 10 ≤ B.length) (hy : rdQ B (k + 10 : Nat) (numAt B (k + 8) 2) (numAt B k 2) y) (hf : y.2.1 = 0) : recQ B a (zSf r.s (numAt B k 2) (numAt B (k + 2) 2) (numAt B (k + 4) 4) y.1 ((k + 10 : Nat) + (numAt B (k + 8) 2 : Int)))
theorem recQ.det {B : Bl} {a : Int} {v v' : Value} (h : recQ B a v) (k : recQ B a v') : v = v' := by
 cases h with
 | name h he => cases k with
  | name h' => rw [zAn h h']
  | short h' he' => rw [zAn h h'] at he; exact absurd he' he
  | data h' he' => rw [zAn h h'] at he; exact absurd he' he
  | fine h' he' => rw [zAn h h'] at he; exact absurd he' he
 | short h he hk hl => cases k with
  | name h' he' => rw [zAn h h'] at he; exact absurd he he'
  | short => rfl
  | data h' _ hk' hl' => rw [zAn h h', hk'] at hk; omega
  | fine h' _ hk' hl' => rw [zAn h h', hk'] at hk; omega
 | data h he hk hl hy hf => cases k with
  | name h' he' => rw [zAn h h'] at he; exact absurd he he'
  | short h' _ hk' hl' => rw [zAn h h', hk'] at hk; omega
  | data h' _ hk' _ hy' => rw [zAn h h', hk'] at hk; have hk := Int.ofNat.inj hk; subst hk; rw [zNs hy hy']
  | fine h' _ hk' _ hy' hf' => rw [zAn h h', hk'] at hk; have hk := Int.ofNat.inj hk; subst hk; rw [zNs hy hy'] at hf; exact absurd hf' hf
 | fine h he hk hl hy hf => cases k with
  | name h' he' => rw [zAn h h'] at he; exact absurd he he'
  | short h' _ hk' hl' => rw [zAn h h', hk'] at hk; omega
  | data h' _ hk' _ hy' hf' => rw [zAn h h', hk'] at hk; have hk := Int.ofNat.inj hk; subst hk; rw [zNs hy hy'] at hf; exact absurd hf hf'
  | fine h' _ hk' _ hy' => have e := zAn h h'; subst e; rw [hk'] at hk; have hk := Int.ofNat.inj hk; subst hk; rw [zNs hy hy']
inductive queQ (B : Bl) (a : Int) : Value → Prop
 | name {r : RR} (h : rdOk B a r) (he : r.e ≠ 0) : queQ B a (queBad r.e r.pos)
 | short {r : RR} {k : Nat} (h : rdOk B a r) (he : r.e = 0) (hk : r.next = k) (hl : B.length < k + 4) : queQ B a (queBad 4 (B.length : Int))
 | fine {r : RR} {k : Nat} (h : rdOk B a r) (he : r.e = 0) (hk : r.next = k) (hl : k + 4 ≤ B.length) : queQ B a (zSb r.s (numAt B k 2) (numAt B (k + 2) 2) ((k + 4 : Nat) : Int))
theorem queQ.det {B : Bl} {a : Int} {v v' : Value} (h : queQ B a v) (k : queQ B a v') : v = v' := by
 cases h with
 | name h he => cases k with
  | name h' => rw [zAn h h']
  | short h' he' => rw [zAn h h'] at he; exact absurd he' he
  | fine h' he' => rw [zAn h h'] at he; exact absurd he' he
 | short h he hk hl => cases k with
  | name h' he' => rw [zAn h h'] at he; exact absurd he he'
  | short => rfl
  | fine h' _ hk' hl' => rw [zAn h h', hk'] at hk; omega
 | fine h he hk hl => cases k with
  | name h' he' => rw [zAn h h'] at he; exact absurd he he'
  | short h' _ hk' hl' => rw [zAn h h', hk'] at hk; omega
  | fine h' _ hk' => have e := zAn h h'; subst e; rw [hk'] at hk; have hk := Int.ofNat.inj hk; subst hk; rfl
theorem zSc (l : Bl) (o n c : Nat) (i : Int) (h : o + n ≤ l.length) (hn : n ≤ 1000000) (hcap : c = U ∨ n ≤ c ∧ c ≤ 9223372036854775807) : ∃ r, FnS Try.prog 0 29 [.slice (some ⟨0, o, none⟩) n c, .int .i64 i] (heap 1 [(0, .win (l.map byV) 1)]) 1 r ∧ ∃ v H m wr, r = .ret v H m wr ∧ (∀ k ∈ wr, 1 ≤ k) ∧ plainV 8 v = true ∧ queQ ((l.drop o).take n) i v := by
 have hB := lenB h
 have htake : ∀ j m : Nat, j + m ≤ n → numAt ((l.drop o).take n) j m = beN ((l.drop (o + j)).take m) := fun j m hjm => by unfold numAt; rw [List.drop_take, List.take_take, List.drop_drop, Nat.min_eq_left (by omega)]
 refine zBu mixed tbR8 [0] Try.func29 (c := bodyOf Try.f29) (by kernel_rfl) ?_
 refine And.intro ?_ ?_
 ·kernel_rfl
 refine Exists.intro (⟨0, o, n, c, l⟩, i) (And.intro ⟨rfl, ⟨rfl, h⟩, (by show n ≤ _; omega), hcap⟩ ?_)
 intro r hr
 obtain ⟨s, nx, e, pos⟩ := r
 have hr : rdOk ((l.drop o).take n) i ⟨s, nx, e, pos⟩ := hr
 refine ifK (fun g => ?_) (fun g => ?_)
 ·have g : e ≠ 0 := by simpa using g
  have gz : (e == 0) = true → False := fun q => g (by simpa using q)
  refine ifK (fun q => (gz q).elim) (fun _ => ?_)
  refine ifK (fun q => (gz q).elim) (fun _ => ?_)
  refine ifK (fun _ => ?_) (fun q => absurd q (by simpa using g))
  refine And.intro ?_ ?_
  ·kernel_rfl
  exact ⟨queBad e pos, _, _, _, rfl, zAq rfl, rfl, .name hr g⟩
 have g : e = 0 := by simpa using g
 subst g
 obtain ⟨q1, q2, _⟩ := hr.fine.2 rfl
 have q1 : 0 ≤ nx := q1
 have q2 : nx ≤ (((l.drop o).take n).length : Int) := q2
 rw [hB] at q2
 obtain ⟨k, rfl⟩ := Int.eq_ofNat_of_zero_le q1
 refine And.intro ?_ ?_
 ·kernel_rfl
 refine Exists.intro (⟨0, o, n, c, l⟩, ((k + 0 : Nat) : Int)) (And.intro ⟨rfl, ⟨rfl, h⟩, (by show n ≤ _; omega)⟩ ?_)
 refine ifK (fun q => absurd q (by simp only [Bool.or_eq_true, decide_eq_true_eq]; omega)) (fun _ => ?_)
 refine ifK (fun s0 => ?_) (fun s0 => ?_)
 rotate_left
 ·have s0 : ¬ k + 2 ≤ n := fun e => by rw [show Nat.ble (((k + 0 : Nat) : Int).toNat + 2) n = true from Nat.ble_eq_true_of_le e] at s0; cases s0
  refine And.intro ?_ ?_
  ·kernel_rfl
  exact ⟨queBad 4 (n : Int), _, _, _, rfl, zAq rfl, rfl, by have := queQ.short hr rfl rfl (show ((l.drop o).take n).length < _ by rw [hB]; omega); rw [hB] at this; exact this⟩
 have s0 : k + 2 ≤ n := Nat.le_of_ble_eq_true s0
 refine And.intro ?_ ?_
 ·kernel_rfl
 refine Exists.intro (⟨0, o, n, c, l⟩, ((k + 2 : Nat) : Int)) (And.intro ⟨rfl, ⟨rfl, h⟩, (by show n ≤ _; omega)⟩ ?_)
 refine ifK (fun q => absurd q (by simp only [Bool.or_eq_true, decide_eq_true_eq]; omega)) (fun _ => ?_)
 refine ifK (fun s2 => ?_) (fun s2 => ?_)
 rotate_left
 ·have s2 : ¬ k + 4 ≤ n := fun e => by rw [show Nat.ble (((k + 2 : Nat) : Int).toNat + 2) n = true from Nat.ble_eq_true_of_le e] at s2; cases s2
  refine And.intro ?_ ?_
  ·kernel_rfl
  exact ⟨queBad 4 (n : Int), _, _, _, rfl, zAq rfl, rfl, by have := queQ.short hr rfl rfl (show ((l.drop o).take n).length < _ by rw [hB]; omega); rw [hB] at this; exact this⟩
 have s2 : k + 4 ≤ n := Nat.le_of_ble_eq_true s2
 refine And.intro ?_ ?_
 ·kernel_rfl
 have fin := queQ.fine hr rfl rfl (show k + 4 ≤ ((l.drop o).take n).length by rw [hB]; omega)
 rw [htake k 2 (by omega), htake (k + 2) 2 (by omega)] at fin
 exact ⟨_, _, _, _, rfl, zAq rfl, rfl, fin⟩
theorem zWc (l : Bl) (o n c : Nat) (i : Int) (h : o + n ≤ l.length) (hn : n ≤ 1000000) (hcap : c = U ∨ n ≤ c ∧ c ≤ 9223372036854775807) : ∃ r, FnS Try.prog 0 27 [.slice (some ⟨0, o, none⟩) n c, .int .i64 i] (heap 1 [(0, .win (l.map byV) 1)]) 1 r ∧ ∃ v H m wr, r = .ret v H m wr ∧ (∀ k ∈ wr, 1 ≤ k) ∧ plainV 8 v = true ∧ recQ ((l.drop o).take n) i v := by
 have hB := lenB h
 have htake : ∀ j m : Nat, j + m ≤ n → numAt ((l.drop o).take n) j m = beN ((l.drop (o + j)).take m) := fun j m hjm => by unfold numAt; rw [List.drop_take, List.take_take, List.drop_drop, Nat.min_eq_left (by omega)]
 refine zBu mixed tbR8 [0] Try.func27 (c := bodyOf Try.f27) (by kernel_rfl) ?_
 refine And.intro ?_ ?_
 ·kernel_rfl
 refine Exists.intro (⟨0, o, n, c, l⟩, i) (And.intro ⟨rfl, ⟨rfl, h⟩, (by show n ≤ _; omega), hcap⟩ ?_)
 intro r hr
 obtain ⟨s, nx, e, pos⟩ := r
 have hr : rdOk ((l.drop o).take n) i ⟨s, nx, e, pos⟩ := hr
 refine ifK (fun g => ?_) (fun g => ?_)
 ·have g : e ≠ 0 := by simpa using g
  have gz : (e == 0) = true → False := fun q => g (by simpa using q)
  refine ifK (fun q => (gz q).elim) (fun _ => ?_)
  refine ifK (fun q => (gz q).elim) (fun _ => ?_)
  refine ifK (fun q => (gz q).elim) (fun _ => ?_)
  refine ifK (fun q => (gz q).elim) (fun _ => ?_)
  refine ifK (fun _ => ?_) (fun q => absurd q (by simpa using g))
  refine And.intro ?_ ?_
  ·kernel_rfl
  exact ⟨recBad e pos, _, _, _, rfl, zAq rfl, rfl, .name hr g⟩
 have g : e = 0 := by simpa using g
 subst g
 obtain ⟨q1, q2, _⟩ := hr.fine.2 rfl
 have q1 : 0 ≤ nx := q1
 have q2 : nx ≤ (((l.drop o).take n).length : Int) := q2
 rw [hB] at q2
 obtain ⟨k, rfl⟩ := Int.eq_ofNat_of_zero_le q1
 refine And.intro ?_ ?_
 ·kernel_rfl
 refine Exists.intro (⟨0, o, n, c, l⟩, ((k + 0 : Nat) : Int)) (And.intro ⟨rfl, ⟨rfl, h⟩, (by show n ≤ _; omega)⟩ ?_)
 refine ifK (fun q => absurd q (by simp only [Bool.or_eq_true, decide_eq_true_eq]; omega)) (fun _ => ?_)
 refine ifK (fun s0 => ?_) (fun s0 => ?_)
 rotate_left
 ·have s0 : ¬ k + 2 ≤ n := fun e => by rw [show Nat.ble (((k + 0 : Nat) : Int).toNat + 2) n = true from Nat.ble_eq_true_of_le e] at s0; cases s0
  refine And.intro ?_ ?_
  ·kernel_rfl
  exact ⟨recBad 4 (n : Int), _, _, _, rfl, zAq rfl, rfl, by have := recQ.short hr rfl rfl (show ((l.drop o).take n).length < _ by rw [hB]; omega); rw [hB] at this; exact this⟩
 have s0 : k + 2 ≤ n := Nat.le_of_ble_eq_true s0
 refine And.intro ?_ ?_
 ·kernel_rfl
 refine Exists.intro (⟨0, o, n, c, l⟩, ((k + 2 : Nat) : Int)) (And.intro ⟨rfl, ⟨rfl, h⟩, (by show n ≤ _; omega)⟩ ?_)
 refine ifK (fun q => absurd q (by simp only [Bool.or_eq_true, decide_eq_true_eq]; omega)) (fun _ => ?_)
 refine ifK (fun s2 => ?_) (fun s2 => ?_)
 rotate_left
 ·have s2 : ¬ k + 4 ≤ n := fun e => by rw [show Nat.ble (((k + 2 : Nat) : Int).toNat + 2) n = true from Nat.ble_eq_true_of_le e] at s2; cases s2
  refine And.intro ?_ ?_
  ·kernel_rfl
  exact ⟨recBad 4 (n : Int), _, _, _, rfl, zAq rfl, rfl, by have := recQ.short hr rfl rfl (show ((l.drop o).take n).length < _ by rw [hB]; omega); rw [hB] at this; exact this⟩
 have s2 : k + 4 ≤ n := Nat.le_of_ble_eq_true s2
 refine And.intro ?_ ?_
 ·kernel_rfl
 refine Exists.intro (⟨0, o, n, c, l⟩, ((k + 4 : Nat) : Int)) (And.intro ⟨rfl, ⟨rfl, h⟩, (by show n ≤ _; omega)⟩ ?_)
 refine ifK (fun q => absurd q (by simp only [Bool.or_eq_true, decide_eq_true_eq]; omega)) (fun _ => ?_)
 refine ifK (fun s4 => ?_) (fun s4 => ?_)
 rotate_left
 ·have s4 : ¬ k + 8 ≤ n := fun e => by rw [show Nat.ble (((k + 4 : Nat) : Int).toNat + 4) n = true from Nat.ble_eq_true_of_le e] at s4; cases s4
  refine And.intro ?_ ?_
  ·kernel_rfl
  exact ⟨recBad 4 (n : Int), _, _, _, rfl, zAq rfl, rfl, by have := recQ.short hr rfl rfl (show ((l.drop o).take n).length < _ by rw [hB]; omega); rw [hB] at this; exact this⟩
 have s4 : k + 8 ≤ n := Nat.le_of_ble_eq_true s4
 refine And.intro ?_ ?_
 ·kernel_rfl
 refine Exists.intro (⟨0, o, n, c, l⟩, ((k + 8 : Nat) : Int)) (And.intro ⟨rfl, ⟨rfl, h⟩, (by show n ≤ _; omega)⟩ ?_)
 refine ifK (fun q => absurd q (by simp only [Bool.or_eq_true, decide_eq_true_eq]; omega)) (fun _ => ?_)
 refine ifK (fun s8 => ?_) (fun s8 => ?_)
 rotate_left
 ·have s8 : ¬ k + 10 ≤ n := fun e => by rw [show Nat.ble (((k + 8 : Nat) : Int).toNat + 2) n = true from Nat.ble_eq_true_of_le e] at s8; cases s8
  refine And.intro ?_ ?_
  ·kernel_rfl
  exact ⟨recBad 4 (n : Int), _, _, _, rfl, zAq rfl, rfl, by have := recQ.short hr rfl rfl (show ((l.drop o).take n).length < _ by rw [hB]; omega); rw [hB] at this; exact this⟩
 have s8 : k + 10 ≤ n := Nat.le_of_ble_eq_true s8
 refine And.intro ?_ ?_
 ·kernel_rfl
 refine Exists.intro (⟨0, o, n, c, l⟩, ((k + 10 : Nat) : Int), (beN ((l.drop (o + (k + 8))).take 2) : Int), (beN ((l.drop (o + k)).take 2) : Int)) (And.intro ⟨rfl, ⟨rfl, h⟩, (by show n ≤ _; omega), hcap⟩ ?_)
 intro y hy
 have hy : rdQ ((l.drop o).take n) ((k + 10 : Nat) : Int) (beN ((l.drop (o + (k + 8))).take 2) : Int) (beN ((l.drop (o + k)).take 2) : Int) y := hy
 have hy2 := hy
 rw [← htake (k + 8) 2 (by omega), ← htake k 2 (by omega)] at hy2
 have hl : k + 10 ≤ ((l.drop o).take n).length := by rw [hB]; omega
 refine ifK (fun g => ?_) (fun g => ?_)
 ·have g : y.2.1 ≠ 0 := by simpa using g
  refine And.intro ?_ ?_
  ·kernel_rfl
  exact ⟨recBad y.2.1 y.2.2, _, _, _, rfl, zAq rfl, rfl, .data hr rfl rfl hl hy2 g⟩
 have g : y.2.1 = 0 := by simpa using g
 have fin := recQ.fine hr rfl rfl hl hy2 g
 have hy3 := (hy.fine.2 g).2.2.2
 rw [hB] at hy3
 rw [htake k 2 (by omega), htake (k + 2) 2 (by omega), htake (k + 4) 4 (by omega), htake (k + 8) 2 (by omega)] at fin
 have ew : IntKind.i64.wrap (((k + 10 : Nat) : Int) + (beN ((l.drop (o + (k + 8))).take 2) : Int)) = ((k + 10 : Nat) : Int) + (beN ((l.drop (o + (k + 8))).take 2) : Int) := wrapM (by omega) (by omega)
 unfold zSf at fin
 refine ifK (fun g2 => ?_) (fun g2 => ?_)
 ·have g2 : (beN ((l.drop (o + (k + 4))).take 4) : Int) > 2147483647 := of_decide_eq_true g2
  rw [if_pos (by omega)] at fin
  refine And.intro ?_ ?_
  ·kernel_rfl
  rw [← ew] at fin
  exact ⟨_, _, _, _, rfl, zAq rfl, rfl, fin⟩
 ·have g2 : ¬ (beN ((l.drop (o + (k + 4))).take 4) : Int) > 2147483647 := of_decide_eq_false g2
  rw [if_neg (by omega)] at fin
  refine And.intro ?_ ?_
  ·kernel_rfl
  rw [← ew] at fin
  exact ⟨_, _, _, _, rfl, zAq rfl, rfl, fin⟩
noncomputable def zRf : CtQ Try.prog :=
 { f := 29, X := RdB × Int, pre := fun x a H _ => a = [x.1.sl, .int .i64 x.2] ∧ x.1.at H ∧ x.1.n ≤ 1000000 ∧ (x.1.c = U ∨ x.1.n ≤ x.1.c ∧ x.1.c ≤ 9223372036854775807), Q := fun x v => queQ x.1.B x.2 v,
   ok := fun ⟨⟨b, o, n, c, l⟩, i⟩ a H m ⟨h1, h2, h3, h4⟩ => by
    subst h1
    obtain ⟨r, hF, v, H', m', wr, rfl, hw, hp, hq⟩ := zSc l o n c i h2.2 h3 h4
    exact ⟨v, zBf [b] hF hw zEv (.cons _ _ _ _ (.sl _ _ _ _ _ rfl) (zBi rfl)) (zDe h2.1 (byV_plain l)) hp, hq⟩,
   uniq := fun ⟨x, i⟩ ⟨y, j⟩ a H m ⟨h1, h2, _⟩ ⟨k1, k2, _⟩ => by
    rw [h1] at k1
    simp only [List.cons.injEq, Value.int.injEq, true_and, and_true] at k1
    rw [RdB.uniq k1.1 h2 k2, k1.2] }
noncomputable def zVe : CtQ Try.prog :=
 { f := 27, X := RdB × Int, pre := fun x a H _ => a = [x.1.sl, .int .i64 x.2] ∧ x.1.at H ∧ x.1.n ≤ 1000000 ∧ (x.1.c = U ∨ x.1.n ≤ x.1.c ∧ x.1.c ≤ 9223372036854775807), Q := fun x v => recQ x.1.B x.2 v,
   ok := fun ⟨⟨b, o, n, c, l⟩, i⟩ a H m ⟨h1, h2, h3, h4⟩ => by
    subst h1
    obtain ⟨r, hF, v, H', m', wr, rfl, hw, hp, hq⟩ := zWc l o n c i h2.2 h3 h4
    exact ⟨v, zBf [b] hF hw zEv (.cons _ _ _ _ (.sl _ _ _ _ _ rfl) (zBi rfl)) (zDe h2.1 (byV_plain l)) hp, hq⟩,
   uniq := fun ⟨x, i⟩ ⟨y, j⟩ a H m ⟨h1, h2, _⟩ ⟨k1, k2, _⟩ => by
    rw [h1] at k1
    simp only [List.cons.injEq, Value.int.injEq, true_and, and_true] at k1
    rw [RdB.uniq k1.1 h2 k2, k1.2] }
end Go.Proofs.Ytmpaeabkdhjamaa
namespace Go.Proofs.Ytmpaeabkdhjamaa
open Go Go.RowKit
theorem ovN_ne (b : Nat) {o : Bl} (h : o ≠ []) : ovN b o = .slice (some ⟨b, 0, none⟩) o.length U := by
 cases o with
 | nil => exact absurd rfl h
 | cons u us => rfl
def PkFn (f : FuncId) (xs : List Value) (en : Nat) (T : List (Bl × Nat)) (ck : Nat) (R : Int × Bl × List (Bl × Nat) × Nat) : Prop :=
 ∃ r, FnS Try.prog 0 f (.pointer (some ⟨0, 0, none⟩) :: xs) (heap 2 [(0, .cells [.map (some 1), .int .i64 (en : Int)] 73), (1, .map (encT T) ck)]) 2 r ∧
  ∃ H m wr b, r = .ret (.tuple #[ovN b R.2.1, .int .i64 R.1]) H m wr ∧ (R.2.1 ≠ [] → 2 ≤ b ∧ b < JJ ∧ H.get b = some (.cells (R.2.1.map byV) 5)) ∧ H.get 0 = some (.cells [.map (some 1), .int .i64 (R.2.2.2 : Int)] 73) ∧ H.get 1 = some (.map (encT (T ++ R.2.2.1)) (ck + R.2.2.1.length))
structure PkY (Y : Type) where
 pb : Nat
 mb : Nat
 en : Nat
 T : List (Bl × Nat)
 ck : Nat
 y : Y
 e : Int
 o : Bl
 F : List (Bl × Nat)
 en' : Nat
noncomputable def ct_pk (f : FuncId) (Y : Type) (xs : Y → List Value) (inj : ∀ y y', xs y = xs y' → y = y') (pl : ∀ y, plainL (xs y) = true) (pre : Y → Prop) (D : Nat → List (Bl × Nat) → Y → Int × Bl × List (Bl × Nat) × Nat)
  (fn : ∀ (y : Y) (en : Nat) (T : List (Bl × Nat)) (ck : Nat), goodT T → pre y → PkFn f (xs y) en T ck (D en T y)) : Ct Try.prog 0 :=
 CtR.ct { f := f, X := PkY Y,
          pre := fun x as0 H _ => as0 = .pointer (some ⟨x.pb, 0, none⟩) :: xs x.y ∧ H.get x.pb = some (.cells [.map (some x.mb), .int .i64 (x.en : Int)] 73) ∧ H.get x.mb = some (.map (encT x.T) x.ck) ∧ goodT x.T ∧ pre x.y ∧ D x.en x.T x.y = (x.e, x.o, x.F, x.en'),
          out := fun x H n => packO x.pb x.mb x.T x.ck x.e x.o x.F x.en' H n,
          tr := fun x H n K => frcN x.pb fun pb => frcN x.mb fun mb => K (packO pb mb x.T x.ck x.e x.o x.F x.en' H n),
          trOk := fun x H n K h => zPr h,
          ok := fun x as0 H n ⟨h1, h2, h3, h4, h5, h6⟩ => by
           subst h1
           obtain ⟨pb, mb, en, T, ck, y, e, o, F, en'⟩ := x
           obtain ⟨q1, q2, q3⟩ := packB h2 h3
           have hfn := fn y en T ck h4 h5
           have h6 : D en T y = (e, o, F, en') := h6
           rw [h6] at hfn
           obtain ⟨r, hF, H', m, wr, b, rfl, g1, g2, g3⟩ := hfn
           have := zId (n := n) (hF.wr [0, 1]) q1 q2 (.cons _ _ _ _ (.ptr _ _ _ rfl) (zBi (pl y))) h2 h3 (by simp) (by simp) g1 g2 g3 q3
           cases o <;> exact this,
          uniq := fun x y as0 H n ⟨h1, h2, h3, _, _, h6⟩ ⟨k1, k2, k3, _, _, k6⟩ => by
           obtain ⟨pb, mb, en, T, ck, z, e, o, F, en1⟩ := x
           obtain ⟨pb', mb', en', T', ck', z', e', o', F', en1'⟩ := y
           rw [h1] at k1
           simp only [List.cons.injEq, Value.pointer.injEq, Option.some.injEq, Addr.mk.injEq, and_true] at k1
           obtain ⟨rfl, k1⟩ := k1
           have := inj _ _ k1
           subst this
           obtain ⟨rfl, rfl, rfl, rfl⟩ := zPs h2 h3 k2 k3
           have := h6.symm.trans k6
           simp only [Prod.mk.injEq] at this
           obtain ⟨rfl, rfl, rfl, rfl⟩ := this
           rfl }
end Go.Proofs.Ytmpaeabkdhjamaa
namespace Go.Proofs.Ytmpaeabkdhjamaa
open Go Go.RowKit
theorem zFd {x : RcX} (h : recC x = 0) : (labels (bs x.n)).2 = 0 ∧ numB x.t 65535 = true ∧ numB x.c 65535 = true ∧ numB x.ttl 2147483647 = true ∧ checkD x.t (bs x.d) = 0 := by
 unfold recC at h
 split at h
 ·rename_i h1; exact absurd h h1
 ·rename_i h1
  split at h
  ·rename_i h2
   simp only [Bool.and_eq_true] at h2
   exact ⟨by simpa using h1, h2.1.1, h2.1.2, h2.2, h⟩
  ·cases h
def RcX.g (x : RcX) : List Value := [.string x.n, .int .i64 x.t, .int .i64 x.c, .int .i64 x.ttl, .string x.d]
def layR : Lay RcX where
 g := RcX.g
 k := 5
 t := 23
 len _ := rfl
 pos := by decide
 plain _ := rfl
 inj x y h := by
  obtain ⟨n, t, c, l, d⟩ := x
  obtain ⟨n', t', c', l', d'⟩ := y
  simp only [RcX.g, List.cons.injEq, Value.string.injEq, Value.int.injEq, true_and, and_true] at h
  obtain ⟨rfl, rfl, rfl, rfl, rfl⟩ := h; rfl
def bigR (n : Int) (x : RcX) : Bool := decide ((x.n.data.size : Int) > n) || decide ((x.d.data.size : Int) > n)
noncomputable def tbR4 : Tb Try.prog 0 := tbOf mixed []
end Go.Proofs.Ytmpaeabkdhjamaa
namespace Go.Proofs.Ytmpaeabkdhjamaa
open Go Go.RowKit
noncomputable def inl_twos : Ct Try.prog 0 := Ct.inl (tbOf mixed [zTh]) mixed [] 44 Try.f44 Try.func44 (bodyOf Try.f44) (by kernel_rfl)
noncomputable def inl_rnone : Ct Try.prog 0 := Ct.inl (tbOf mixed [zMy]) mixed [] 42 Try.f42 Try.func42 (bodyOf Try.f42) (by kernel_rfl)
noncomputable def tbWr7 : Tb Try.prog 0 := tbOf mixed [inl_rnone, zIp, zOv, zJk, zMy, inl_twos, ct_put32, ct_write]
theorem zCo {n m : Int} (h : numB n m = true) : ∃ k : Nat, n = (k : Int) ∧ (k : Int) ≤ m := by
 unfold numB at h
 have h := of_decide_eq_true h
 exact ⟨n.toNat, by omega, by omega⟩
theorem zUh (en : Nat) (T : List (Bl × Nat)) : pnR en T (-1) (mkS [0]) true [] [] := ⟨by rw [zUd]; rfl, fun h => by cases h⟩
structure AskY where
 a : Int
 n : ByteArray
 t : Int
 c : Int
def AskY.xs (y : AskY) : List Value := [.int .i64 y.a, .agg #[.string y.n, .int .i64 y.t, .int .i64 y.c]]
theorem AskY.inj (y z : AskY) (h : y.xs = z.xs) : y = z := by
 obtain ⟨a, n, t, c⟩ := y
 obtain ⟨a', n', t', c'⟩ := z
 simp only [AskY.xs, List.cons.injEq, Value.int.injEq, Value.agg.injEq, Array.mk.injEq, Value.string.injEq, true_and, and_true] at h
 obtain ⟨rfl, rfl, rfl, rfl⟩ := h; rfl
def AskY.D (en : Nat) (T : List (Bl × Nat)) (y : AskY) : Int × Bl × List (Bl × Nat) × Nat := askD en T y.a y.n y.t y.c
theorem ask_fn (y : AskY) (en : Nat) (T : List (Bl × Nat)) (ck : Nat) (hT : goodT T) (hs : shortB y.n = true) : PkFn 19 y.xs en T ck (y.D en T) := by
 obtain ⟨a, n, t, c⟩ := y
 have h1s : (Try.prog.types[5]).size = 1 := by kernel_rfl
 have hby : (Try.prog.types[5]).bytes = 1 := by kernel_rfl
 refine zBu mixed tbWr7 [1] Try.func19 (c := bodyOf Try.f19) (by kernel_rfl) ?_
 refine Exists.intro (⟨0, 1, en, T, ck, -1, mkS [0], true, [], []⟩ : PkX) (And.intro ⟨rfl, rfl, (show Tr.get _ 1 = some (AObj.map (encT T) ck) from rfl), hT, rfl, zUh en T⟩ ?_)
 refine And.intro hs ?_
 unfold AskY.D askD
 refine ifK (fun g => ?_) (fun g => ?_)
 ·have g : (labels (bs n)).2 ≠ 0 := by simpa using g
  rw [if_pos g]
  exact ⟨_, _, _, 0, rfl, fun h => absurd rfl h, rfl, by rw [List.append_nil]; rfl⟩
 have g : ¬ (labels (bs n)).2 ≠ 0 := by simpa using g
 rw [if_neg g]
 refine ifK (fun g2 => ?_) (fun g2 => ?_)
 ·rw [show numB t 65535 = false by simpa using g2]
  exact ⟨_, _, _, 0, rfl, fun h => absurd rfl h, rfl, by show some (AObj.map (encT T) ck) = _; simp⟩
 have k2 : numB t 65535 = true := by simpa using g2
 rw [k2]
 refine ifK (fun g3 => ?_) (fun g3 => ?_)
 ·rw [show numB c 65535 = false by simpa using g3]
  exact ⟨_, _, _, 0, rfl, fun h => absurd rfl h, rfl, by show some (AObj.map (encT T) ck) = _; simp⟩
 have k3 : numB c 65535 = true := by simpa using g3
 clear g2 g3
 rw [k3, show (true && true) = true from rfl, if_pos rfl]
 by_cases he : pnE en a n ≠ 0
 ·rw [if_pos he]
  refine Exists.intro (⟨0, 1, en, T, ck, a, n, true, [], []⟩ : PkX) (And.intro ⟨rfl, rfl, (show Tr.get _ 1 = some (AObj.map (encT T) ck) from rfl), hT, hs, (decide_eq_true he).symm, fun h => by cases h⟩ ?_)
  refine ifK (fun _ => ?_) (fun g => absurd (show pnE en a n = 0 by simpa using g) he)
  exact ⟨_, _, _, 0, rfl, fun h => absurd rfl h, rfl, by show some (AObj.map (encT T) ck) = _; simp⟩
 ·rw [if_neg he]
  have he0 : pnE en a n = 0 := Decidable.not_not.1 he
  obtain ⟨⟨p1, p2⟩, p3, p4, p5⟩ := zJz he0
  obtain ⟨r, hr⟩ : ∃ r, packN T a.toNat (bs n).length (bs n) 0 = r := ⟨_, rfl⟩
  have hl1 := zDu T a.toNat (bs n).length (bs n) 0
  rw [hr] at hl1 ⊢
  obtain ⟨o, F⟩ := r
  have hl1 : o.length ≤ 257 := by have : o.length ≤ (bs n).length + 2 := hl1; omega
  obtain ⟨t, rfl, ht⟩ := zCo k2
  obtain ⟨c, rfl, hc⟩ := zCo k3
  refine Exists.intro (⟨0, 1, en, T, ck, a, n, false, o, F⟩ : PkX) (And.intro ⟨rfl, rfl, (show Tr.get _ 1 = some (AObj.map (encT T) ck) from rfl), hT, hs, (decide_eq_false he).symm, fun _ => hr⟩ ?_)
  refine Exists.intro t (And.intro ⟨rfl, by omega⟩ ?_)
  refine Exists.intro c (And.intro ⟨rfl, by omega⟩ ?_)
  refine And.intro (by kernel_rfl) ?_
  refine And.intro (by rw [h1s, hby]; simp only [Bool.and_eq_true, decide_eq_true_eq]; exact ⟨⟨⟨⟨⟨⟨rfl, rfl⟩, Nat.ble_eq_true_of_le (by simp)⟩, rfl⟩, (by omega)⟩, (by omega)⟩, Nat.ble_eq_true_of_le (by simp)⟩) ?_
  have hne : o ++ by2 t ++ by2 c ≠ [] := by simp [by2]
  have hv : Value.slice (some ⟨9, 0, none⟩) (o.length + (2 + 2)) U = ovN 9 (o ++ by2 t ++ by2 c) := by rw [ovN_ne 9 hne]; simp [by2]
  have hc : (List.take (o.length * 1) (o.map byV) ++ [byV (hi8 t), byV (lo8 t), byV (hi8 c), byV (lo8 c)]) = (o ++ by2 t ++ by2 c).map byV := by rw [Nat.mul_one, List.take_of_length_le (by simp)]; simp [by2]
  refine ⟨_, _, _, 9, congrArg (fun v => Res.ret (.tuple #[v, .int .i64 0]) _ _ _) hv, fun _ => ⟨by decide, by decide, ?_⟩, rfl, rfl⟩
  exact congrArg (fun l => some (AObj.cells l _)) hc
structure WrtY where
 a : Int
 x : RcX
def WrtY.xs (y : WrtY) : List Value := [.int .i64 y.a, y.x.v]
theorem WrtY.inj (y z : WrtY) (h : y.xs = z.xs) : y = z := by
 obtain ⟨a, n, t, c, w, d⟩ := y
 obtain ⟨a', n', t', c', w', d'⟩ := z
 simp only [WrtY.xs, RcX.v, List.cons.injEq, Value.int.injEq, Value.agg.injEq, Array.mk.injEq, Value.string.injEq, true_and, and_true] at h
 obtain ⟨rfl, rfl, rfl, rfl, rfl, rfl⟩ := h; rfl
def WrtY.D (en : Nat) (T : List (Bl × Nat)) (y : WrtY) : Int × Bl × List (Bl × Nat) × Nat := recD en T y.a y.x
theorem recD_pn {en : Nat} {T : List (Bl × Nat)} {a : Int} {x : RcX} (h : recC x = 0) (he : pnE en a x.n ≠ 0) : recD en T a x = (pnE en a x.n, [], [], en) := by
 obtain ⟨z1, z2, z3, z4, z5⟩ := zFd h
 unfold recD askD
 rw [if_neg (not_not_intro h), if_neg (not_not_intro z1), z2, z3, show (true && true) = true from rfl, if_pos rfl, if_pos he]
 simp only []
 rw [if_pos he]
theorem recD_ok {en : Nat} {T : List (Bl × Nat)} {k : Nat} {x : RcX} {o : Bl} {F : List (Bl × Nat)} (h : recC x = 0) (he : pnE en k x.n = 0) (hr : packN T k (bs x.n).length (bs x.n) 0 = (o, F)) {R : Int × Bl × List (Bl × Nat) × Nat} (hR : wrD (k + o.length) (T ++ F) ((k + (o.length + 8) + 2 : Nat) : Int) x.t (bs x.d) = R) :
  recD en T k x = if R.1 ≠ 0 then (R.1, [], F ++ R.2.2.1, R.2.2.2) else (0, (o ++ by2 x.t.toNat ++ by2 x.c.toNat ++ by4 x.ttl.toNat) ++ by2 R.2.1.length ++ R.2.1, F ++ R.2.2.1, R.2.2.2) := by
 obtain ⟨z1, z2, z3, z4, z5⟩ := zFd h
 have hl : (o ++ by2 x.t.toNat ++ by2 x.c.toNat ++ by4 x.ttl.toNat).length = o.length + 8 := by simp [by2, by4]
 unfold recD askD
 rw [if_neg (not_not_intro h), if_neg (not_not_intro z1), z2, z3, show (true && true) = true from rfl, if_pos rfl, if_neg (not_not_intro he), Int.toNat_natCast, hr]
 simp only []
 rw [if_neg (not_not_intro rfl), hl, hR]
theorem wrN_e (a : Int) {T : List (Bl × Nat)} : ∀ (ps : List (Bs × Bool)) (out : Bl) (F : List (Bl × Nat)) (en : Nat), (wrN a T ps out F en).1 ≠ 0 → (wrN a T ps out F en).2.1 = []
 | [], _, _, _ => fun h => absurd rfl h
 | (s, false) :: ps, out, F, en => by unfold wrN; exact wrN_e a ps _ _ _
 | (s, true) :: ps, out, F, en => by
  unfold wrN
  simp only []
  split
  ·exact fun _ => rfl
  ·exact wrN_e a ps _ _ _
theorem wrD_e {en : Nat} {T : List (Bl × Nat)} {a t : Int} {l : Bs} : (wrD en T a t l).1 ≠ 0 → (wrD en T a t l).2.1 = [] := by
 unfold wrD
 split
 ·exact fun _ => rfl
 ·exact wrN_e _ _ _ _ _
theorem recw_fn (y : WrtY) (en : Nat) (T : List (Bl × Nat)) (ck : Nat) (hT : goodT T) (hs : y.x.ok = true) : PkFn 21 y.xs en T ck (y.D en T) := by
 obtain ⟨a, x⟩ := y
 have hs : x.ok = true := hs
 have h1s : (Try.prog.types[5]).size = 1 := by kernel_rfl
 have hby : (Try.prog.types[5]).bytes = 1 := by kernel_rfl
 obtain ⟨hn, hd⟩ := RcX.ok1 hs
 have hsh : shortB x.n = true := zBt (by omega)
 have hdh : shortB x.d = true := zBt (by omega)
 unfold WrtY.D
 obtain ⟨n, t, c, w, d⟩ := x
 have hd : (bs d).length ≤ 100000000 := hd
 refine zBu mixed tbWr7 [1, 12] Try.func21 (c := bodyOf Try.f21) (by kernel_rfl) ?_
 refine Exists.intro (⟨0, 1, en, T, ck, -1, mkS [0], true, [], []⟩ : PkX) (And.intro ⟨rfl, rfl, (show Tr.get _ 1 = some (AObj.map (encT T) ck) from rfl), hT, rfl, zUh en T⟩ ?_)
 refine And.intro hs ?_
 refine ifK (fun g => ?_) (fun g => ?_)
 ·have g : recC ⟨n, t, c, w, d⟩ ≠ 0 := by simpa using g
  unfold recD
  rw [if_pos g]
  exact ⟨_, _, _, 0, rfl, fun h => absurd rfl h, rfl, by show some (AObj.map (encT T) ck) = _; simp⟩
 have gz : recC ⟨n, t, c, w, d⟩ = 0 := by simpa using g
 clear g
 by_cases he : pnE en a n ≠ 0
 ·refine Exists.intro (⟨0, 1, en, T, ck, a, n, true, [], []⟩ : PkX) (And.intro ⟨rfl, rfl, (show Tr.get _ 1 = some (AObj.map (encT T) ck) from rfl), hT, hsh, (decide_eq_true he).symm, fun h => by cases h⟩ ?_)
  refine ifK (fun _ => ?_) (fun g => absurd (show pnE en a n = 0 by simpa using g) he)
  have e1 : recD en T a ⟨n, t, c, w, d⟩ = _ := recD_pn gz he
  simp only [e1]
  exact ⟨_, _, _, 0, rfl, fun h => absurd rfl h, rfl, by show some (AObj.map (encT T) ck) = _; simp⟩
 have he0 : pnE en a n = 0 := Decidable.not_not.1 he
 obtain ⟨⟨p1, p2⟩, p3, p4, p5⟩ := zJz he0
 obtain ⟨k, rfl⟩ : ∃ k : Nat, a = (k : Int) := ⟨a.toNat, by omega⟩
 obtain ⟨r, hr⟩ : ∃ r, packN T k (bs n).length (bs n) 0 = r := ⟨_, rfl⟩
 have hl1 := zDu T k (bs n).length (bs n) 0
 have hgd := zDv hT k (bs n).length (bs n) 0
 rw [hr] at hl1 hgd
 obtain ⟨o, F⟩ := r
 have hl1 : o.length ≤ 257 := by have : o.length ≤ (bs n).length + 2 := hl1; omega
 obtain ⟨R, hR⟩ : ∃ R, wrD (k + o.length) (T ++ F) ((k + (o.length + 8) + 2 : Nat) : Int) t (bs d) = R := ⟨_, rfl⟩
 have e1 : recD en T k ⟨n, t, c, w, d⟩ = _ := recD_ok gz he0 hr hR
 simp only [e1]
 obtain ⟨z1, z2, z3, z4, z5⟩ := zFd gz
 obtain ⟨t, rfl, ht⟩ := zCo z2
 obtain ⟨c, rfl, hc⟩ := zCo z3
 obtain ⟨w, rfl, hw⟩ := zCo z4
 have hle := wrD_le (en := k + o.length) (T := T ++ F) (a := ((k + (o.length + 8) + 2 : Nat) : Int)) (t := (t : Int)) (l := bs d)
 have hld := (zFj z5).2.2.1
 rw [hR] at hle
 obtain ⟨e2, o2, F2, en2⟩ := R
 have hl2 : o2.length ≤ 65535 := Nat.le_trans hle hld
 clear hle
 refine Exists.intro (⟨0, 1, en, T, ck, k, n, false, o, F⟩ : PkX) (And.intro ⟨rfl, rfl, (show Tr.get _ 1 = some (AObj.map (encT T) ck) from rfl), hT, hsh, (decide_eq_false he).symm, fun _ => hr⟩ ?_)
 refine Exists.intro w (And.intro ⟨rfl, by omega⟩ ?_)
 refine Exists.intro t (And.intro ⟨rfl, by omega⟩ ?_)
 refine Exists.intro c (And.intro ⟨rfl, by omega⟩ ?_)
 refine And.intro (by kernel_rfl) ?_
 refine And.intro (by rw [h1s, hby]; simp only [Bool.and_eq_true, decide_eq_true_eq]; exact ⟨⟨⟨⟨⟨⟨rfl, rfl⟩, Nat.ble_eq_true_of_le (by simp)⟩, rfl⟩, (by omega)⟩, (by omega)⟩, Nat.ble_eq_true_of_le (by simp)⟩) ?_
 refine And.intro (by rw [h1s, hby]; simp only [Bool.and_eq_true, decide_eq_true_eq]; exact ⟨⟨⟨⟨⟨⟨rfl, rfl⟩, Nat.ble_eq_true_of_le (by simp)⟩, rfl⟩, (by omega)⟩, (by omega)⟩, Nat.ble_eq_true_of_le (by simp [by4])⟩) ?_
 have hat : IntKind.i64.wrap (IntKind.i64.wrap ((k : Int) + ((o.length + (2 + 2) + 4 : Nat) : Int)) + 2) = ((k + (o.length + 8) + 2 : Nat) : Int) := by
  have i1 : IntKind.i64.wrap ((k : Int) + ((o.length + (2 + 2) + 4 : Nat) : Int)) = ((k + (o.length + 8) : Nat) : Int) := by rw [wrapN (by omega) (by omega)]; omega
  rw [i1, wrapN (by omega) (by omega)]; omega
 have hm : (AObj.map (encT ((T ++ F) ++ F2)) (ck + F.length + F2.length)) = AObj.map (encT (T ++ (F ++ F2))) (ck + (F ++ F2).length) := by rw [List.append_assoc, List.length_append, Nat.add_assoc]
 refine Exists.intro (⟨0, 1, k + o.length, T ++ F, ck + F.length, ((k + (o.length + 8) + 2 : Nat) : Int), t, d, e2, o2, F2, en2⟩ : WrX) (And.intro ⟨by rw [← hat] <;> rfl, rfl, (show Tr.get _ 1 = some (AObj.map (encT (T ++ F)) (ck + F.length)) from rfl), hgd, hdh, hR⟩ ?_)
 cases o2 with
 | nil =>
  refine ifK (fun h2 => ?_) (fun h2 => ?_)
  ·have h2 : e2 ≠ 0 := by simpa using h2
   rw [if_pos h2]
   exact ⟨_, _, _, 0, rfl, fun h => absurd rfl h, rfl, congrArg some hm⟩
  have h2 : e2 = 0 := by simpa using h2
  subst h2
  rw [if_neg (not_not_intro rfl)]
  refine Exists.intro 0 (And.intro ⟨rfl, by decide⟩ ?_)
  refine And.intro (by rw [h1s, hby]; simp only [Bool.and_eq_true, decide_eq_true_eq]; exact ⟨⟨⟨⟨⟨⟨rfl, rfl⟩, Nat.ble_eq_true_of_le (by simp [by4] <;> omega)⟩, rfl⟩, (by simp <;> omega)⟩, (by simp <;> omega)⟩, Nat.ble_eq_true_of_le (by simp [by4] <;> omega)⟩) ?_
  have hne : (o ++ by2 t ++ by2 c ++ by4 w) ++ by2 0 ++ [] ≠ [] := by simp [by2]
  have hv : Value.slice (some ⟨15, 0, none⟩) (o.length + (2 + 2) + 4 + 2) U = ovN 15 ((o ++ by2 t ++ by2 c ++ by4 w) ++ by2 0 ++ []) := by rw [ovN_ne 15 hne]; simp [by2, by4]
  refine ⟨_, _, _, 15, congrArg (fun v => Res.ret (.tuple #[v, .int .i64 0]) _ _ _) hv, fun _ => ⟨by decide, by decide, ?_⟩, rfl, congrArg some hm⟩
  refine (show some (AObj.cells _ _) = some (AObj.cells _ _) from congrArg (fun l => some (AObj.cells l _)) ?_)
  simp [h1s, by2, by4, List.take_of_length_le, List.take_append]
 | cons u us =>
  have h2 : e2 = 0 := by
   have := wrD_e (en := k + o.length) (T := T ++ F) (a := ((k + (o.length + 8) + 2 : Nat) : Int)) (t := (t : Int)) (l := bs d)
   rw [hR] at this
   exact Decidable.byContradiction fun h => by cases this h
  subst h2
  rw [if_neg (not_not_intro rfl)]
  have hle : us.length + 1 ≤ 65535 := hl2
  refine Exists.intro (us.length + 1) (And.intro ⟨rfl, by omega⟩ ?_)
  refine And.intro (by rw [h1s, hby]; simp only [Bool.and_eq_true, decide_eq_true_eq]; exact ⟨⟨⟨⟨⟨⟨rfl, rfl⟩, Nat.ble_eq_true_of_le (by simp [by4] <;> omega)⟩, rfl⟩, (by simp <;> omega)⟩, (by simp <;> omega)⟩, Nat.ble_eq_true_of_le (by simp [by4] <;> omega)⟩) ?_
  refine Exists.intro ((u :: us).map byV) (And.intro (zKn (l := u :: us) h1s rfl) ?_)
  have hone : oneL ((u :: us).map byV) = true := oneB _
  refine And.intro (by rw [h1s, hby]; simp only [Bool.and_eq_true, decide_eq_true_eq]; exact ⟨⟨⟨⟨⟨⟨rfl, rfl⟩, Nat.ble_eq_true_of_le (by simp [by4] <;> omega)⟩, hone⟩, (by simp <;> omega)⟩, (by simp <;> omega)⟩, Nat.ble_eq_true_of_le (by simp [by4] <;> omega)⟩) ?_
  have hne : (o ++ by2 t ++ by2 c ++ by4 w) ++ by2 (us.length + 1) ++ u :: us ≠ [] := by simp [by2]
  have hv : Value.slice (some ⟨17, 0, none⟩) (o.length + (2 + 2) + 4 + 2 + (us.length + 1)) U = ovN 17 ((o ++ by2 t ++ by2 c ++ by4 w) ++ by2 (us.length + 1) ++ u :: us) := by rw [ovN_ne 17 hne]; simp [by2, by4]; omega
  refine ⟨_, _, _, 17, congrArg (fun v => Res.ret (.tuple #[v, .int .i64 0]) _ _ _) hv, fun _ => ⟨by decide, by decide, ?_⟩, rfl, congrArg some hm⟩
  refine (show some (AObj.cells _ _) = some (AObj.cells _ _) from congrArg (fun l => some (AObj.cells l _)) ?_)
  simp [h1s, by2, by4, List.take_of_length_le, List.take_append]
end Go.Proofs.Ytmpaeabkdhjamaa
namespace Go.Proofs.Ytmpaeabkdhjamaa
open Go Go.RowKit
theorem zJg {v : Nat} (h : v < 65536) : beN (by2 v) = v := by
 show (0 * 256 + (UInt8.ofNat (v / 256)).toNat) * 256 + (UInt8.ofNat (v % 256)).toNat = v
 simp; omega
theorem beN_by4 {v : Nat} (h : v < 4294967296) : beN (by4 v) = v := by
 show (((0 * 256 + (UInt8.ofNat (v / 2 ^ 24)).toNat) * 256 + (UInt8.ofNat (v / 2 ^ 16)).toNat) * 256 + (UInt8.ofNat (v / 2 ^ 8)).toNat) * 256 + (UInt8.ofNat (v / 2 ^ 0)).toNat = v
 simp; omega
theorem zHo {B W o X Y : Bl} {a : Nat} (hb : (B.drop a).take W.length = W) (hW : W = o ++ X ++ Y) {k z : Nat} (hk : k = a + o.length) (hz : z = X.length) : numAt B k z = beN X := by
 subst hk; subst hz
 unfold numAt; rw [zGu hb hW]
theorem rr_of {B : Bl} {a e : Nat} {s : Bl} (h : Nw B a a s e) (hl : s.length ≤ 255) (ha : a ≤ B.length) : rdOk B (a : Int) ⟨s, (e : Int), 0, 0⟩ := by
 have := h.rd (a := a) [] (-1) (by simpa using hl)
 rw [if_pos (by decide), List.nil_append] at this
 exact .inr ⟨a, rfl, ha, this⟩
def quV (x : RcX) (m : Nat) : Value := .tuple #[.agg #[.string x.n, .int .i64 x.t, .int .i64 x.c], .int .i64 (m : Int), .agg #[.int .i64 0, .int .i64 0]]
def rcV (x : RcX) (m : Nat) : Value := .tuple #[x.v, .int .i64 (m : Int), .agg #[.int .i64 0, .int .i64 0]]
theorem zPp {en a : Nat} {T : List (Bl × Nat)} {n : ByteArray} (hn : (labels (bs n)).2 = 0) (hen : en ≤ a) (ha : a ≤ 65535) : pnE en a n = 0 ∧ ∃ o F, packN T a (bs n).length (bs n) 0 = (o, F) ∧ 1 ≤ o.length ∧ o.length ≤ 255 ∧ (bs n).length ≤ 255 ∧
  (∀ B : Bl, a + o.length ≤ B.length → (B.drop a).take o.length = o → knowsN B T a → rdOk B (a : Int) ⟨bs n, ((a + o.length : Nat) : Int), 0, 0⟩ ∧ knowsN B (T ++ F) (a + o.length)) := by
 obtain ⟨hN, hl⟩ := (zBz (bs n)).1 hn
 refine ⟨?_, _, _, rfl, ?_, ?_, hl, fun B hB hb hK => ?_⟩
 ·unfold pnE
  rw [if_neg (not_not_intro hn), if_neg (by omega), if_neg (by omega)]
 ·have := zNp T a (bs n).length (bs n) 0 hN.pos
  exact List.length_pos_iff.2 this
 ·exact Nat.le_trans (zIx T a _ _ _ hN) hl
 ·obtain ⟨n1, n2⟩ := zNq hK (bs n).length (bs n) 0 hN (Nat.le_refl _) hB hb
  exact ⟨rr_of n1 hl (by omega), zLu hK (by omega) (fun u k hm => by obtain ⟨_, k2, k3, k4⟩ := n2 u k hm; exact ⟨k2, k3, k4⟩)⟩
theorem zUf {B o X : Bl} {a : Nat} (hb : (B.drop a).take (o ++ X).length = o ++ X) : (B.drop a).take o.length = o := by
 have := zGu (o := []) (X := o) (Y := X) hb (by simp)
 simpa using this
theorem ask_back {en a : Nat} {T : List (Bl × Nat)} {x : RcX} (hx : recC x = 0) (hen : en ≤ a) (ha : a ≤ 65535) {e : Int} {W : Bl} {F : List (Bl × Nat)} {en' : Nat} (hD : askD en T (a : Int) x.n x.t x.c = (e, W, F, en')) : e = 0 ∧ W ≠ [] ∧ W.length ≤ 300 ∧ en' ≤ a + W.length ∧
  (∀ B : Bl, a + W.length ≤ B.length → (B.drop a).take W.length = W → knowsN B T a → queQ B (a : Int) (quV x (a + W.length)) ∧ knowsN B (T ++ F) (a + W.length)) := by
 obtain ⟨z1, z2, z3, z4, z5⟩ := zFd hx
 obtain ⟨t, ht, ht2⟩ := zCo z2
 obtain ⟨c, hc, hc2⟩ := zCo z3
 obtain ⟨hp, o, G, hr, ho1, ho2, hn, hB⟩ := zPp (en := en) (T := T) z1 hen ha
 unfold askD at hD
 rw [if_neg (not_not_intro z1), z2, z3, show (true && true) = true from rfl, if_pos rfl, if_neg (not_not_intro hp), Int.toNat_natCast, hr] at hD
 simp only [Prod.mk.injEq, ht, hc, Int.toNat_natCast] at hD
 obtain ⟨rfl, rfl, rfl, rfl⟩ := hD
 have hl : (o ++ by2 t ++ by2 c).length = o.length + 4 := by simp [by2]
 refine ⟨rfl, by simp [by2], by rw [hl]; omega, by rw [hl]; omega, fun B hBl hb hK => ?_⟩
 obtain ⟨r1, r2⟩ := hB B (by rw [hl] at hBl; omega) (zUf (X := by2 t ++ by2 c) (by rw [← List.append_assoc]; exact hb)) hK
 refine ⟨?_, r2.mono (by rw [hl]; omega)⟩
 have n1 : numAt B (a + o.length) 2 = t := by
  rw [show numAt B (a + o.length) 2 = beN (by2 t) from zHo hb (o := o) (X := by2 t) (Y := by2 c) rfl rfl rfl]
  exact zJg (by omega)
 have n2 : numAt B (a + o.length + 2) 2 = c := by
  rw [show numAt B (a + o.length + 2) 2 = beN (by2 c) from zHo hb (o := o ++ by2 t) (X := by2 c) (Y := []) (by simp) (by simp [by2]; omega) rfl]
  exact zJg (by omega)
 have := queQ.fine (k := a + o.length) r1 rfl rfl (by rw [hl] at hBl; omega)
 rw [n1, n2] at this
 unfold quV
 rw [ht, hc, hl]
 unfold zSb at this
 rw [zKr] at this
 exact this
theorem rec_back {en a : Nat} {T : List (Bl × Nat)} {x : RcX} (hx : recC x = 0) (hen : en ≤ a) (ha : a + 300 + (bs x.d).length ≤ 65535) {e : Int} {W : Bl} {F : List (Bl × Nat)} {en' : Nat} (hD : recD en T (a : Int) x = (e, W, F, en')) : e = 0 ∧ W ≠ [] ∧ W.length ≤ 300 + (bs x.d).length ∧ en' ≤ a + W.length ∧
  (∀ B : Bl, a + W.length ≤ B.length → B.length < 9223372036854775807 → (B.drop a).take W.length = W → knowsN B T a → recQ B (a : Int) (rcV x (a + W.length)) ∧ (∃ m, queQ B (a : Int) (quV x m)) ∧ knowsN B (T ++ F) (a + W.length)) := by
 obtain ⟨z1, z2, z3, z4, z5⟩ := zFd hx
 obtain ⟨hp, o, G, hr, ho1, ho2, hn, hB⟩ := zPp (en := en) (T := T) z1 hen (by omega)
 obtain ⟨R, hR⟩ : ∃ R, wrD (a + o.length) (T ++ G) ((a + (o.length + 8) + 2 : Nat) : Int) x.t (bs x.d) = R := ⟨_, rfl⟩
 rw [recD_ok hx hp hr hR] at hD
 obtain ⟨e2, D, F2, en2⟩ := R
 obtain ⟨d1, d2, d3, d4⟩ := wrD_back z5 (show a + o.length ≤ a + (o.length + 8) + 2 by omega) (by omega) hR
 subst d1
 rw [if_neg (not_not_intro rfl)] at hD
 obtain ⟨t, ht, ht2⟩ := zCo z2
 obtain ⟨c, hc, hc2⟩ := zCo z3
 obtain ⟨w, hw, hw2⟩ := zCo z4
 simp only [Prod.mk.injEq, ht, hc, hw, Int.toNat_natCast] at hD
 obtain ⟨rfl, rfl, rfl, rfl⟩ := hD
 have hl : ((o ++ by2 t ++ by2 c ++ by4 w) ++ by2 D.length ++ D).length = o.length + 10 + D.length := by simp [by2, by4]; omega
 refine ⟨rfl, by simp [by2], by rw [hl]; omega, by rw [hl]; omega, fun B hBl hBm hb hK => ?_⟩
 rw [hl] at hBl
 obtain ⟨r1, r2⟩ := hB B (by omega) (zUf (X := by2 t ++ by2 c ++ by4 w ++ by2 D.length ++ D) (by simpa [List.append_assoc] using hb)) hK
 have n1 : numAt B (a + o.length) 2 = t := by
  rw [show numAt B (a + o.length) 2 = beN (by2 t) from zHo hb (o := o) (X := by2 t) (Y := by2 c ++ by4 w ++ by2 D.length ++ D) (by simp) rfl rfl]
  exact zJg (by omega)
 have n2 : numAt B (a + o.length + 2) 2 = c := by
  rw [show numAt B (a + o.length + 2) 2 = beN (by2 c) from zHo hb (o := o ++ by2 t) (X := by2 c) (Y := by4 w ++ by2 D.length ++ D) (by simp) (by simp [by2]; omega) rfl]
  exact zJg (by omega)
 have n3 : numAt B (a + o.length + 4) 4 = w := by
  rw [show numAt B (a + o.length + 4) 4 = beN (by4 w) from zHo hb (o := o ++ by2 t ++ by2 c) (X := by4 w) (Y := by2 D.length ++ D) (by simp) (by simp [by2]; omega) rfl]
  exact beN_by4 (by omega)
 have n4 : numAt B (a + o.length + 8) 2 = D.length := by
  rw [show numAt B (a + o.length + 8) 2 = beN (by2 D.length) from zHo hb (o := o ++ by2 t ++ by2 c ++ by4 w) (X := by2 D.length) (Y := D) rfl (by simp [by2, by4]; omega) rfl]
  exact zJg (by omega)
 have e0 : a + (o.length + 8) + 2 = a + o.length + 10 := by omega
 have hbD : (B.drop (a + (o.length + 8) + 2)).take D.length = D := by
  have := zGu (o := o ++ by2 t ++ by2 c ++ by4 w ++ by2 D.length) (X := D) (Y := []) hb (by simp)
  rw [show a + (o ++ by2 t ++ by2 c ++ by4 w ++ by2 D.length).length = a + (o.length + 8) + 2 by simp [by2, by4]; omega] at this
  exact this
 obtain ⟨q1, q2⟩ := d4 B (by omega) hBm hbD (r2.mono (by omega))
 refine ⟨?_, ⟨a + o.length + 4, ?_⟩, ?_⟩
 ·have hy : rdQ B ((a + o.length + 10 : Nat) : Int) (numAt B (a + o.length + 8) 2 : Int) (numAt B (a + o.length) 2 : Int) (bs x.d, 0, 0) := by
   rw [n1, n4, ← e0, ← ht]; exact q1
  have := recQ.fine (k := a + o.length) r1 rfl rfl (by omega) hy rfl
  rw [n1, n2, n3, n4] at this
  unfold zSf at this
  rw [zKr, zKr, if_neg (by omega)] at this
  unfold rcV RcX.v
  rw [ht, hc, hw, hl]
  have e1 : ((a + o.length + 10 : Nat) : Int) + (D.length : Int) = ((a + (o.length + 10 + D.length) : Nat) : Int) := by omega
  rw [e1] at this
  exact this
 ·have := queQ.fine (k := a + o.length) r1 rfl rfl (by omega)
  rw [n1, n2] at this
  unfold zSb at this
  rw [zKr] at this
  unfold quV
  rw [ht, hc]
  exact this
 ·rw [← List.append_assoc]
  refine q2.mono (by rw [hl]; omega)
end Go.Proofs.Ytmpaeabkdhjamaa
namespace Go.Proofs.Ytmpaeabkdhjamaa
open Go Go.RowKit
def u8V (x : Int) : Value := .int .u8 x
theorem u8_plain (L : List Int) : plainL (L.map u8V) = true := by simp [plainL, plainV, u8V]
theorem u8_list {l : List Value} (h : ∀ v ∈ l, ∃ x, v = .int .u8 x) : ∃ L : List Int, l = L.map u8V := by
 induction l with
 | nil => exact ⟨[], rfl⟩
 | cons v l ih =>
  obtain ⟨x, rfl⟩ := h v (List.mem_cons_self ..)
  obtain ⟨L, rfl⟩ := ih (fun v hv => h v (List.mem_cons_of_mem _ hv))
  exact ⟨x :: L, rfl⟩
theorem byte_rest {l : List Value} (h : restOK Try.prog 5 l) : ∀ v ∈ l, ∃ x, v = .int .u8 x := by
 have hz : (Try.prog.info? 5).bind (·.zero) = some (.int .u8 0) := by kernel_rfl
 obtain ⟨i, h1, h2⟩ := Option.bind_eq_some_iff.1 hz
 exact h (by kernel_rfl) i _ h1 h2 rfl
theorem OR.bytes {E : Env} {w : World} {b : Nat} {c : List Value} (h : OR Try.prog E w b (.cells c 5)) (hc : ∃ L : List Int, c = L.map u8V) :
  ∃ arr fr, w.heap[E.ρ b]? = some (.cells arr 5 fr) ∧ (fr = (0, 0) ∨ (arr.size ≤ fr.1 ∧ Try.prog.underlying 5 = some (.int .u8))) ∧ arr.size = E.tot b ∧ E.sz b = 1 ∧ E.sh b = 0 ∧ ∃ L : List Int, arr.toList = L.map u8V := by
 obtain ⟨arr, fr, h1, h2, h3, h4, h5, h6, h7, h8⟩ := h
 obtain ⟨L, rfl⟩ := hc
 have h9 : arr.toList.take (L.map u8V).length = L.map u8V := by
  have : plainL (L.map u8V) = true := u8_plain L
  have := zCp 9 (E := E) (v := .agg (L.map u8V).toArray) (v' := .agg (arr.toList.take (L.map u8V).length).toArray) (by simpa [plainV, plainL] using this) (.agg _ _ (by simpa using h6))
  simpa using this
 obtain ⟨M, hM⟩ := u8_list (byte_rest h8)
 have hsz : E.sz b = 1 := by
  have := zOq
  rw [h4] at this; simpa using this
 refine ⟨arr, fr, h1, h2, h3, hsz, h7, L ++ M, ?_⟩
 rw [List.map_append, ← hM]
 conv => lhs; rw [← List.take_append_drop (L.map u8V).length arr.toList, h9]
end Go.Proofs.Ytmpaeabkdhjamaa
namespace Go.Proofs.Ytmpaeabkdhjamaa
open Go Go.RowKit
def bigS (a b : List Value) (l : List RcX) (c : Nat) (n : Int) (i : Nat) (f : Nat → Option Value) : Fs := ⟨slots 6 [(0, .slice (some ⟨0, a.length, none⟩) l.length c), (1, .int .i64 n), (5, .int .i64 i)] f, heap 1 [(0, .win (a ++ l.flatMap layR.g ++ b) layR.k)], 1, [], []⟩
theorem zUz (a b : List Value) (l : List RcX) (c : Nat) (n : Int) (ha : plainL a = true) (hb : plainL b = true) (hl : l.length ≤ 9223372036854775807) : ∃ r, FnS Try.prog 0 10 [.slice (some ⟨0, a.length, none⟩) l.length c, .int .i64 n] (heap 1 [(0, .win (a ++ l.flatMap layR.g ++ b) layR.k)]) 1 r ∧ ∃ H m wr, r = .ret (.bool (l.any (bigR n))) H m wr ∧ ∀ k ∈ wr, 1 ≤ k := by
 have hplain : plainL (a ++ l.flatMap layR.g ++ b) = true := by rw [zBx, zBx, ha, hb, zAb layR.g layR.plain]; rfl
 have hsz : (Try.prog.types[23]).size = 5 := by kernel_rfl
 refine zBu mixed tbR4 [0] Try.func10 (c := bodyOf Try.f10) (by kernel_rfl) ?_
 refine zBp (bigS a b l c n) (fun i => l.length - i) (fun i => i ≤ l.length ∧ l.any (bigR n) = (l.drop i).any (bigR n)) 0 ⟨Nat.zero_le _, rfl⟩ (rcq [] ⟨⟨_, rfl, .sl _ _ _ _ _ rfl⟩, ⟨_, rfl, .int _ _⟩, ⟨_, rfl, .int _ _⟩, trivial⟩ ⟨⟨by decide, _, rfl, .sameW hplain⟩, trivial⟩ .nil) ?_
 rintro i f ⟨hi, heq⟩
 refine zAo tbR4 [0] 1 _ none mixed _ _ _ ?_
 refine ifK (fun h1 => ?_) (fun h1 => ?_)
 ·have h1 : i < l.length := by have := of_decide_eq_true h1; omega
  have hst : (l.drop i).any (bigR n) = (bigR n l[i] || (l.drop (i + 1)).any (bigR n)) := by rw [List.drop_eq_getElem_cons h1]; rfl
  rw [hst] at heq
  have c0 := RdL.cell layR a b l i 0 h1 (by decide)
  have c4 := RdL.cell layR a b l i 4 h1 (by decide)
  refine ifK (fun _ => ?_) (fun h2 => absurd h2 (by simp [inI]; omega))
  refine Exists.intro l[i].n (And.intro (by rw [hsz, Int.toNat_natCast]; exact c0) ?_)
  refine ifK (fun h2 => ?_) (fun h2 => ?_)
  ·have e : l.any (bigR n) = true := by rw [heq]; unfold bigR; rw [h2]; rfl
   refine And.intro rfl (zAj (rcq [] (d := 6) (d2 := 0) (lv := [(4, .bool true)]) (bs := []) (W := []) (m := 1) (df := []) ⟨⟨_, rfl, zAa 8 rfl⟩, trivial⟩ trivial .nil) (fun f => ?_))
   rw [e]; exact ⟨_, _, _, rfl, zAq rfl⟩
  ·refine ifK (fun _ => ?_) (fun h3 => absurd h3 (by simp [inI]; omega))
   refine Exists.intro l[i].d (And.intro (by rw [hsz, Int.toNat_natCast]; exact c4) ?_)
   refine ifK (fun h3 => ?_) (fun h3 => ?_)
   ·have e : l.any (bigR n) = true := by rw [heq]; unfold bigR; rw [h3]; simp
    refine And.intro rfl (zAj (rcq [] (d := 6) (d2 := 0) (lv := [(4, .bool true)]) (bs := []) (W := []) (m := 1) (df := []) ⟨⟨_, rfl, zAa 8 rfl⟩, trivial⟩ trivial .nil) (fun f => ?_))
    rw [e]; exact ⟨_, _, _, rfl, zAq rfl⟩
   ·refine ⟨i + 1, ⟨h1, ?_⟩, by omega, rcq [] ⟨⟨_, rfl, .sl _ _ _ _ _ rfl⟩, ⟨_, rfl, .int _ _⟩, zAh rfl (by rw [wrapN (by omega) (by omega)]; omega), trivial⟩ ⟨⟨by decide, _, rfl, .sameW hplain⟩, trivial⟩ .nil⟩
    rw [heq]; unfold bigR; rw [h2, h3]; rfl
 ·have h1 : ¬ i < l.length := by have := of_decide_eq_false h1; omega
  have e : l.any (bigR n) = false := by rw [heq, List.drop_eq_nil_of_le (by omega)]; rfl
  refine And.intro rfl (zAj (rcq [] (d := 6) (d2 := 0) (lv := []) (bs := []) (W := []) (m := 1) (df := []) trivial trivial .nil) (fun f => ?_))
  rw [e]; exact ⟨_, _, _, rfl, zAq rfl⟩
noncomputable def zVf : Ct Try.prog 0 := CtR.rd1 layR 10 Int (fun n => [.int .i64 n]) (fun l n => .bool (l.any (bigR n))) (fun l _ => l.length ≤ 9223372036854775807) (fun _ => rfl) (fun _ _ => rfl) (fun y z h => by simpa using h) (by kernel_rfl)
 (fun c a b l n ha hb hl => by obtain ⟨r, hF, H, m, wr, rfl, hw⟩ := zUz a b l c n ha hb hl; exact ⟨H, m, wr, hF, hw⟩)
end Go.Proofs.Ytmpaeabkdhjamaa
namespace Go.Proofs.Ytmpaeabkdhjamaa
open Go Go.RowKit
theorem zUy : zNv (evT Try.prog 0 ([] : List (Ct Try.prog 0)) 1000000 (.call 15 []) fs0) = true := by kernel_rfl
theorem zRa (w : World) : Calls Try.prog 15 #[] w fun e w' => e = .returned (.bool true) ∧ Below w.heap.size w w' := evT_true mixed [] 1000000 _ zUy w
theorem zRw {x : RcX} {n : Int} (hn : n ≤ 100000000) (h : bigR n x = false) : x.ok = true := by
 unfold bigR at h
 simp only [Bool.or_eq_false_iff, decide_eq_false_iff_not] at h
 unfold RcX.ok
 rw [Nat.ble_eq_true_of_le (by omega), Nat.ble_eq_true_of_le (by omega)]; rfl
end Go.Proofs.Ytmpaeabkdhjamaa
namespace Go.Proofs.Ytmpaeabkdhjamaa
open Go Go.RowKit
structure A7 where
 x : RcX
 ask : Bool
 raw : Bool
 at' : Int
def A7.g (x : A7) : List Value := [.string x.x.n, .int .i64 x.x.t, .int .i64 x.x.c, .int .i64 x.x.ttl, .string x.x.d, .bool x.ask, .bool x.raw, .int .i64 x.at']
def layA7 : Lay A7 where
 g := A7.g
 k := 8
 t := 41
 len _ := rfl
 pos := by decide
 plain _ := rfl
 inj x y h := by
  obtain ⟨⟨n, t, c, u, d⟩, k, r, a⟩ := x
  obtain ⟨⟨n', t', c', u', d'⟩, k', r', a'⟩ := y
  simp only [A7.g, List.cons.injEq, Value.string.injEq, Value.int.injEq, Value.bool.injEq, true_and, and_true] at h
  obtain ⟨rfl, rfl, rfl, rfl, rfl, rfl, rfl, rfl⟩ := h; rfl
theorem RdL.sub {α : Type} (L : Lay α) (pre post : List Value) (l : List α) (i o k : Nat) (h : i < l.length) (hk : o + k ≤ L.k) : pre.length + i * L.k + o + k ≤ (pre ++ l.flatMap L.g ++ post).length ∧ ((pre ++ l.flatMap L.g ++ post).drop (pre.length + i * L.k + o)).take k = ((L.g l[i]).drop o).take k := by
 obtain ⟨h1, h2⟩ := RdL.get L pre post l i h
 refine ⟨by omega, ?_⟩
 rw [← h2, List.drop_take, List.take_take, List.drop_drop, Nat.min_eq_left (by omega)]
def bigA7 (x : A7) : Bool := bigR 3000 x.x
def longA7 (l : List A7) : Bool := (l.take 41).any bigA7 || decide (l.length > 40)
noncomputable def tbLv1 : Tb Try.prog 0 := tbOf mixed [zVf]
def lvS (a b : List Value) (l : List A7) (c : Nat) (i : Nat) (f : Nat → Option Value) : Fs := ⟨slots 6 [(0, .slice (some ⟨0, a.length, none⟩) l.length c), (3, .int .i64 (i : Int))] f, heap 1 [(0, .win (a ++ l.flatMap layA7.g ++ b) layA7.k)], 1, [], []⟩
theorem long7_fn (a b : List Value) (l : List A7) (c : Nat) (ha : plainL a = true) (hb : plainL b = true) : ∃ r, FnS Try.prog 0 18 [.slice (some ⟨0, a.length, none⟩) l.length c] (heap 1 [(0, .win (a ++ l.flatMap layA7.g ++ b) layA7.k)]) 1 r ∧ ∃ H m wr, r = .ret (.bool (longA7 l)) H m wr ∧ ∀ k ∈ wr, 1 ≤ k := by
 have hplain : plainL (a ++ l.flatMap layA7.g ++ b) = true := by rw [zBx, zBx, ha, hb, zAb layA7.g layA7.plain]; rfl
 have hsz : (Try.prog.types[41]).size = 8 := by kernel_rfl
 refine zBu mixed tbLv1 [0] Try.func18 (c := bodyOf Try.f18) (by kernel_rfl) ?_
 refine zBp (lvS a b l c) (fun i => l.length - i) (fun i => i ≤ l.length ∧ i ≤ 41 ∧ (l.take 41).any bigA7 = ((l.take 41).drop i).any bigA7) 0 ⟨Nat.zero_le _, Nat.zero_le _, rfl⟩ (rcq [] ⟨⟨_, rfl, .sl _ _ _ _ _ rfl⟩, ⟨_, rfl, .int _ _⟩, trivial⟩ ⟨bpo (hplain), trivial⟩ .nil) ?_
 rintro i f ⟨hi, hi2, heq⟩
 have hi : i ≤ l.length := hi
 refine zAo tbLv1 [0] 1 _ none mixed _ _ _ ?_
 have fin : (l.take 41).length ≤ i → longA7 l = decide (l.length > 40) := fun h => by
  unfold longA7
  rw [heq, List.drop_eq_nil_of_le h]; rfl
 refine ifK (fun h1 => ?_) (fun h1 => ?_)
 ·have h1 : i < l.length := by have := of_decide_eq_true h1; omega
  refine ifK (fun h2 => ?_) (fun h2 => ?_)
  ·have h2 : i < 41 := by have := of_decide_eq_true h2; omega
   have hm : i < (l.take 41).length := by rw [List.length_take]; omega
   have hst : ((l.take 41).drop i).any bigA7 = (bigA7 l[i] || ((l.take 41).drop (i + 1)).any bigA7) := by rw [List.drop_eq_getElem_cons hm, List.getElem_take]; rfl
   rw [hst] at heq
   obtain ⟨q1, q2⟩ := RdL.sub layA7 a b l i 0 5 h1 (by decide)
   obtain ⟨X, hX⟩ : ∃ X, l[i] = X := ⟨_, rfl⟩
   rw [hX] at q2 heq
   obtain ⟨⟨n, t, k, u, d⟩, q, r, at0⟩ := X
   refine ifK (fun _ => ?_) (fun h3 => absurd h3 (by simp [inI]; omega))
   refine Exists.intro n (Exists.intro t (Exists.intro k (Exists.intro u (Exists.intro d (And.intro ⟨by rw [hsz, Int.toNat_natCast]; exact q1, by rw [hsz, Int.toNat_natCast]; exact q2⟩ ?_)))))
   refine Exists.intro (⟨1, 1, [], [⟨n, t, k, u, d⟩], []⟩, 3000) (And.intro ⟨rfl, ⟨zEk (by show Tr.get _ 1 = some (AObj.cells (RcX.g ⟨n, t, k, u, d⟩ ++ []) 23); rfl), rfl, rfl⟩, by simp⟩ ?_)
   refine ifK (fun h3 => ?_) (fun h3 => ?_)
   ·have h3 : (bigR 3000 ⟨n, t, k, u, d⟩ || false) = true := h3
    rw [Bool.or_false] at h3
    have e : longA7 l = true := by unfold longA7; rw [heq]; unfold bigA7; rw [h3]; rfl
    refine And.intro rfl (zAj (rcq [] (d := 6) (d2 := 0) (lv := [(2, .bool true)]) (bs := []) (W := []) (m := 1) (df := []) ⟨⟨_, rfl, zAa 8 rfl⟩, trivial⟩ trivial .nil) (fun f => ?_))
    rw [e]; exact ⟨_, _, _, rfl, zAq rfl⟩
   ·have h3 : (bigR 3000 ⟨n, t, k, u, d⟩ || false) = false := h3
    rw [Bool.or_false] at h3
    refine ⟨i + 1, ⟨h1, h2, ?_⟩, by show l.length - (i + 1) < l.length - i; omega, rcq [] ⟨⟨_, rfl, .sl _ _ _ _ _ rfl⟩, zAh rfl (by rw [wrapN (by omega) (by omega)]; omega), trivial⟩ ⟨bpo (hplain), trivial⟩ .nil⟩
    rw [heq]; unfold bigA7; rw [h3]; rfl
  ·have h2 : i = 41 := by have := of_decide_eq_false h2; omega
   have e := fin (by rw [List.length_take]; omega)
   refine And.intro rfl (zAj (rcq [] (d := 6) (d2 := 1) (lv := [(0, .slice (some ⟨0, a.length, none⟩) l.length c)]) (bs := [(0, .win (a ++ l.flatMap layA7.g ++ b) layA7.k)]) (W := []) (m := 1) (df := []) ⟨⟨_, rfl, .sl _ _ _ _ _ rfl⟩, trivial⟩ ⟨bpo (hplain), trivial⟩ .nil) (fun f => ?_))
   rw [e]; exact ⟨_, _, _, congrArg (fun b => Res.ret (.bool b) _ _ _) (by apply decide_eq_decide.2; omega), zAq rfl⟩
 ·have h1 : ¬ i < l.length := fun e => absurd (show ((i : Nat) : Int) < (l.length : Int) by omega) (of_decide_eq_false h1)
  have e := fin (by rw [List.length_take]; omega)
  refine And.intro rfl (zAj (rcq [] (d := 6) (d2 := 1) (lv := [(0, .slice (some ⟨0, a.length, none⟩) l.length c)]) (bs := [(0, .win (a ++ l.flatMap layA7.g ++ b) layA7.k)]) (W := []) (m := 1) (df := []) ⟨⟨_, rfl, .sl _ _ _ _ _ rfl⟩, trivial⟩ ⟨bpo (hplain), trivial⟩ .nil) (fun f => ?_))
  rw [e]; exact ⟨_, _, _, congrArg (fun b => Res.ret (.bool b) _ _ _) (by apply decide_eq_decide.2; omega), zAq rfl⟩
noncomputable def ct_long7 : Ct Try.prog 0 := CtR.rd1 layA7 18 Unit (fun _ => []) (fun l _ => .bool (longA7 l)) (fun l _ => True) (fun _ => rfl) (fun _ _ => rfl) (fun y z h => rfl) (by kernel_rfl)
 (fun c a b l n ha hb hl => by obtain ⟨r, hF, H, m, wr, rfl, hw⟩ := long7_fn a b l c ha hb; exact ⟨H, m, wr, hF, hw⟩)
theorem longA7_no {l : List A7} (h : longA7 l = false) : l.length ≤ 40 ∧ ∀ x ∈ l, x.x.ok = true ∧ (bs x.x.n).length ≤ 3000 ∧ (bs x.x.d).length ≤ 3000 := by
 unfold longA7 at h
 rw [Bool.or_eq_false_iff] at h
 have h2 : l.length ≤ 40 := by have := of_decide_eq_false h.2; omega
 refine ⟨h2, fun x hx => ?_⟩
 rw [List.take_of_length_le (by omega)] at h
 have h3 : bigR 3000 x.x = false := by simpa [bigA7] using List.any_eq_false.1 h.1 x hx
 refine ⟨zRw (by decide) h3, ?_⟩
 unfold bigR at h3
 simp only [Bool.or_eq_false_iff, decide_eq_false_iff_not] at h3
 rw [← zAc, ← zAc]; omega
end Go.Proofs.Ytmpaeabkdhjamaa
namespace Go.Proofs.Ytmpaeabkdhjamaa
open Go Go.RowKit
noncomputable def ct_ask : Ct Try.prog 0 := ct_pk 19 AskY AskY.xs AskY.inj (fun _ => rfl) (fun y => shortB y.n = true) (fun en T y => y.D en T) (fun y en T ck hT hs => ask_fn y en T ck hT hs)
noncomputable def ct_recw : Ct Try.prog 0 := ct_pk 21 WrtY WrtY.xs WrtY.inj (fun _ => rfl) (fun y => y.x.ok = true) (fun en T y => y.D en T) (fun y en T ck hT hs => recw_fn y en T ck hT hs)
end Go.Proofs.Ytmpaeabkdhjamaa
namespace Go.Proofs.Ytmpaeabkdhjamaa
open Go Go.RowKit
noncomputable def inl_newB : Ct Try.prog 0 := Ct.inl (tbOf mixed []) mixed [] 17 Try.f17 Try.func17 (bodyOf Try.f17) (by kernel_rfl)
noncomputable def ct_qread : Ct Try.prog 0 := zRf.ct
noncomputable def ct_rread : Ct Try.prog 0 := zVe.ct
noncomputable def tbRb : Tb Try.prog 0 := tbOf mixed [inl_newB, ct_long7, ct_pick, zJk, ct_ask, ct_recw, ct_qread, ct_rread, Ct.yes 15 zRa]
abbrev Wu := Nat × Nat × A7
def atU (y : Wu) : Value := .int .i64 (y.1 : Int)
def enU (y : Wu) : Value := .int .i64 (y.2.1 : Int)
def acU (y : Wu) : List Value := layA7.g y.2.2
theorem zAf (R : List Wu) : plainL (R.map atU) = true := by unfold plainL; rw [List.all_map]; exact List.all_eq_true.2 fun _ _ => rfl
theorem zAg (R : List Wu) : plainL (R.map enU) = true := by unfold plainL; rw [List.all_map]; exact List.all_eq_true.2 fun _ _ => rfl
theorem zAe (R : List Wu) : plainL (R.flatMap acU) = true := zAb acU (fun y => layA7.plain y.2.2) R
theorem zQv (R : List Wu) : (R.flatMap acU).length = R.length * 8 := zAr acU 8 (fun _ => rfl) R
theorem zAi {σ : Nat → Nat → Prop} (T : List (Bl × Nat)) (ck : Nat) : RO Try.prog σ (.map (encT T) ck) (.map (encT T) ck) := RO.map _ _ _ (zAk _)
theorem zHv {G : Gh} {c k sz : Nat} {l : Bl} (hs : sz = 1) (hG : (G 1).bind AObj.look = some (l.map byV)) (hk : k ≤ l.length) {x : Nat} (hx : x = 0 := by first | rfl | simp) : zAm G sz (.slice (some ⟨1, x, none⟩) k c) = some (k, (l.take k).map byV) := by
 subst hs; subst hx
 unfold zAm
 cases hl : Nat.beq k 0 with
 | true =>
  have : k = 0 := Nat.eq_of_beq_eq_true hl
  subst this
  simp
 | false =>
  simp only [cond_false, hG]
  rw [show (0 + k * 1).ble (l.map byV).length = true from Nat.ble_eq_true_of_le (by simp; omega)]
  simp [hl, List.map_take]
theorem factU {l : List A7} (hd : ∀ x ∈ l, x.x.ok = true ∧ (bs x.x.n).length ≤ 3000 ∧ (bs x.x.d).length ≤ 3000) (i : Nat) (h : i < l.length) {x : A7} (hx : l[i] = x) : inI (i : Int) l.length = true ∧ (∀ j (_ : j < 8), (l.flatMap layA7.g)[0 + ((i : Int)).toNat * (Try.prog.types[41]).size + j]? = x.g[j]?) ∧
  (0 + ((i : Int)).toNat * (Try.prog.types[41]).size + 0 + 5 ≤ (l.flatMap layA7.g).length ∧ ((l.flatMap layA7.g).drop (0 + ((i : Int)).toNat * (Try.prog.types[41]).size + 0)).take 5 = x.x.g) ∧
  (0 + ((i : Int)).toNat * (Try.prog.types[41]).size + (Try.prog.types[41]).size ≤ (l.flatMap layA7.g).length ∧ ((l.flatMap layA7.g).drop (0 + ((i : Int)).toNat * (Try.prog.types[41]).size)).take (Try.prog.types[41]).size = x.g) ∧ x.x.ok = true ∧ shortB x.x.n = true ∧ (bs x.x.d).length ≤ 3000 := by
 have hsz : (Try.prog.types[41]).size = 8 := by kernel_rfl
 subst hx
 obtain ⟨h1, h2, h3⟩ := hd _ (List.getElem_mem h)
 refine ⟨by simp [inI]; omega, fun j hj => ?_, ?_, ?_, h1, zBt (by omega), h3⟩
 ·have := RdL.cell layA7 [] [] l i j h hj
  rw [List.nil_append, List.append_nil, List.length_nil] at this
  rw [hsz, Int.toNat_natCast]; exact this
 ·have := RdL.sub layA7 [] [] l i 0 5 h (by decide)
  rw [List.nil_append, List.append_nil, List.length_nil] at this
  rw [hsz, Int.toNat_natCast]; exact this
 ·have := RdL.get layA7 [] [] l i h
  rw [List.nil_append, List.append_nil, List.length_nil] at this
  rw [hsz, Int.toNat_natCast]; exact this
def rbE (l : List A7) (c : Nat) (bw : Bl) (cb i : Nat) (T : List (Bl × Nat)) (en ck : Nat) (b : Bl) (Rs : List Wu) (f : Nat → Option Value) : Fs := match b, Rs with
 | [], [] => ⟨slots 8 [(0, .slice (some ⟨0, 0, none⟩) l.length c), (1, .slice (some ⟨1, 0, none⟩) bw.length cb), (5, .bool true), (6, .pointer (some ⟨3, 0, none⟩)), (7, .slice none 0 0), (8, .slice none 0 0), (9, .slice none 0 0), (10, .slice none 0 0), (11, .int .i64 (i : Int))] f, heap 4 [(0, .win (l.flatMap layA7.g) layA7.k), (1, .win (bw.map byV) 1), (2, .map (encT T) ck), (3, .cells [.map (some 2), .int .i64 (en : Int)] 73)], 4, [], []⟩
 | [], r :: R => ⟨slots 8 [(0, .slice (some ⟨0, 0, none⟩) l.length c), (1, .slice (some ⟨1, 0, none⟩) bw.length cb), (5, .bool true), (6, .pointer (some ⟨3, 0, none⟩)), (7, .slice none 0 0), (8, .slice (some ⟨4, 0, none⟩) (R.length + 1) U), (9, .slice (some ⟨5, 0, none⟩) (R.length + 1) U), (10, .slice (some ⟨6, 0, none⟩) (R.length + 1) U), (11, .int .i64 (i : Int))] f, heap 4 [(0, .win (l.flatMap layA7.g) layA7.k), (1, .win (bw.map byV) 1), (2, .map (encT T) ck), (3, .cells [.map (some 2), .int .i64 (en : Int)] 73), (4, .cells ((r :: R).map atU) 3), (5, .cells ((r :: R).map enU) 3), (6, .cells ((r :: R).flatMap acU) 41)], 7, [], []⟩
 | u :: us, [] => ⟨slots 8 [(0, .slice (some ⟨0, 0, none⟩) l.length c), (1, .slice (some ⟨1, 0, none⟩) bw.length cb), (5, .bool true), (6, .pointer (some ⟨3, 0, none⟩)), (7, .slice (some ⟨4, 0, none⟩) (us.length + 1) U), (8, .slice none 0 0), (9, .slice none 0 0), (10, .slice none 0 0), (11, .int .i64 (i : Int))] f, heap 4 [(0, .win (l.flatMap layA7.g) layA7.k), (1, .win (bw.map byV) 1), (2, .map (encT T) ck), (3, .cells [.map (some 2), .int .i64 (en : Int)] 73), (4, .cells ((u :: us).map byV) 5)], 5, [], []⟩
 | u :: us, r :: R => ⟨slots 8 [(0, .slice (some ⟨0, 0, none⟩) l.length c), (1, .slice (some ⟨1, 0, none⟩) bw.length cb), (5, .bool true), (6, .pointer (some ⟨3, 0, none⟩)), (7, .slice (some ⟨4, 0, none⟩) (us.length + 1) U), (8, .slice (some ⟨5, 0, none⟩) (R.length + 1) U), (9, .slice (some ⟨6, 0, none⟩) (R.length + 1) U), (10, .slice (some ⟨7, 0, none⟩) (R.length + 1) U), (11, .int .i64 (i : Int))] f, heap 4 [(0, .win (l.flatMap layA7.g) layA7.k), (1, .win (bw.map byV) 1), (2, .map (encT T) ck), (3, .cells [.map (some 2), .int .i64 (en : Int)] 73), (4, .cells ((u :: us).map byV) 5), (5, .cells ((r :: R).map atU) 3), (6, .cells ((r :: R).map enU) 3), (7, .cells ((r :: R).flatMap acU) 41)], 8, [], []⟩
def rbX (l : List A7) (c : Nat) (bw : Bl) (cb i : Nat) (T : List (Bl × Nat)) (en ck : Nat) (b : Bl) (Rs : List Wu) (x : RcX) (f : Nat → Option Value) : Fs := match b, Rs with
 | [], [] => ⟨slots 8 [(0, .slice (some ⟨0, 0, none⟩) l.length c), (1, .slice (some ⟨1, 0, none⟩) bw.length cb), (5, .bool true), (6, .pointer (some ⟨3, 0, none⟩)), (7, .slice none 0 0), (8, .slice none 0 0), (9, .slice none 0 0), (10, .slice none 0 0), (11, .int .i64 (i : Int)), (12, .pointer (some ⟨4, 0, none⟩))] f, heap 4 [(0, .win (l.flatMap layA7.g) layA7.k), (1, .win (bw.map byV) 1), (2, .map (encT T) ck), (3, .cells [.map (some 2), .int .i64 (en : Int)] 73), (4, .cells x.g 23)], 5, [], []⟩
 | [], r :: R => ⟨slots 8 [(0, .slice (some ⟨0, 0, none⟩) l.length c), (1, .slice (some ⟨1, 0, none⟩) bw.length cb), (5, .bool true), (6, .pointer (some ⟨3, 0, none⟩)), (7, .slice none 0 0), (8, .slice (some ⟨4, 0, none⟩) (R.length + 1) U), (9, .slice (some ⟨5, 0, none⟩) (R.length + 1) U), (10, .slice (some ⟨6, 0, none⟩) (R.length + 1) U), (11, .int .i64 (i : Int)), (12, .pointer (some ⟨7, 0, none⟩))] f, heap 4 [(0, .win (l.flatMap layA7.g) layA7.k), (1, .win (bw.map byV) 1), (2, .map (encT T) ck), (3, .cells [.map (some 2), .int .i64 (en : Int)] 73), (4, .cells ((r :: R).map atU) 3), (5, .cells ((r :: R).map enU) 3), (6, .cells ((r :: R).flatMap acU) 41), (7, .cells x.g 23)], 8, [], []⟩
 | u :: us, [] => ⟨slots 8 [(0, .slice (some ⟨0, 0, none⟩) l.length c), (1, .slice (some ⟨1, 0, none⟩) bw.length cb), (5, .bool true), (6, .pointer (some ⟨3, 0, none⟩)), (7, .slice (some ⟨4, 0, none⟩) (us.length + 1) U), (8, .slice none 0 0), (9, .slice none 0 0), (10, .slice none 0 0), (11, .int .i64 (i : Int)), (12, .pointer (some ⟨5, 0, none⟩))] f, heap 4 [(0, .win (l.flatMap layA7.g) layA7.k), (1, .win (bw.map byV) 1), (2, .map (encT T) ck), (3, .cells [.map (some 2), .int .i64 (en : Int)] 73), (4, .cells ((u :: us).map byV) 5), (5, .cells x.g 23)], 6, [], []⟩
 | u :: us, r :: R => ⟨slots 8 [(0, .slice (some ⟨0, 0, none⟩) l.length c), (1, .slice (some ⟨1, 0, none⟩) bw.length cb), (5, .bool true), (6, .pointer (some ⟨3, 0, none⟩)), (7, .slice (some ⟨4, 0, none⟩) (us.length + 1) U), (8, .slice (some ⟨5, 0, none⟩) (R.length + 1) U), (9, .slice (some ⟨6, 0, none⟩) (R.length + 1) U), (10, .slice (some ⟨7, 0, none⟩) (R.length + 1) U), (11, .int .i64 (i : Int)), (12, .pointer (some ⟨8, 0, none⟩))] f, heap 4 [(0, .win (l.flatMap layA7.g) layA7.k), (1, .win (bw.map byV) 1), (2, .map (encT T) ck), (3, .cells [.map (some 2), .int .i64 (en : Int)] 73), (4, .cells ((u :: us).map byV) 5), (5, .cells ((r :: R).map atU) 3), (6, .cells ((r :: R).map enU) 3), (7, .cells ((r :: R).flatMap acU) 41), (8, .cells x.g 23)], 9, [], []⟩
def rbF (l : List A7) (c : Nat) (bw : Bl) (cb i : Nat) (T : List (Bl × Nat)) (en ck : Nat) (b : Bl) (Rs : List Wu) (v : UInt8) (vs : Bl) (f : Nat → Option Value) : Fs := match b, Rs with
 | [], [] => ⟨slots 8 [(0, .slice (some ⟨0, 0, none⟩) l.length c), (1, .slice (some ⟨1, 0, none⟩) bw.length cb), (5, .bool true), (6, .pointer (some ⟨3, 0, none⟩)), (7, .slice none 0 0), (8, .slice none 0 0), (9, .slice none 0 0), (10, .slice none 0 0), (11, .int .i64 (i : Int)), (13, .slice (some ⟨4, 0, none⟩) (vs.length + 1) U), (14, .int .i64 0)] f, heap 4 [(0, .win (l.flatMap layA7.g) layA7.k), (1, .win (bw.map byV) 1), (2, .map (encT T) ck), (3, .cells [.map (some 2), .int .i64 (en : Int)] 73), (4, .cells ((v :: vs).map byV) 5)], 5, [], []⟩
 | [], r :: R => ⟨slots 8 [(0, .slice (some ⟨0, 0, none⟩) l.length c), (1, .slice (some ⟨1, 0, none⟩) bw.length cb), (5, .bool true), (6, .pointer (some ⟨3, 0, none⟩)), (7, .slice none 0 0), (8, .slice (some ⟨4, 0, none⟩) (R.length + 1) U), (9, .slice (some ⟨5, 0, none⟩) (R.length + 1) U), (10, .slice (some ⟨6, 0, none⟩) (R.length + 1) U), (11, .int .i64 (i : Int)), (13, .slice (some ⟨7, 0, none⟩) (vs.length + 1) U), (14, .int .i64 0)] f, heap 4 [(0, .win (l.flatMap layA7.g) layA7.k), (1, .win (bw.map byV) 1), (2, .map (encT T) ck), (3, .cells [.map (some 2), .int .i64 (en : Int)] 73), (4, .cells ((r :: R).map atU) 3), (5, .cells ((r :: R).map enU) 3), (6, .cells ((r :: R).flatMap acU) 41), (7, .cells ((v :: vs).map byV) 5)], 8, [], []⟩
 | u :: us, [] => ⟨slots 8 [(0, .slice (some ⟨0, 0, none⟩) l.length c), (1, .slice (some ⟨1, 0, none⟩) bw.length cb), (5, .bool true), (6, .pointer (some ⟨3, 0, none⟩)), (7, .slice (some ⟨4, 0, none⟩) (us.length + 1) U), (8, .slice none 0 0), (9, .slice none 0 0), (10, .slice none 0 0), (11, .int .i64 (i : Int)), (13, .slice (some ⟨5, 0, none⟩) (vs.length + 1) U), (14, .int .i64 0)] f, heap 4 [(0, .win (l.flatMap layA7.g) layA7.k), (1, .win (bw.map byV) 1), (2, .map (encT T) ck), (3, .cells [.map (some 2), .int .i64 (en : Int)] 73), (4, .cells ((u :: us).map byV) 5), (5, .cells ((v :: vs).map byV) 5)], 6, [], []⟩
 | u :: us, r :: R => ⟨slots 8 [(0, .slice (some ⟨0, 0, none⟩) l.length c), (1, .slice (some ⟨1, 0, none⟩) bw.length cb), (5, .bool true), (6, .pointer (some ⟨3, 0, none⟩)), (7, .slice (some ⟨4, 0, none⟩) (us.length + 1) U), (8, .slice (some ⟨5, 0, none⟩) (R.length + 1) U), (9, .slice (some ⟨6, 0, none⟩) (R.length + 1) U), (10, .slice (some ⟨7, 0, none⟩) (R.length + 1) U), (11, .int .i64 (i : Int)), (13, .slice (some ⟨8, 0, none⟩) (vs.length + 1) U), (14, .int .i64 0)] f, heap 4 [(0, .win (l.flatMap layA7.g) layA7.k), (1, .win (bw.map byV) 1), (2, .map (encT T) ck), (3, .cells [.map (some 2), .int .i64 (en : Int)] 73), (4, .cells ((u :: us).map byV) 5), (5, .cells ((r :: R).map atU) 3), (6, .cells ((r :: R).map enU) 3), (7, .cells ((r :: R).flatMap acU) 41), (8, .cells ((v :: vs).map byV) 5)], 9, [], []⟩
theorem rbx_00 (l : List A7) (c : Nat) (bw : Bl) (cb i : Nat) (T : List (Bl × Nat)) (en ck : Nat) (f : Nat → Option Value) (hd : ∀ x ∈ l, x.x.ok = true ∧ (bs x.x.n).length ≤ 3000 ∧ (bs x.x.d).length ≤ 3000) (_ : l.length ≤ 40) (_ : bw.length ≤ 100) (_ : bw.length ≤ cb ∧ cb ≤ 9223372036854775807) (h1 : i < l.length) (x : RcX) (ask raw : Bool) (a0 : Int) (hx : l[i] = ⟨x, ask, raw, a0⟩) : CW Try.prog 0 2 (2 + (Try.f9.ntmps - 2)) none (codeAt (loopAt Try.f9 0) [0]) (rbE l c bw cb i T en ck [] [] f) (stepK Try.prog 0 2 (2 + (Try.f9.ntmps - 2)) none (rbE l c bw cb i T en ck [] [])) := by
 have hpl : plainL (l.flatMap layA7.g) = true := zAb layA7.g layA7.plain _
 obtain ⟨dom, cell, sub, row, hok, hsh, hdl⟩ := factU hd i h1 hx
 refine zAo tbRb [0] 2 _ none mixed _ _ _ ?_
 refine ifK (fun _ => ?_) (fun g => absurd (show ((i : Nat) : Int) < (l.length : Int) by omega) (of_decide_eq_false g))
 exact rcq [2, 3] ⟨⟨_, rfl, .sl _ _ _ _ _ rfl⟩, ⟨_, rfl, .sl _ _ _ _ _ rfl⟩, ⟨_, rfl, .bool _⟩, ⟨_, rfl, .ptr _ _ _ rfl⟩, ⟨_, rfl, zAa 8 rfl⟩, ⟨_, rfl, zAa 8 rfl⟩, ⟨_, rfl, zAa 8 rfl⟩, ⟨_, rfl, zAa 8 rfl⟩, ⟨_, rfl, .int _ _⟩, trivial⟩ ⟨bpo (hpl), bpo (byV_plain bw), ⟨by decide, _, rfl, zAi _ _⟩, ⟨by decide, _, rfl, zAd 2 2 (by exact rfl) _⟩, trivial⟩ .nil
theorem rbq_00 (l : List A7) (c : Nat) (bw : Bl) (cb i : Nat) (T : List (Bl × Nat)) (en ck : Nat) (f : Nat → Option Value) (hd : ∀ x ∈ l, x.x.ok = true ∧ (bs x.x.n).length ≤ 3000 ∧ (bs x.x.d).length ≤ 3000) (_ : l.length ≤ 40) (_ : bw.length ≤ 100) (_ : bw.length ≤ cb ∧ cb ≤ 9223372036854775807) (h1 : i < l.length) (x : RcX) (ask raw : Bool) (a0 : Int) (hx : l[i] = ⟨x, ask, raw, a0⟩) : CW Try.prog 0 2 (2 + (Try.f9.ntmps - 2)) none (codeAt (loopAt Try.f9 0) [1, 0, 0]) (rbE l c bw cb i T en ck [] [] f) (stepK Try.prog 0 2 (2 + (Try.f9.ntmps - 2)) none (rbX l c bw cb i T en ck [] [] x)) := by
 have hpl : plainL (l.flatMap layA7.g) = true := zAb layA7.g layA7.plain _
 obtain ⟨dom, cell, sub, row, hok, hsh, hdl⟩ := factU hd i h1 hx
 obtain ⟨xn, xt, xc, xw, xd⟩ := x
 have hok : RcX.ok ⟨xn, xt, xc, xw, xd⟩ = true := hok
 have hsh : shortB xn = true := hsh
 refine zAo tbRb [0] 2 _ none mixed _ _ _ ?_
 refine ifK (fun _ => ?_) (fun h2 => absurd (dom.symm.trans h2) (by decide))
 refine Exists.intro xn (Exists.intro xt (Exists.intro xc (Exists.intro xw (Exists.intro xd (And.intro sub ?_)))))
 exact rcq [2, 3, 4] ⟨⟨_, rfl, .sl _ _ _ _ _ rfl⟩, ⟨_, rfl, .sl _ _ _ _ _ rfl⟩, ⟨_, rfl, .bool _⟩, ⟨_, rfl, .ptr _ _ _ rfl⟩, ⟨_, rfl, zAa 8 rfl⟩, ⟨_, rfl, zAa 8 rfl⟩, ⟨_, rfl, zAa 8 rfl⟩, ⟨_, rfl, zAa 8 rfl⟩, ⟨_, rfl, .int _ _⟩, ⟨_, rfl, .ptr _ _ _ rfl⟩, trivial⟩ ⟨bpo (hpl), bpo (byV_plain bw), ⟨by decide, _, rfl, zAi _ _⟩, ⟨by decide, _, rfl, zAd 2 2 (by exact rfl) _⟩, bpo rfl, trivial⟩ .nil
theorem rby_100 (l : List A7) (c : Nat) (bw : Bl) (cb i : Nat) (T : List (Bl × Nat)) (en ck : Nat) (f : Nat → Option Value) (hd : ∀ x ∈ l, x.x.ok = true ∧ (bs x.x.n).length ≤ 3000 ∧ (bs x.x.d).length ≤ 3000) (_ : l.length ≤ 40) (_ : bw.length ≤ 100) (_ : bw.length ≤ cb ∧ cb ≤ 9223372036854775807) (h1 : i < l.length) (x : RcX) (ask raw : Bool) (a0 : Int) (hx : l[i] = ⟨x, ask, raw, a0⟩) (hck : recC x = 0) : CW Try.prog 0 2 (2 + (Try.f9.ntmps - 2)) none (codeAt (loopAt Try.f9 0) [1, 0, 1, 0]) (rbX l c bw cb i T en ck [] [] x f) (stepK Try.prog 0 2 (2 + (Try.f9.ntmps - 2)) none (rbX l c bw cb i T en ck [] [] x)) := by
 have hpl : plainL (l.flatMap layA7.g) = true := zAb layA7.g layA7.plain _
 obtain ⟨dom, cell, sub, row, hok, hsh, hdl⟩ := factU hd i h1 hx
 obtain ⟨xn, xt, xc, xw, xd⟩ := x
 have hok : RcX.ok ⟨xn, xt, xc, xw, xd⟩ = true := hok
 have hsh : shortB xn = true := hsh
 refine zAo tbRb [0] 2 _ none mixed _ _ _ ?_
 refine And.intro hok ?_
 refine ifK (fun g => absurd hck (by simpa using g)) (fun _ => ?_)
 exact rcq [2, 3, 4] ⟨⟨_, rfl, .sl _ _ _ _ _ rfl⟩, ⟨_, rfl, .sl _ _ _ _ _ rfl⟩, ⟨_, rfl, .bool _⟩, ⟨_, rfl, .ptr _ _ _ rfl⟩, ⟨_, rfl, zAa 8 rfl⟩, ⟨_, rfl, zAa 8 rfl⟩, ⟨_, rfl, zAa 8 rfl⟩, ⟨_, rfl, zAa 8 rfl⟩, ⟨_, rfl, .int _ _⟩, ⟨_, rfl, .ptr _ _ _ rfl⟩, trivial⟩ ⟨bpo (hpl), bpo (byV_plain bw), ⟨by decide, _, rfl, zAi _ _⟩, ⟨by decide, _, rfl, zAd 2 2 (by exact rfl) _⟩, bpo rfl, trivial⟩ .nil
theorem rby_000 (l : List A7) (c : Nat) (bw : Bl) (cb i : Nat) (T : List (Bl × Nat)) (en ck : Nat) (f : Nat → Option Value) (hd : ∀ x ∈ l, x.x.ok = true ∧ (bs x.x.n).length ≤ 3000 ∧ (bs x.x.d).length ≤ 3000) (_ : l.length ≤ 40) (_ : bw.length ≤ 100) (_ : bw.length ≤ cb ∧ cb ≤ 9223372036854775807) (h1 : i < l.length) (x : RcX) (ask raw : Bool) (a0 : Int) (hx : l[i] = ⟨x, ask, raw, a0⟩) (hck : recC x ≠ 0) : CW Try.prog 0 2 (2 + (Try.f9.ntmps - 2)) none (codeAt (loopAt Try.f9 0) [1, 0, 1, 0]) (rbX l c bw cb i T en ck [] [] x f) (fun x s1 => x = .exit 1 ∧ ∃ f, RcM Try.prog 0 2 (2 + (Try.f9.ntmps - 2)) none s1 (rbE l c bw cb i T en ck [] [] f)) := by
 have hpl : plainL (l.flatMap layA7.g) = true := zAb layA7.g layA7.plain _
 obtain ⟨dom, cell, sub, row, hok, hsh, hdl⟩ := factU hd i h1 hx
 obtain ⟨xn, xt, xc, xw, xd⟩ := x
 have hok : RcX.ok ⟨xn, xt, xc, xw, xd⟩ = true := hok
 have hsh : shortB xn = true := hsh
 refine zAo tbRb [0] 2 _ none mixed _ _ _ ?_
 refine And.intro hok ?_
 refine ifK (fun _ => ⟨rfl, rcq [2, 3] ⟨⟨_, rfl, .sl _ _ _ _ _ rfl⟩, ⟨_, rfl, .sl _ _ _ _ _ rfl⟩, ⟨_, rfl, .bool _⟩, ⟨_, rfl, .ptr _ _ _ rfl⟩, ⟨_, rfl, zAa 8 rfl⟩, ⟨_, rfl, zAa 8 rfl⟩, ⟨_, rfl, zAa 8 rfl⟩, ⟨_, rfl, zAa 8 rfl⟩, ⟨_, rfl, .int _ _⟩, trivial⟩ ⟨bpo (hpl), bpo (byV_plain bw), ⟨by decide, _, rfl, zAi _ _⟩, ⟨by decide, _, rfl, zAd 2 2 (by exact rfl) _⟩, trivial⟩ .nil⟩) (fun g => absurd (by simpa using g) hck)
theorem rbz_000 (l : List A7) (c : Nat) (bw : Bl) (cb i : Nat) (T : List (Bl × Nat)) (en ck : Nat) (f : Nat → Option Value) (hd : ∀ x ∈ l, x.x.ok = true ∧ (bs x.x.n).length ≤ 3000 ∧ (bs x.x.d).length ≤ 3000) (_ : l.length ≤ 40) (_ : bw.length ≤ 100) (hcb : bw.length ≤ cb ∧ cb ≤ 9223372036854775807) (h1 : i < l.length) (x : RcX) (ask raw : Bool) (a0 : Int) (hx : l[i] = ⟨x, ask, raw, a0⟩) (k : Nat) (hk : pickI a0 (IntKind.i64.wrap ((bw.length : Int) + 1)) = (k : Int)) (hkl : k ≤ bw.length) (hW : bw.take k = []) : CW Try.prog 0 2 (2 + (Try.f9.ntmps - 2)) none (codeAt (loopAt Try.f9 0) [1, 0, 1, 1, 0]) (rbX l c bw cb i T en ck [] [] x f) (stepK Try.prog 0 2 (2 + (Try.f9.ntmps - 2)) none (rbX l c bw cb i T en ck [] [] x)) := by
 have hpl : plainL (l.flatMap layA7.g) = true := zAb layA7.g layA7.plain _
 obtain ⟨dom, cell, sub, row, hok, hsh, hdl⟩ := factU hd i h1 hx
 obtain ⟨xn, xt, xc, xw, xd⟩ := x
 have hok : RcX.ok ⟨xn, xt, xc, xw, xd⟩ = true := hok
 have hsh : shortB xn = true := hsh
 have h1s : (Try.prog.types[5]).size = 1 := by kernel_rfl
 have hby : (Try.prog.types[5]).bytes = 1 := by kernel_rfl
 refine zAo tbRb [0, 1] 2 _ none mixed _ _ _ ?_
 refine ifK (fun _ => ?_) (fun h2 => absurd (dom.symm.trans h2) (by decide))
 refine Exists.intro a0 (And.intro (cell 7 (by decide)) ?_)
 refine ifK (fun g => absurd (Nat.eq_of_beq_eq_true g) (by unfold U; omega)) (fun _ => ?_)
 have hkt : (pickI a0 (IntKind.i64.wrap ((bw.length : Int) + 1))).toNat - Int.toNat 0 = k := by rw [hk]; simp
 refine And.intro (by rw [hk]; simp only [inLH, Bool.and_eq_true, decide_eq_true_eq]; exact ⟨⟨⟨by omega, by omega⟩, Nat.ble_eq_true_of_le hcb.1⟩, Nat.ble_eq_true_of_le (by simp; omega)⟩) ?_
 refine Exists.intro ([].map byV) (And.intro (by rw [hkt, ← hW]; exact zHv h1s rfl hkl) ?_)
 refine ifK (fun _ => ?_) (fun g => absurd (show k = 0 by have := congrArg List.length hW; rw [List.length_take, Nat.min_eq_left hkl] at this; exact this) (fun e => by rw [hkt, e] at g; cases g))
 exact rcq [2, 3, 4] ⟨⟨_, rfl, .sl _ _ _ _ _ rfl⟩, ⟨_, rfl, .sl _ _ _ _ _ rfl⟩, ⟨_, rfl, .bool _⟩, ⟨_, rfl, .ptr _ _ _ rfl⟩, ⟨_, rfl, zAa 8 rfl⟩, ⟨_, rfl, zAa 8 rfl⟩, ⟨_, rfl, zAa 8 rfl⟩, ⟨_, rfl, zAa 8 rfl⟩, ⟨_, rfl, .int _ _⟩, ⟨_, rfl, .ptr _ _ _ rfl⟩, trivial⟩ ⟨bpo (hpl), bpo (byV_plain bw), ⟨by decide, _, rfl, zAi _ _⟩, ⟨by decide, _, rfl, zAd 2 2 (by exact rfl) _⟩, bpo rfl, trivial⟩ .nil
theorem rbz_100 (l : List A7) (c : Nat) (bw : Bl) (cb i : Nat) (T : List (Bl × Nat)) (en ck : Nat) (f : Nat → Option Value) (hd : ∀ x ∈ l, x.x.ok = true ∧ (bs x.x.n).length ≤ 3000 ∧ (bs x.x.d).length ≤ 3000) (_ : l.length ≤ 40) (hbw : bw.length ≤ 100) (hcb : bw.length ≤ cb ∧ cb ≤ 9223372036854775807) (h1 : i < l.length) (x : RcX) (ask raw : Bool) (a0 : Int) (hx : l[i] = ⟨x, ask, raw, a0⟩) (w : UInt8) (ws : Bl) (k : Nat) (hk : pickI a0 (IntKind.i64.wrap ((bw.length : Int) + 1)) = (k : Int)) (hkl : k ≤ bw.length) (hW : bw.take k = (w :: ws)) : CW Try.prog 0 2 (2 + (Try.f9.ntmps - 2)) none (codeAt (loopAt Try.f9 0) [1, 0, 1, 1, 0]) (rbX l c bw cb i T en ck [] [] x f) (stepK Try.prog 0 2 (2 + (Try.f9.ntmps - 2)) none (rbX l c bw cb i T en ck (w :: ws) [] x)) := by
 have hpl : plainL (l.flatMap layA7.g) = true := zAb layA7.g layA7.plain _
 obtain ⟨dom, cell, sub, row, hok, hsh, hdl⟩ := factU hd i h1 hx
 obtain ⟨xn, xt, xc, xw, xd⟩ := x
 have hok : RcX.ok ⟨xn, xt, xc, xw, xd⟩ = true := hok
 have hsh : shortB xn = true := hsh
 have h1s : (Try.prog.types[5]).size = 1 := by kernel_rfl
 have hby : (Try.prog.types[5]).bytes = 1 := by kernel_rfl
 refine zAo tbRb [0, 1] 2 _ none mixed _ _ _ ?_
 refine ifK (fun _ => ?_) (fun h2 => absurd (dom.symm.trans h2) (by decide))
 refine Exists.intro a0 (And.intro (cell 7 (by decide)) ?_)
 refine ifK (fun g => absurd (Nat.eq_of_beq_eq_true g) (by unfold U; omega)) (fun _ => ?_)
 have hkt : (pickI a0 (IntKind.i64.wrap ((bw.length : Int) + 1))).toNat - Int.toNat 0 = k := by rw [hk]; simp
 refine And.intro (by rw [hk]; simp only [inLH, Bool.and_eq_true, decide_eq_true_eq]; exact ⟨⟨⟨by omega, by omega⟩, Nat.ble_eq_true_of_le hcb.1⟩, Nat.ble_eq_true_of_le (by simp; omega)⟩) ?_
 refine Exists.intro ((w :: ws).map byV) (And.intro (by rw [hkt, ← hW]; exact zHv h1s rfl hkl) ?_)
 refine ifK (fun g => absurd (show k = 0 by rw [hkt] at g; exact Nat.eq_of_beq_eq_true g) (fun e => by rw [e] at hW; cases hW)) (fun _ => ?_)
 have hkv : k = ws.length + 1 := by have := congrArg List.length hW; rw [List.length_take, Nat.min_eq_left hkl] at this; exact this
 have hone : oneL ((w :: ws).map byV) = true := oneB _
 refine And.intro (by rw [hby, hkt]; simp only [Bool.and_eq_true]; exact ⟨decide_eq_true (by omega), decide_eq_true (by omega)⟩) ?_
 have hlen : (pickI a0 (IntKind.i64.wrap ((bw.length : Int) + 1))).toNat - Int.toNat 0 = ws.length + 1 := by rw [hkt, hkv]
 have hcells : (w :: ws).map byV = (w :: ws).map byV := rfl
 exact rcq [2, 3, 5, 4] ⟨⟨_, rfl, .sl _ _ _ _ _ rfl⟩, ⟨_, rfl, .sl _ _ _ _ _ rfl⟩, ⟨_, rfl, .bool _⟩, ⟨_, rfl, .ptr _ _ _ rfl⟩, ⟨_, rfl, by show RV _ (.slice _ ((pickI a0 (IntKind.i64.wrap ((bw.length : Int) + 1))).toNat - Int.toNat 0) U) _; rw [hlen]; exact .sl _ _ _ _ _ rfl⟩, ⟨_, rfl, zAa 8 rfl⟩, ⟨_, rfl, zAa 8 rfl⟩, ⟨_, rfl, zAa 8 rfl⟩, ⟨_, rfl, .int _ _⟩, ⟨_, rfl, .ptr _ _ _ rfl⟩, trivial⟩ ⟨bpo (hpl), bpo (byV_plain bw), ⟨by decide, _, rfl, zAi _ _⟩, ⟨by decide, _, rfl, zAd 2 2 (by exact rfl) _⟩, ⟨by decide, _, rfl, zBb hcells (byV_plain _)⟩, bpo rfl, trivial⟩ .nil
theorem rbi_00 (l : List A7) (c : Nat) (bw : Bl) (cb i : Nat) (T : List (Bl × Nat)) (en ck : Nat) (f : Nat → Option Value) (hd : ∀ x ∈ l, x.x.ok = true ∧ (bs x.x.n).length ≤ 3000 ∧ (bs x.x.d).length ≤ 3000) (hl40 : l.length ≤ 40) (_ : bw.length ≤ 100) (_ : bw.length ≤ cb ∧ cb ≤ 9223372036854775807) (h1 : i < l.length) (x : RcX) (ask raw : Bool) (a0 : Int) (hx : l[i] = ⟨x, ask, raw, a0⟩) : CW Try.prog 0 2 (2 + (Try.f9.ntmps - 2)) none (codeAt (loopAt Try.f9 0) [1, 1]) (rbE l c bw cb i T en ck [] [] f) (stepK Try.prog 0 2 (2 + (Try.f9.ntmps - 2)) none (rbE l c bw cb (i + 1) T en ck [] [])) := by
 have hpl : plainL (l.flatMap layA7.g) = true := zAb layA7.g layA7.plain _
 obtain ⟨dom, cell, sub, row, hok, hsh, hdl⟩ := factU hd i h1 hx
 refine zAo tbRb [0] 2 _ none mixed _ _ _ ?_
 exact rcq [2, 3] ⟨⟨_, rfl, .sl _ _ _ _ _ rfl⟩, ⟨_, rfl, .sl _ _ _ _ _ rfl⟩, ⟨_, rfl, .bool _⟩, ⟨_, rfl, .ptr _ _ _ rfl⟩, ⟨_, rfl, zAa 8 rfl⟩, ⟨_, rfl, zAa 8 rfl⟩, ⟨_, rfl, zAa 8 rfl⟩, ⟨_, rfl, zAa 8 rfl⟩, zAh rfl (by rw [wrapN (by omega) (by omega)]; omega), trivial⟩ ⟨bpo (hpl), bpo (byV_plain bw), ⟨by decide, _, rfl, zAi _ _⟩, ⟨by decide, _, rfl, zAd 2 2 (by exact rfl) _⟩, trivial⟩ .nil
theorem rbx_01 (l : List A7) (c : Nat) (bw : Bl) (cb i : Nat) (T : List (Bl × Nat)) (en ck : Nat) (f : Nat → Option Value) (hd : ∀ x ∈ l, x.x.ok = true ∧ (bs x.x.n).length ≤ 3000 ∧ (bs x.x.d).length ≤ 3000) (_ : l.length ≤ 40) (_ : bw.length ≤ 100) (_ : bw.length ≤ cb ∧ cb ≤ 9223372036854775807) (h1 : i < l.length) (x : RcX) (ask raw : Bool) (a0 : Int) (hx : l[i] = ⟨x, ask, raw, a0⟩) (r : Wu) (R : List Wu) : CW Try.prog 0 2 (2 + (Try.f9.ntmps - 2)) none (codeAt (loopAt Try.f9 0) [0]) (rbE l c bw cb i T en ck [] (r :: R) f) (stepK Try.prog 0 2 (2 + (Try.f9.ntmps - 2)) none (rbE l c bw cb i T en ck [] (r :: R))) := by
 have hpl : plainL (l.flatMap layA7.g) = true := zAb layA7.g layA7.plain _
 obtain ⟨dom, cell, sub, row, hok, hsh, hdl⟩ := factU hd i h1 hx
 refine zAo tbRb [0] 2 _ none mixed _ _ _ ?_
 refine ifK (fun _ => ?_) (fun g => absurd (show ((i : Nat) : Int) < (l.length : Int) by omega) (of_decide_eq_false g))
 exact rcq [2, 3, 4, 5, 6] ⟨⟨_, rfl, .sl _ _ _ _ _ rfl⟩, ⟨_, rfl, .sl _ _ _ _ _ rfl⟩, ⟨_, rfl, .bool _⟩, ⟨_, rfl, .ptr _ _ _ rfl⟩, ⟨_, rfl, zAa 8 rfl⟩, ⟨_, rfl, .sl _ _ _ _ _ rfl⟩, ⟨_, rfl, .sl _ _ _ _ _ rfl⟩, ⟨_, rfl, .sl _ _ _ _ _ rfl⟩, ⟨_, rfl, .int _ _⟩, trivial⟩ ⟨bpo (hpl), bpo (byV_plain bw), ⟨by decide, _, rfl, zAi _ _⟩, ⟨by decide, _, rfl, zAd 2 2 (by exact rfl) _⟩, bpo (zAf (r :: R)), bpo (zAg (r :: R)), bpo (zAe (r :: R)), trivial⟩ .nil
theorem rbq_01 (l : List A7) (c : Nat) (bw : Bl) (cb i : Nat) (T : List (Bl × Nat)) (en ck : Nat) (f : Nat → Option Value) (hd : ∀ x ∈ l, x.x.ok = true ∧ (bs x.x.n).length ≤ 3000 ∧ (bs x.x.d).length ≤ 3000) (_ : l.length ≤ 40) (_ : bw.length ≤ 100) (_ : bw.length ≤ cb ∧ cb ≤ 9223372036854775807) (h1 : i < l.length) (x : RcX) (ask raw : Bool) (a0 : Int) (hx : l[i] = ⟨x, ask, raw, a0⟩) (r : Wu) (R : List Wu) : CW Try.prog 0 2 (2 + (Try.f9.ntmps - 2)) none (codeAt (loopAt Try.f9 0) [1, 0, 0]) (rbE l c bw cb i T en ck [] (r :: R) f) (stepK Try.prog 0 2 (2 + (Try.f9.ntmps - 2)) none (rbX l c bw cb i T en ck [] (r :: R) x)) := by
 have hpl : plainL (l.flatMap layA7.g) = true := zAb layA7.g layA7.plain _
 obtain ⟨dom, cell, sub, row, hok, hsh, hdl⟩ := factU hd i h1 hx
 obtain ⟨xn, xt, xc, xw, xd⟩ := x
 have hok : RcX.ok ⟨xn, xt, xc, xw, xd⟩ = true := hok
 have hsh : shortB xn = true := hsh
 refine zAo tbRb [0] 2 _ none mixed _ _ _ ?_
 refine ifK (fun _ => ?_) (fun h2 => absurd (dom.symm.trans h2) (by decide))
 refine Exists.intro xn (Exists.intro xt (Exists.intro xc (Exists.intro xw (Exists.intro xd (And.intro sub ?_)))))
 exact rcq [2, 3, 4, 5, 6, 7] ⟨⟨_, rfl, .sl _ _ _ _ _ rfl⟩, ⟨_, rfl, .sl _ _ _ _ _ rfl⟩, ⟨_, rfl, .bool _⟩, ⟨_, rfl, .ptr _ _ _ rfl⟩, ⟨_, rfl, zAa 8 rfl⟩, ⟨_, rfl, .sl _ _ _ _ _ rfl⟩, ⟨_, rfl, .sl _ _ _ _ _ rfl⟩, ⟨_, rfl, .sl _ _ _ _ _ rfl⟩, ⟨_, rfl, .int _ _⟩, ⟨_, rfl, .ptr _ _ _ rfl⟩, trivial⟩ ⟨bpo (hpl), bpo (byV_plain bw), ⟨by decide, _, rfl, zAi _ _⟩, ⟨by decide, _, rfl, zAd 2 2 (by exact rfl) _⟩, bpo (zAf (r :: R)), bpo (zAg (r :: R)), bpo (zAe (r :: R)), bpo rfl, trivial⟩ .nil
theorem rby_101 (l : List A7) (c : Nat) (bw : Bl) (cb i : Nat) (T : List (Bl × Nat)) (en ck : Nat) (f : Nat → Option Value) (hd : ∀ x ∈ l, x.x.ok = true ∧ (bs x.x.n).length ≤ 3000 ∧ (bs x.x.d).length ≤ 3000) (_ : l.length ≤ 40) (_ : bw.length ≤ 100) (_ : bw.length ≤ cb ∧ cb ≤ 9223372036854775807) (h1 : i < l.length) (x : RcX) (ask raw : Bool) (a0 : Int) (hx : l[i] = ⟨x, ask, raw, a0⟩) (r : Wu) (R : List Wu) (hck : recC x = 0) : CW Try.prog 0 2 (2 + (Try.f9.ntmps - 2)) none (codeAt (loopAt Try.f9 0) [1, 0, 1, 0]) (rbX l c bw cb i T en ck [] (r :: R) x f) (stepK Try.prog 0 2 (2 + (Try.f9.ntmps - 2)) none (rbX l c bw cb i T en ck [] (r :: R) x)) := by
 have hpl : plainL (l.flatMap layA7.g) = true := zAb layA7.g layA7.plain _
 obtain ⟨dom, cell, sub, row, hok, hsh, hdl⟩ := factU hd i h1 hx
 obtain ⟨xn, xt, xc, xw, xd⟩ := x
 have hok : RcX.ok ⟨xn, xt, xc, xw, xd⟩ = true := hok
 have hsh : shortB xn = true := hsh
 refine zAo tbRb [0] 2 _ none mixed _ _ _ ?_
 refine And.intro hok ?_
 refine ifK (fun g => absurd hck (by simpa using g)) (fun _ => ?_)
 exact rcq [2, 3, 4, 5, 6, 7] ⟨⟨_, rfl, .sl _ _ _ _ _ rfl⟩, ⟨_, rfl, .sl _ _ _ _ _ rfl⟩, ⟨_, rfl, .bool _⟩, ⟨_, rfl, .ptr _ _ _ rfl⟩, ⟨_, rfl, zAa 8 rfl⟩, ⟨_, rfl, .sl _ _ _ _ _ rfl⟩, ⟨_, rfl, .sl _ _ _ _ _ rfl⟩, ⟨_, rfl, .sl _ _ _ _ _ rfl⟩, ⟨_, rfl, .int _ _⟩, ⟨_, rfl, .ptr _ _ _ rfl⟩, trivial⟩ ⟨bpo (hpl), bpo (byV_plain bw), ⟨by decide, _, rfl, zAi _ _⟩, ⟨by decide, _, rfl, zAd 2 2 (by exact rfl) _⟩, bpo (zAf (r :: R)), bpo (zAg (r :: R)), bpo (zAe (r :: R)), bpo rfl, trivial⟩ .nil
theorem rby_001 (l : List A7) (c : Nat) (bw : Bl) (cb i : Nat) (T : List (Bl × Nat)) (en ck : Nat) (f : Nat → Option Value) (hd : ∀ x ∈ l, x.x.ok = true ∧ (bs x.x.n).length ≤ 3000 ∧ (bs x.x.d).length ≤ 3000) (_ : l.length ≤ 40) (_ : bw.length ≤ 100) (_ : bw.length ≤ cb ∧ cb ≤ 9223372036854775807) (h1 : i < l.length) (x : RcX) (ask raw : Bool) (a0 : Int) (hx : l[i] = ⟨x, ask, raw, a0⟩) (r : Wu) (R : List Wu) (hck : recC x ≠ 0) : CW Try.prog 0 2 (2 + (Try.f9.ntmps - 2)) none (codeAt (loopAt Try.f9 0) [1, 0, 1, 0]) (rbX l c bw cb i T en ck [] (r :: R) x f) (fun x s1 => x = .exit 1 ∧ ∃ f, RcM Try.prog 0 2 (2 + (Try.f9.ntmps - 2)) none s1 (rbE l c bw cb i T en ck [] (r :: R) f)) := by
 have hpl : plainL (l.flatMap layA7.g) = true := zAb layA7.g layA7.plain _
 obtain ⟨dom, cell, sub, row, hok, hsh, hdl⟩ := factU hd i h1 hx
 obtain ⟨xn, xt, xc, xw, xd⟩ := x
 have hok : RcX.ok ⟨xn, xt, xc, xw, xd⟩ = true := hok
 have hsh : shortB xn = true := hsh
 refine zAo tbRb [0] 2 _ none mixed _ _ _ ?_
 refine And.intro hok ?_
 refine ifK (fun _ => ⟨rfl, rcq [2, 3, 4, 5, 6] ⟨⟨_, rfl, .sl _ _ _ _ _ rfl⟩, ⟨_, rfl, .sl _ _ _ _ _ rfl⟩, ⟨_, rfl, .bool _⟩, ⟨_, rfl, .ptr _ _ _ rfl⟩, ⟨_, rfl, zAa 8 rfl⟩, ⟨_, rfl, .sl _ _ _ _ _ rfl⟩, ⟨_, rfl, .sl _ _ _ _ _ rfl⟩, ⟨_, rfl, .sl _ _ _ _ _ rfl⟩, ⟨_, rfl, .int _ _⟩, trivial⟩ ⟨bpo (hpl), bpo (byV_plain bw), ⟨by decide, _, rfl, zAi _ _⟩, ⟨by decide, _, rfl, zAd 2 2 (by exact rfl) _⟩, bpo (zAf (r :: R)), bpo (zAg (r :: R)), bpo (zAe (r :: R)), trivial⟩ .nil⟩) (fun g => absurd (by simpa using g) hck)
theorem rbz_001 (l : List A7) (c : Nat) (bw : Bl) (cb i : Nat) (T : List (Bl × Nat)) (en ck : Nat) (f : Nat → Option Value) (hd : ∀ x ∈ l, x.x.ok = true ∧ (bs x.x.n).length ≤ 3000 ∧ (bs x.x.d).length ≤ 3000) (_ : l.length ≤ 40) (_ : bw.length ≤ 100) (hcb : bw.length ≤ cb ∧ cb ≤ 9223372036854775807) (h1 : i < l.length) (x : RcX) (ask raw : Bool) (a0 : Int) (hx : l[i] = ⟨x, ask, raw, a0⟩) (r : Wu) (R : List Wu) (k : Nat) (hk : pickI a0 (IntKind.i64.wrap ((bw.length : Int) + 1)) = (k : Int)) (hkl : k ≤ bw.length) (hW : bw.take k = []) : CW Try.prog 0 2 (2 + (Try.f9.ntmps - 2)) none (codeAt (loopAt Try.f9 0) [1, 0, 1, 1, 0]) (rbX l c bw cb i T en ck [] (r :: R) x f) (stepK Try.prog 0 2 (2 + (Try.f9.ntmps - 2)) none (rbX l c bw cb i T en ck [] (r :: R) x)) := by
 have hpl : plainL (l.flatMap layA7.g) = true := zAb layA7.g layA7.plain _
 obtain ⟨dom, cell, sub, row, hok, hsh, hdl⟩ := factU hd i h1 hx
 obtain ⟨xn, xt, xc, xw, xd⟩ := x
 have hok : RcX.ok ⟨xn, xt, xc, xw, xd⟩ = true := hok
 have hsh : shortB xn = true := hsh
 have h1s : (Try.prog.types[5]).size = 1 := by kernel_rfl
 have hby : (Try.prog.types[5]).bytes = 1 := by kernel_rfl
 refine zAo tbRb [0, 1] 2 _ none mixed _ _ _ ?_
 refine ifK (fun _ => ?_) (fun h2 => absurd (dom.symm.trans h2) (by decide))
 refine Exists.intro a0 (And.intro (cell 7 (by decide)) ?_)
 refine ifK (fun g => absurd (Nat.eq_of_beq_eq_true g) (by unfold U; omega)) (fun _ => ?_)
 have hkt : (pickI a0 (IntKind.i64.wrap ((bw.length : Int) + 1))).toNat - Int.toNat 0 = k := by rw [hk]; simp
 refine And.intro (by rw [hk]; simp only [inLH, Bool.and_eq_true, decide_eq_true_eq]; exact ⟨⟨⟨by omega, by omega⟩, Nat.ble_eq_true_of_le hcb.1⟩, Nat.ble_eq_true_of_le (by simp; omega)⟩) ?_
 refine Exists.intro ([].map byV) (And.intro (by rw [hkt, ← hW]; exact zHv h1s rfl hkl) ?_)
 refine ifK (fun _ => ?_) (fun g => absurd (show k = 0 by have := congrArg List.length hW; rw [List.length_take, Nat.min_eq_left hkl] at this; exact this) (fun e => by rw [hkt, e] at g; cases g))
 exact rcq [2, 3, 4, 5, 6, 7] ⟨⟨_, rfl, .sl _ _ _ _ _ rfl⟩, ⟨_, rfl, .sl _ _ _ _ _ rfl⟩, ⟨_, rfl, .bool _⟩, ⟨_, rfl, .ptr _ _ _ rfl⟩, ⟨_, rfl, zAa 8 rfl⟩, ⟨_, rfl, .sl _ _ _ _ _ rfl⟩, ⟨_, rfl, .sl _ _ _ _ _ rfl⟩, ⟨_, rfl, .sl _ _ _ _ _ rfl⟩, ⟨_, rfl, .int _ _⟩, ⟨_, rfl, .ptr _ _ _ rfl⟩, trivial⟩ ⟨bpo (hpl), bpo (byV_plain bw), ⟨by decide, _, rfl, zAi _ _⟩, ⟨by decide, _, rfl, zAd 2 2 (by exact rfl) _⟩, bpo (zAf (r :: R)), bpo (zAg (r :: R)), bpo (zAe (r :: R)), bpo rfl, trivial⟩ .nil
theorem rbz_101 (l : List A7) (c : Nat) (bw : Bl) (cb i : Nat) (T : List (Bl × Nat)) (en ck : Nat) (f : Nat → Option Value) (hd : ∀ x ∈ l, x.x.ok = true ∧ (bs x.x.n).length ≤ 3000 ∧ (bs x.x.d).length ≤ 3000) (_ : l.length ≤ 40) (hbw : bw.length ≤ 100) (hcb : bw.length ≤ cb ∧ cb ≤ 9223372036854775807) (h1 : i < l.length) (x : RcX) (ask raw : Bool) (a0 : Int) (hx : l[i] = ⟨x, ask, raw, a0⟩) (r : Wu) (R : List Wu) (w : UInt8) (ws : Bl) (k : Nat) (hk : pickI a0 (IntKind.i64.wrap ((bw.length : Int) + 1)) = (k : Int)) (hkl : k ≤ bw.length) (hW : bw.take k = (w :: ws)) : CW Try.prog 0 2 (2 + (Try.f9.ntmps - 2)) none (codeAt (loopAt Try.f9 0) [1, 0, 1, 1, 0]) (rbX l c bw cb i T en ck [] (r :: R) x f) (stepK Try.prog 0 2 (2 + (Try.f9.ntmps - 2)) none (rbX l c bw cb i T en ck (w :: ws) (r :: R) x)) := by
 have hpl : plainL (l.flatMap layA7.g) = true := zAb layA7.g layA7.plain _
 obtain ⟨dom, cell, sub, row, hok, hsh, hdl⟩ := factU hd i h1 hx
 obtain ⟨xn, xt, xc, xw, xd⟩ := x
 have hok : RcX.ok ⟨xn, xt, xc, xw, xd⟩ = true := hok
 have hsh : shortB xn = true := hsh
 have h1s : (Try.prog.types[5]).size = 1 := by kernel_rfl
 have hby : (Try.prog.types[5]).bytes = 1 := by kernel_rfl
 refine zAo tbRb [0, 1] 2 _ none mixed _ _ _ ?_
 refine ifK (fun _ => ?_) (fun h2 => absurd (dom.symm.trans h2) (by decide))
 refine Exists.intro a0 (And.intro (cell 7 (by decide)) ?_)
 refine ifK (fun g => absurd (Nat.eq_of_beq_eq_true g) (by unfold U; omega)) (fun _ => ?_)
 have hkt : (pickI a0 (IntKind.i64.wrap ((bw.length : Int) + 1))).toNat - Int.toNat 0 = k := by rw [hk]; simp
 refine And.intro (by rw [hk]; simp only [inLH, Bool.and_eq_true, decide_eq_true_eq]; exact ⟨⟨⟨by omega, by omega⟩, Nat.ble_eq_true_of_le hcb.1⟩, Nat.ble_eq_true_of_le (by simp; omega)⟩) ?_
 refine Exists.intro ((w :: ws).map byV) (And.intro (by rw [hkt, ← hW]; exact zHv h1s rfl hkl) ?_)
 refine ifK (fun g => absurd (show k = 0 by rw [hkt] at g; exact Nat.eq_of_beq_eq_true g) (fun e => by rw [e] at hW; cases hW)) (fun _ => ?_)
 have hkv : k = ws.length + 1 := by have := congrArg List.length hW; rw [List.length_take, Nat.min_eq_left hkl] at this; exact this
 have hone : oneL ((w :: ws).map byV) = true := oneB _
 refine And.intro (by rw [hby, hkt]; simp only [Bool.and_eq_true]; exact ⟨decide_eq_true (by omega), decide_eq_true (by omega)⟩) ?_
 have hlen : (pickI a0 (IntKind.i64.wrap ((bw.length : Int) + 1))).toNat - Int.toNat 0 = ws.length + 1 := by rw [hkt, hkv]
 have hcells : (w :: ws).map byV = (w :: ws).map byV := rfl
 exact rcq [2, 3, 8, 4, 5, 6, 7] ⟨⟨_, rfl, .sl _ _ _ _ _ rfl⟩, ⟨_, rfl, .sl _ _ _ _ _ rfl⟩, ⟨_, rfl, .bool _⟩, ⟨_, rfl, .ptr _ _ _ rfl⟩, ⟨_, rfl, by show RV _ (.slice _ ((pickI a0 (IntKind.i64.wrap ((bw.length : Int) + 1))).toNat - Int.toNat 0) U) _; rw [hlen]; exact .sl _ _ _ _ _ rfl⟩, ⟨_, rfl, .sl _ _ _ _ _ rfl⟩, ⟨_, rfl, .sl _ _ _ _ _ rfl⟩, ⟨_, rfl, .sl _ _ _ _ _ rfl⟩, ⟨_, rfl, .int _ _⟩, ⟨_, rfl, .ptr _ _ _ rfl⟩, trivial⟩ ⟨bpo (hpl), bpo (byV_plain bw), ⟨by decide, _, rfl, zAi _ _⟩, ⟨by decide, _, rfl, zAd 2 2 (by exact rfl) _⟩, ⟨by decide, _, rfl, zBb hcells (byV_plain _)⟩, bpo (zAf (r :: R)), bpo (zAg (r :: R)), bpo (zAe (r :: R)), bpo rfl, trivial⟩ .nil
theorem rbi_01 (l : List A7) (c : Nat) (bw : Bl) (cb i : Nat) (T : List (Bl × Nat)) (en ck : Nat) (f : Nat → Option Value) (hd : ∀ x ∈ l, x.x.ok = true ∧ (bs x.x.n).length ≤ 3000 ∧ (bs x.x.d).length ≤ 3000) (hl40 : l.length ≤ 40) (_ : bw.length ≤ 100) (_ : bw.length ≤ cb ∧ cb ≤ 9223372036854775807) (h1 : i < l.length) (x : RcX) (ask raw : Bool) (a0 : Int) (hx : l[i] = ⟨x, ask, raw, a0⟩) (r : Wu) (R : List Wu) : CW Try.prog 0 2 (2 + (Try.f9.ntmps - 2)) none (codeAt (loopAt Try.f9 0) [1, 1]) (rbE l c bw cb i T en ck [] (r :: R) f) (stepK Try.prog 0 2 (2 + (Try.f9.ntmps - 2)) none (rbE l c bw cb (i + 1) T en ck [] (r :: R))) := by
 have hpl : plainL (l.flatMap layA7.g) = true := zAb layA7.g layA7.plain _
 obtain ⟨dom, cell, sub, row, hok, hsh, hdl⟩ := factU hd i h1 hx
 refine zAo tbRb [0] 2 _ none mixed _ _ _ ?_
 exact rcq [2, 3, 4, 5, 6] ⟨⟨_, rfl, .sl _ _ _ _ _ rfl⟩, ⟨_, rfl, .sl _ _ _ _ _ rfl⟩, ⟨_, rfl, .bool _⟩, ⟨_, rfl, .ptr _ _ _ rfl⟩, ⟨_, rfl, zAa 8 rfl⟩, ⟨_, rfl, .sl _ _ _ _ _ rfl⟩, ⟨_, rfl, .sl _ _ _ _ _ rfl⟩, ⟨_, rfl, .sl _ _ _ _ _ rfl⟩, zAh rfl (by rw [wrapN (by omega) (by omega)]; omega), trivial⟩ ⟨bpo (hpl), bpo (byV_plain bw), ⟨by decide, _, rfl, zAi _ _⟩, ⟨by decide, _, rfl, zAd 2 2 (by exact rfl) _⟩, bpo (zAf (r :: R)), bpo (zAg (r :: R)), bpo (zAe (r :: R)), trivial⟩ .nil
theorem rbx_11 (l : List A7) (c : Nat) (bw : Bl) (cb i : Nat) (T : List (Bl × Nat)) (en ck : Nat) (f : Nat → Option Value) (hd : ∀ x ∈ l, x.x.ok = true ∧ (bs x.x.n).length ≤ 3000 ∧ (bs x.x.d).length ≤ 3000) (_ : l.length ≤ 40) (_ : bw.length ≤ 100) (_ : bw.length ≤ cb ∧ cb ≤ 9223372036854775807) (h1 : i < l.length) (x : RcX) (ask raw : Bool) (a0 : Int) (hx : l[i] = ⟨x, ask, raw, a0⟩) (u : UInt8) (us : Bl) (r : Wu) (R : List Wu) : CW Try.prog 0 2 (2 + (Try.f9.ntmps - 2)) none (codeAt (loopAt Try.f9 0) [0]) (rbE l c bw cb i T en ck (u :: us) (r :: R) f) (stepK Try.prog 0 2 (2 + (Try.f9.ntmps - 2)) none (rbE l c bw cb i T en ck (u :: us) (r :: R))) := by
 have hpl : plainL (l.flatMap layA7.g) = true := zAb layA7.g layA7.plain _
 obtain ⟨dom, cell, sub, row, hok, hsh, hdl⟩ := factU hd i h1 hx
 refine zAo tbRb [0] 2 _ none mixed _ _ _ ?_
 refine ifK (fun _ => ?_) (fun g => absurd (show ((i : Nat) : Int) < (l.length : Int) by omega) (of_decide_eq_false g))
 exact rcq [2, 3, 4, 5, 6, 7] ⟨⟨_, rfl, .sl _ _ _ _ _ rfl⟩, ⟨_, rfl, .sl _ _ _ _ _ rfl⟩, ⟨_, rfl, .bool _⟩, ⟨_, rfl, .ptr _ _ _ rfl⟩, ⟨_, rfl, .sl _ _ _ _ _ rfl⟩, ⟨_, rfl, .sl _ _ _ _ _ rfl⟩, ⟨_, rfl, .sl _ _ _ _ _ rfl⟩, ⟨_, rfl, .sl _ _ _ _ _ rfl⟩, ⟨_, rfl, .int _ _⟩, trivial⟩ ⟨bpo (hpl), bpo (byV_plain bw), ⟨by decide, _, rfl, zAi _ _⟩, ⟨by decide, _, rfl, zAd 2 2 (by exact rfl) _⟩, bpo (byV_plain (u :: us)), bpo (zAf (r :: R)), bpo (zAg (r :: R)), bpo (zAe (r :: R)), trivial⟩ .nil
theorem rbq_11 (l : List A7) (c : Nat) (bw : Bl) (cb i : Nat) (T : List (Bl × Nat)) (en ck : Nat) (f : Nat → Option Value) (hd : ∀ x ∈ l, x.x.ok = true ∧ (bs x.x.n).length ≤ 3000 ∧ (bs x.x.d).length ≤ 3000) (_ : l.length ≤ 40) (_ : bw.length ≤ 100) (_ : bw.length ≤ cb ∧ cb ≤ 9223372036854775807) (h1 : i < l.length) (x : RcX) (ask raw : Bool) (a0 : Int) (hx : l[i] = ⟨x, ask, raw, a0⟩) (u : UInt8) (us : Bl) (r : Wu) (R : List Wu) : CW Try.prog 0 2 (2 + (Try.f9.ntmps - 2)) none (codeAt (loopAt Try.f9 0) [1, 0, 0]) (rbE l c bw cb i T en ck (u :: us) (r :: R) f) (stepK Try.prog 0 2 (2 + (Try.f9.ntmps - 2)) none (rbX l c bw cb i T en ck (u :: us) (r :: R) x)) := by
 have hpl : plainL (l.flatMap layA7.g) = true := zAb layA7.g layA7.plain _
 obtain ⟨dom, cell, sub, row, hok, hsh, hdl⟩ := factU hd i h1 hx
 obtain ⟨xn, xt, xc, xw, xd⟩ := x
 have hok : RcX.ok ⟨xn, xt, xc, xw, xd⟩ = true := hok
 have hsh : shortB xn = true := hsh
 refine zAo tbRb [0] 2 _ none mixed _ _ _ ?_
 refine ifK (fun _ => ?_) (fun h2 => absurd (dom.symm.trans h2) (by decide))
 refine Exists.intro xn (Exists.intro xt (Exists.intro xc (Exists.intro xw (Exists.intro xd (And.intro sub ?_)))))
 exact rcq [2, 3, 4, 5, 6, 7, 8] ⟨⟨_, rfl, .sl _ _ _ _ _ rfl⟩, ⟨_, rfl, .sl _ _ _ _ _ rfl⟩, ⟨_, rfl, .bool _⟩, ⟨_, rfl, .ptr _ _ _ rfl⟩, ⟨_, rfl, .sl _ _ _ _ _ rfl⟩, ⟨_, rfl, .sl _ _ _ _ _ rfl⟩, ⟨_, rfl, .sl _ _ _ _ _ rfl⟩, ⟨_, rfl, .sl _ _ _ _ _ rfl⟩, ⟨_, rfl, .int _ _⟩, ⟨_, rfl, .ptr _ _ _ rfl⟩, trivial⟩ ⟨bpo (hpl), bpo (byV_plain bw), ⟨by decide, _, rfl, zAi _ _⟩, ⟨by decide, _, rfl, zAd 2 2 (by exact rfl) _⟩, bpo (byV_plain (u :: us)), bpo (zAf (r :: R)), bpo (zAg (r :: R)), bpo (zAe (r :: R)), bpo rfl, trivial⟩ .nil
theorem rby_111 (l : List A7) (c : Nat) (bw : Bl) (cb i : Nat) (T : List (Bl × Nat)) (en ck : Nat) (f : Nat → Option Value) (hd : ∀ x ∈ l, x.x.ok = true ∧ (bs x.x.n).length ≤ 3000 ∧ (bs x.x.d).length ≤ 3000) (_ : l.length ≤ 40) (_ : bw.length ≤ 100) (_ : bw.length ≤ cb ∧ cb ≤ 9223372036854775807) (h1 : i < l.length) (x : RcX) (ask raw : Bool) (a0 : Int) (hx : l[i] = ⟨x, ask, raw, a0⟩) (u : UInt8) (us : Bl) (r : Wu) (R : List Wu) (hck : recC x = 0) (hbl : us.length + 1 ≤ 60000) : CW Try.prog 0 2 (2 + (Try.f9.ntmps - 2)) none (codeAt (loopAt Try.f9 0) [1, 0, 1, 0]) (rbX l c bw cb i T en ck (u :: us) (r :: R) x f) (stepK Try.prog 0 2 (2 + (Try.f9.ntmps - 2)) none (rbX l c bw cb i T en ck (u :: us) (r :: R) x)) := by
 have hpl : plainL (l.flatMap layA7.g) = true := zAb layA7.g layA7.plain _
 obtain ⟨dom, cell, sub, row, hok, hsh, hdl⟩ := factU hd i h1 hx
 obtain ⟨xn, xt, xc, xw, xd⟩ := x
 have hok : RcX.ok ⟨xn, xt, xc, xw, xd⟩ = true := hok
 have hsh : shortB xn = true := hsh
 refine zAo tbRb [0] 2 _ none mixed _ _ _ ?_
 refine And.intro hok ?_
 refine ifK (fun g => absurd hck (by simpa using g)) (fun _ => ?_)
 refine ifK (fun g => absurd (of_decide_eq_true g) (by omega)) (fun _ => ?_)
 exact rcq [2, 3, 4, 5, 6, 7, 8] ⟨⟨_, rfl, .sl _ _ _ _ _ rfl⟩, ⟨_, rfl, .sl _ _ _ _ _ rfl⟩, ⟨_, rfl, .bool _⟩, ⟨_, rfl, .ptr _ _ _ rfl⟩, ⟨_, rfl, .sl _ _ _ _ _ rfl⟩, ⟨_, rfl, .sl _ _ _ _ _ rfl⟩, ⟨_, rfl, .sl _ _ _ _ _ rfl⟩, ⟨_, rfl, .sl _ _ _ _ _ rfl⟩, ⟨_, rfl, .int _ _⟩, ⟨_, rfl, .ptr _ _ _ rfl⟩, trivial⟩ ⟨bpo (hpl), bpo (byV_plain bw), ⟨by decide, _, rfl, zAi _ _⟩, ⟨by decide, _, rfl, zAd 2 2 (by exact rfl) _⟩, bpo (byV_plain (u :: us)), bpo (zAf (r :: R)), bpo (zAg (r :: R)), bpo (zAe (r :: R)), bpo rfl, trivial⟩ .nil
theorem rby_011 (l : List A7) (c : Nat) (bw : Bl) (cb i : Nat) (T : List (Bl × Nat)) (en ck : Nat) (f : Nat → Option Value) (hd : ∀ x ∈ l, x.x.ok = true ∧ (bs x.x.n).length ≤ 3000 ∧ (bs x.x.d).length ≤ 3000) (_ : l.length ≤ 40) (_ : bw.length ≤ 100) (_ : bw.length ≤ cb ∧ cb ≤ 9223372036854775807) (h1 : i < l.length) (x : RcX) (ask raw : Bool) (a0 : Int) (hx : l[i] = ⟨x, ask, raw, a0⟩) (u : UInt8) (us : Bl) (r : Wu) (R : List Wu) (hno : recC x ≠ 0 ∨ 60000 < us.length + 1) : CW Try.prog 0 2 (2 + (Try.f9.ntmps - 2)) none (codeAt (loopAt Try.f9 0) [1, 0, 1, 0]) (rbX l c bw cb i T en ck (u :: us) (r :: R) x f) (fun x s1 => x = .exit 1 ∧ ∃ f, RcM Try.prog 0 2 (2 + (Try.f9.ntmps - 2)) none s1 (rbE l c bw cb i T en ck (u :: us) (r :: R) f)) := by
 have hpl : plainL (l.flatMap layA7.g) = true := zAb layA7.g layA7.plain _
 obtain ⟨dom, cell, sub, row, hok, hsh, hdl⟩ := factU hd i h1 hx
 obtain ⟨xn, xt, xc, xw, xd⟩ := x
 have hok : RcX.ok ⟨xn, xt, xc, xw, xd⟩ = true := hok
 have hsh : shortB xn = true := hsh
 refine zAo tbRb [0] 2 _ none mixed _ _ _ ?_
 refine And.intro hok ?_
 refine ifK (fun _ => ⟨rfl, rcq [2, 3, 4, 5, 6, 7] ⟨⟨_, rfl, .sl _ _ _ _ _ rfl⟩, ⟨_, rfl, .sl _ _ _ _ _ rfl⟩, ⟨_, rfl, .bool _⟩, ⟨_, rfl, .ptr _ _ _ rfl⟩, ⟨_, rfl, .sl _ _ _ _ _ rfl⟩, ⟨_, rfl, .sl _ _ _ _ _ rfl⟩, ⟨_, rfl, .sl _ _ _ _ _ rfl⟩, ⟨_, rfl, .sl _ _ _ _ _ rfl⟩, ⟨_, rfl, .int _ _⟩, trivial⟩ ⟨bpo (hpl), bpo (byV_plain bw), ⟨by decide, _, rfl, zAi _ _⟩, ⟨by decide, _, rfl, zAd 2 2 (by exact rfl) _⟩, bpo (byV_plain (u :: us)), bpo (zAf (r :: R)), bpo (zAg (r :: R)), bpo (zAe (r :: R)), trivial⟩ .nil⟩) (fun g => ?_)
 refine ifK (fun _ => ⟨rfl, rcq [2, 3, 4, 5, 6, 7] ⟨⟨_, rfl, .sl _ _ _ _ _ rfl⟩, ⟨_, rfl, .sl _ _ _ _ _ rfl⟩, ⟨_, rfl, .bool _⟩, ⟨_, rfl, .ptr _ _ _ rfl⟩, ⟨_, rfl, .sl _ _ _ _ _ rfl⟩, ⟨_, rfl, .sl _ _ _ _ _ rfl⟩, ⟨_, rfl, .sl _ _ _ _ _ rfl⟩, ⟨_, rfl, .sl _ _ _ _ _ rfl⟩, ⟨_, rfl, .int _ _⟩, trivial⟩ ⟨bpo (hpl), bpo (byV_plain bw), ⟨by decide, _, rfl, zAi _ _⟩, ⟨by decide, _, rfl, zAd 2 2 (by exact rfl) _⟩, bpo (byV_plain (u :: us)), bpo (zAf (r :: R)), bpo (zAg (r :: R)), bpo (zAe (r :: R)), trivial⟩ .nil⟩) (fun g2 => ?_)
 exact absurd hno (by have := of_decide_eq_false g2; simp at g; omega)
theorem rbz_011 (l : List A7) (c : Nat) (bw : Bl) (cb i : Nat) (T : List (Bl × Nat)) (en ck : Nat) (f : Nat → Option Value) (hd : ∀ x ∈ l, x.x.ok = true ∧ (bs x.x.n).length ≤ 3000 ∧ (bs x.x.d).length ≤ 3000) (_ : l.length ≤ 40) (_ : bw.length ≤ 100) (hcb : bw.length ≤ cb ∧ cb ≤ 9223372036854775807) (h1 : i < l.length) (x : RcX) (ask raw : Bool) (a0 : Int) (hx : l[i] = ⟨x, ask, raw, a0⟩) (u : UInt8) (us : Bl) (r : Wu) (R : List Wu) (_ : us.length + 1 ≤ 60000) (k : Nat) (hk : pickI a0 (IntKind.i64.wrap ((bw.length : Int) + 1)) = (k : Int)) (hkl : k ≤ bw.length) (hW : bw.take k = []) : CW Try.prog 0 2 (2 + (Try.f9.ntmps - 2)) none (codeAt (loopAt Try.f9 0) [1, 0, 1, 1, 0]) (rbX l c bw cb i T en ck (u :: us) (r :: R) x f) (stepK Try.prog 0 2 (2 + (Try.f9.ntmps - 2)) none (rbX l c bw cb i T en ck (u :: us) (r :: R) x)) := by
 have hpl : plainL (l.flatMap layA7.g) = true := zAb layA7.g layA7.plain _
 obtain ⟨dom, cell, sub, row, hok, hsh, hdl⟩ := factU hd i h1 hx
 obtain ⟨xn, xt, xc, xw, xd⟩ := x
 have hok : RcX.ok ⟨xn, xt, xc, xw, xd⟩ = true := hok
 have hsh : shortB xn = true := hsh
 have h1s : (Try.prog.types[5]).size = 1 := by kernel_rfl
 have hby : (Try.prog.types[5]).bytes = 1 := by kernel_rfl
 refine zAo tbRb [0, 1] 2 _ none mixed _ _ _ ?_
 refine ifK (fun _ => ?_) (fun h2 => absurd (dom.symm.trans h2) (by decide))
 refine Exists.intro a0 (And.intro (cell 7 (by decide)) ?_)
 refine ifK (fun g => absurd (Nat.eq_of_beq_eq_true g) (by unfold U; omega)) (fun _ => ?_)
 have hkt : (pickI a0 (IntKind.i64.wrap ((bw.length : Int) + 1))).toNat - Int.toNat 0 = k := by rw [hk]; simp
 refine And.intro (by rw [hk]; simp only [inLH, Bool.and_eq_true, decide_eq_true_eq]; exact ⟨⟨⟨by omega, by omega⟩, Nat.ble_eq_true_of_le hcb.1⟩, Nat.ble_eq_true_of_le (by simp; omega)⟩) ?_
 refine Exists.intro ([].map byV) (And.intro (by rw [hkt, ← hW]; exact zHv h1s rfl hkl) ?_)
 refine ifK (fun _ => ?_) (fun g => absurd (show k = 0 by have := congrArg List.length hW; rw [List.length_take, Nat.min_eq_left hkl] at this; exact this) (fun e => by rw [hkt, e] at g; cases g))
 exact rcq [2, 3, 4, 5, 6, 7, 8] ⟨⟨_, rfl, .sl _ _ _ _ _ rfl⟩, ⟨_, rfl, .sl _ _ _ _ _ rfl⟩, ⟨_, rfl, .bool _⟩, ⟨_, rfl, .ptr _ _ _ rfl⟩, ⟨_, rfl, .sl _ _ _ _ _ rfl⟩, ⟨_, rfl, .sl _ _ _ _ _ rfl⟩, ⟨_, rfl, .sl _ _ _ _ _ rfl⟩, ⟨_, rfl, .sl _ _ _ _ _ rfl⟩, ⟨_, rfl, .int _ _⟩, ⟨_, rfl, .ptr _ _ _ rfl⟩, trivial⟩ ⟨bpo (hpl), bpo (byV_plain bw), ⟨by decide, _, rfl, zAi _ _⟩, ⟨by decide, _, rfl, zAd 2 2 (by exact rfl) _⟩, bpo (byV_plain (u :: us)), bpo (zAf (r :: R)), bpo (zAg (r :: R)), bpo (zAe (r :: R)), bpo rfl, trivial⟩ .nil
theorem rbz_111 (l : List A7) (c : Nat) (bw : Bl) (cb i : Nat) (T : List (Bl × Nat)) (en ck : Nat) (f : Nat → Option Value) (hd : ∀ x ∈ l, x.x.ok = true ∧ (bs x.x.n).length ≤ 3000 ∧ (bs x.x.d).length ≤ 3000) (_ : l.length ≤ 40) (hbw : bw.length ≤ 100) (hcb : bw.length ≤ cb ∧ cb ≤ 9223372036854775807) (h1 : i < l.length) (x : RcX) (ask raw : Bool) (a0 : Int) (hx : l[i] = ⟨x, ask, raw, a0⟩) (u : UInt8) (us : Bl) (r : Wu) (R : List Wu) (hbl : us.length + 1 ≤ 60000) (w : UInt8) (ws : Bl) (k : Nat) (hk : pickI a0 (IntKind.i64.wrap ((bw.length : Int) + 1)) = (k : Int)) (hkl : k ≤ bw.length) (hW : bw.take k = (w :: ws)) : CW Try.prog 0 2 (2 + (Try.f9.ntmps - 2)) none (codeAt (loopAt Try.f9 0) [1, 0, 1, 1, 0]) (rbX l c bw cb i T en ck (u :: us) (r :: R) x f) (stepK Try.prog 0 2 (2 + (Try.f9.ntmps - 2)) none (rbX l c bw cb i T en ck (u :: (us ++ w :: ws)) (r :: R) x)) := by
 have hpl : plainL (l.flatMap layA7.g) = true := zAb layA7.g layA7.plain _
 obtain ⟨dom, cell, sub, row, hok, hsh, hdl⟩ := factU hd i h1 hx
 obtain ⟨xn, xt, xc, xw, xd⟩ := x
 have hok : RcX.ok ⟨xn, xt, xc, xw, xd⟩ = true := hok
 have hsh : shortB xn = true := hsh
 have h1s : (Try.prog.types[5]).size = 1 := by kernel_rfl
 have hby : (Try.prog.types[5]).bytes = 1 := by kernel_rfl
 refine zAo tbRb [0, 1] 2 _ none mixed _ _ _ ?_
 refine ifK (fun _ => ?_) (fun h2 => absurd (dom.symm.trans h2) (by decide))
 refine Exists.intro a0 (And.intro (cell 7 (by decide)) ?_)
 refine ifK (fun g => absurd (Nat.eq_of_beq_eq_true g) (by unfold U; omega)) (fun _ => ?_)
 have hkt : (pickI a0 (IntKind.i64.wrap ((bw.length : Int) + 1))).toNat - Int.toNat 0 = k := by rw [hk]; simp
 refine And.intro (by rw [hk]; simp only [inLH, Bool.and_eq_true, decide_eq_true_eq]; exact ⟨⟨⟨by omega, by omega⟩, Nat.ble_eq_true_of_le hcb.1⟩, Nat.ble_eq_true_of_le (by simp; omega)⟩) ?_
 refine Exists.intro ((w :: ws).map byV) (And.intro (by rw [hkt, ← hW]; exact zHv h1s rfl hkl) ?_)
 refine ifK (fun g => absurd (show k = 0 by rw [hkt] at g; exact Nat.eq_of_beq_eq_true g) (fun e => by rw [e] at hW; cases hW)) (fun _ => ?_)
 have hkv : k = ws.length + 1 := by have := congrArg List.length hW; rw [List.length_take, Nat.min_eq_left hkl] at this; exact this
 have hone : oneL ((w :: ws).map byV) = true := oneB _
 refine And.intro (by rw [h1s, hby, hkt]; simp only [Bool.and_eq_true, decide_eq_true_eq]; exact ⟨⟨⟨⟨⟨⟨rfl, rfl⟩, Nat.ble_eq_true_of_le (by simp)⟩, hone⟩, (by omega)⟩, (by omega)⟩, Nat.ble_eq_true_of_le (by simp)⟩) ?_
 have hlen : us.length + 1 + ((pickI a0 (IntKind.i64.wrap ((bw.length : Int) + 1))).toNat - Int.toNat 0) = (us ++ w :: ws).length + 1 := by rw [hkt, hkv]; simp; omega
 have hcells : List.take ((us.length + 1) * (Try.prog.types[5]).size) ((u :: us).map byV) ++ (w :: ws).map byV = (u :: (us ++ w :: ws)).map byV := by rw [h1s, Nat.mul_one, List.take_of_length_le (by simp)]; simp
 exact rcq [2, 3, 9, 5, 6, 7, 8] ⟨⟨_, rfl, .sl _ _ _ _ _ rfl⟩, ⟨_, rfl, .sl _ _ _ _ _ rfl⟩, ⟨_, rfl, .bool _⟩, ⟨_, rfl, .ptr _ _ _ rfl⟩, ⟨_, rfl, by show RV _ (.slice _ (us.length + 1 + ((pickI a0 (IntKind.i64.wrap ((bw.length : Int) + 1))).toNat - Int.toNat 0)) U) _; rw [hlen]; exact .sl _ _ _ _ _ rfl⟩, ⟨_, rfl, .sl _ _ _ _ _ rfl⟩, ⟨_, rfl, .sl _ _ _ _ _ rfl⟩, ⟨_, rfl, .sl _ _ _ _ _ rfl⟩, ⟨_, rfl, .int _ _⟩, ⟨_, rfl, .ptr _ _ _ rfl⟩, trivial⟩ ⟨bpo (hpl), bpo (byV_plain bw), ⟨by decide, _, rfl, zAi _ _⟩, ⟨by decide, _, rfl, zAd 2 2 (by exact rfl) _⟩, ⟨by decide, _, rfl, zBb hcells (byV_plain _)⟩, bpo (zAf (r :: R)), bpo (zAg (r :: R)), bpo (zAe (r :: R)), bpo rfl, trivial⟩ .nil
theorem rbi_11 (l : List A7) (c : Nat) (bw : Bl) (cb i : Nat) (T : List (Bl × Nat)) (en ck : Nat) (f : Nat → Option Value) (hd : ∀ x ∈ l, x.x.ok = true ∧ (bs x.x.n).length ≤ 3000 ∧ (bs x.x.d).length ≤ 3000) (hl40 : l.length ≤ 40) (_ : bw.length ≤ 100) (_ : bw.length ≤ cb ∧ cb ≤ 9223372036854775807) (h1 : i < l.length) (x : RcX) (ask raw : Bool) (a0 : Int) (hx : l[i] = ⟨x, ask, raw, a0⟩) (u : UInt8) (us : Bl) (r : Wu) (R : List Wu) : CW Try.prog 0 2 (2 + (Try.f9.ntmps - 2)) none (codeAt (loopAt Try.f9 0) [1, 1]) (rbE l c bw cb i T en ck (u :: us) (r :: R) f) (stepK Try.prog 0 2 (2 + (Try.f9.ntmps - 2)) none (rbE l c bw cb (i + 1) T en ck (u :: us) (r :: R))) := by
 have hpl : plainL (l.flatMap layA7.g) = true := zAb layA7.g layA7.plain _
 obtain ⟨dom, cell, sub, row, hok, hsh, hdl⟩ := factU hd i h1 hx
 refine zAo tbRb [0] 2 _ none mixed _ _ _ ?_
 exact rcq [2, 3, 4, 5, 6, 7] ⟨⟨_, rfl, .sl _ _ _ _ _ rfl⟩, ⟨_, rfl, .sl _ _ _ _ _ rfl⟩, ⟨_, rfl, .bool _⟩, ⟨_, rfl, .ptr _ _ _ rfl⟩, ⟨_, rfl, .sl _ _ _ _ _ rfl⟩, ⟨_, rfl, .sl _ _ _ _ _ rfl⟩, ⟨_, rfl, .sl _ _ _ _ _ rfl⟩, ⟨_, rfl, .sl _ _ _ _ _ rfl⟩, zAh rfl (by rw [wrapN (by omega) (by omega)]; omega), trivial⟩ ⟨bpo (hpl), bpo (byV_plain bw), ⟨by decide, _, rfl, zAi _ _⟩, ⟨by decide, _, rfl, zAd 2 2 (by exact rfl) _⟩, bpo (byV_plain (u :: us)), bpo (zAf (r :: R)), bpo (zAg (r :: R)), bpo (zAe (r :: R)), trivial⟩ .nil
end Go.Proofs.Ytmpaeabkdhjamaa
namespace Go.Proofs.Ytmpaeabkdhjamaa
open Go Go.RowKit
theorem rbm_00 (l : List A7) (c : Nat) (bw : Bl) (cb i : Nat) (T : List (Bl × Nat)) (en ck : Nat) (f : Nat → Option Value) (hd : ∀ x ∈ l, x.x.ok = true ∧ (bs x.x.n).length ≤ 3000 ∧ (bs x.x.d).length ≤ 3000) (_ : l.length ≤ 40) (_ : bw.length ≤ 100) (_ : bw.length ≤ cb ∧ cb ≤ 9223372036854775807) (h1 : i < l.length) (x : RcX) (ask raw : Bool) (a0 : Int) (hx : l[i] = ⟨x, ask, raw, a0⟩) : CW Try.prog 0 2 (2 + (Try.f9.ntmps - 2)) none (codeAt (loopAt Try.f9 0) [1, 0, 1, 1, 1, 0]) (rbX l c bw cb i T en ck [] [] x f) (stepK Try.prog 0 2 (2 + (Try.f9.ntmps - 2)) none (rbX l c bw cb i T en ck [] [] x)) := by
 have hpl : plainL (l.flatMap layA7.g) = true := zAb layA7.g layA7.plain _
 obtain ⟨dom, cell, sub, row, hok, hsh, hdl⟩ := factU hd i h1 hx
 obtain ⟨xn, xt, xc, xw, xd⟩ := x
 have hok : RcX.ok ⟨xn, xt, xc, xw, xd⟩ = true := hok
 have hsh : shortB xn = true := hsh
 refine zAo tbRb [0] 2 _ none mixed _ _ _ ?_
 exact rcq [2, 3, 4] ⟨⟨_, rfl, .sl _ _ _ _ _ rfl⟩, ⟨_, rfl, .sl _ _ _ _ _ rfl⟩, ⟨_, rfl, .bool _⟩, ⟨_, rfl, .ptr _ _ _ rfl⟩, ⟨_, rfl, zAa 8 rfl⟩, ⟨_, rfl, zAa 8 rfl⟩, ⟨_, rfl, zAa 8 rfl⟩, ⟨_, rfl, zAa 8 rfl⟩, ⟨_, rfl, .int _ _⟩, ⟨_, rfl, .ptr _ _ _ rfl⟩, trivial⟩ ⟨bpo (hpl), bpo (byV_plain bw), ⟨by decide, _, rfl, zAi _ _⟩, ⟨by decide, _, rfl, zAd 2 2 (by exact rfl) _⟩, bpo rfl, trivial⟩ .nil
theorem rbn_00 (l : List A7) (c : Nat) (bw : Bl) (cb i : Nat) (T : List (Bl × Nat)) (en ck : Nat) (f : Nat → Option Value) (hd : ∀ x ∈ l, x.x.ok = true ∧ (bs x.x.n).length ≤ 3000 ∧ (bs x.x.d).length ≤ 3000) (_ : l.length ≤ 40) (_ : bw.length ≤ 100) (_ : bw.length ≤ cb ∧ cb ≤ 9223372036854775807) (h1 : i < l.length) (x : RcX) (ask raw : Bool) (a0 : Int) (hx : l[i] = ⟨x, ask, raw, a0⟩) : CW Try.prog 0 2 (2 + (Try.f9.ntmps - 2)) none (codeAt (loopAt Try.f9 0) [1, 0, 1, 1, 1, 1, 0]) (rbX l c bw cb i T en ck [] [] x f) (stepK Try.prog 0 2 (2 + (Try.f9.ntmps - 2)) none (rbX l c bw cb i T en ck [] [] x)) := by
 have hpl : plainL (l.flatMap layA7.g) = true := zAb layA7.g layA7.plain _
 obtain ⟨dom, cell, sub, row, hok, hsh, hdl⟩ := factU hd i h1 hx
 obtain ⟨xn, xt, xc, xw, xd⟩ := x
 have hok : RcX.ok ⟨xn, xt, xc, xw, xd⟩ = true := hok
 have hsh : shortB xn = true := hsh
 refine zAo tbRb [0] 2 _ none mixed _ _ _ ?_
 exact rcq [2, 3, 4] ⟨⟨_, rfl, .sl _ _ _ _ _ rfl⟩, ⟨_, rfl, .sl _ _ _ _ _ rfl⟩, ⟨_, rfl, .bool _⟩, ⟨_, rfl, .ptr _ _ _ rfl⟩, ⟨_, rfl, zAa 8 rfl⟩, ⟨_, rfl, zAa 8 rfl⟩, ⟨_, rfl, zAa 8 rfl⟩, ⟨_, rfl, zAa 8 rfl⟩, ⟨_, rfl, .int _ _⟩, ⟨_, rfl, .ptr _ _ _ rfl⟩, trivial⟩ ⟨bpo (hpl), bpo (byV_plain bw), ⟨by decide, _, rfl, zAi _ _⟩, ⟨by decide, _, rfl, zAd 2 2 (by exact rfl) _⟩, bpo rfl, trivial⟩ .nil
theorem rbw_000 (l : List A7) (c : Nat) (bw : Bl) (cb i : Nat) (T : List (Bl × Nat)) (en ck : Nat) (f : Nat → Option Value) (hd : ∀ x ∈ l, x.x.ok = true ∧ (bs x.x.n).length ≤ 3000 ∧ (bs x.x.d).length ≤ 3000) (_ : l.length ≤ 40) (_ : bw.length ≤ 100) (_ : bw.length ≤ cb ∧ cb ≤ 9223372036854775807) (h1 : i < l.length) (x : RcX) (raw : Bool) (a0 : Int) (hx : l[i] = ⟨x, false, raw, a0⟩) (v : UInt8) (vs : Bl) (F : List (Bl × Nat)) (en' : Nat) (hg : goodT T) (hD : recD en T 0 x = (0, v :: vs, F, en')) : CW Try.prog 0 2 (2 + (Try.f9.ntmps - 2)) none (codeAt (loopAt Try.f9 0) [1, 0, 1, 1, 1, 1, 1, 0]) (rbX l c bw cb i T en ck [] [] x f) (stepK Try.prog 0 2 (2 + (Try.f9.ntmps - 2)) none (rbF l c bw cb i (T ++ F) en' (ck + F.length) [] [] v vs)) := by
 have hpl : plainL (l.flatMap layA7.g) = true := zAb layA7.g layA7.plain _
 obtain ⟨dom, cell, sub, row, hok, hsh, hdl⟩ := factU hd i h1 hx
 obtain ⟨xn, xt, xc, xw, xd⟩ := x
 have hok : RcX.ok ⟨xn, xt, xc, xw, xd⟩ = true := hok
 have hsh : shortB xn = true := hsh
 refine zAo tbRb [0] 2 _ none mixed _ _ _ ?_
 refine ifK (fun _ => ?_) (fun h2 => absurd (dom.symm.trans h2) (by decide))
 refine Exists.intro false (And.intro (cell 5 (by decide)) ?_)
 refine Exists.intro (⟨3, 2, en, T, ck, (⟨0, ⟨xn, xt, xc, xw, xd⟩⟩ : WrtY), 0, v :: vs, F, en'⟩ : PkY WrtY) (And.intro ⟨rfl, (show Tr.get _ 3 = some (AObj.cells [.map (some 2), .int .i64 (en : Int)] _) from rfl), (show Tr.get _ 2 = some (AObj.map (encT T) ck) from rfl), hg, hok, hD⟩ ?_)
 exact rcq [2, 3, 5] ⟨⟨_, rfl, .sl _ _ _ _ _ rfl⟩, ⟨_, rfl, .sl _ _ _ _ _ rfl⟩, ⟨_, rfl, .bool _⟩, ⟨_, rfl, .ptr _ _ _ rfl⟩, ⟨_, rfl, zAa 8 rfl⟩, ⟨_, rfl, zAa 8 rfl⟩, ⟨_, rfl, zAa 8 rfl⟩, ⟨_, rfl, zAa 8 rfl⟩, ⟨_, rfl, .int _ _⟩, ⟨_, rfl, .sl _ _ _ _ _ rfl⟩, ⟨_, rfl, .int _ _⟩, trivial⟩ ⟨bpo (hpl), bpo (byV_plain bw), ⟨by decide, _, rfl, zAi _ _⟩, ⟨by decide, _, rfl, zAd 2 2 (by exact rfl) _⟩, bpo (byV_plain (v :: vs)), trivial⟩ .nil
theorem rbw_100 (l : List A7) (c : Nat) (bw : Bl) (cb i : Nat) (T : List (Bl × Nat)) (en ck : Nat) (f : Nat → Option Value) (hd : ∀ x ∈ l, x.x.ok = true ∧ (bs x.x.n).length ≤ 3000 ∧ (bs x.x.d).length ≤ 3000) (_ : l.length ≤ 40) (_ : bw.length ≤ 100) (_ : bw.length ≤ cb ∧ cb ≤ 9223372036854775807) (h1 : i < l.length) (x : RcX) (raw : Bool) (a0 : Int) (hx : l[i] = ⟨x, true, raw, a0⟩) (v : UInt8) (vs : Bl) (F : List (Bl × Nat)) (en' : Nat) (hg : goodT T) (hD : askD en T 0 x.n x.t x.c = (0, v :: vs, F, en')) : CW Try.prog 0 2 (2 + (Try.f9.ntmps - 2)) none (codeAt (loopAt Try.f9 0) [1, 0, 1, 1, 1, 1, 1, 0]) (rbX l c bw cb i T en ck [] [] x f) (stepK Try.prog 0 2 (2 + (Try.f9.ntmps - 2)) none (rbF l c bw cb i (T ++ F) en' (ck + F.length) [] [] v vs)) := by
 have hpl : plainL (l.flatMap layA7.g) = true := zAb layA7.g layA7.plain _
 obtain ⟨dom, cell, sub, row, hok, hsh, hdl⟩ := factU hd i h1 hx
 obtain ⟨xn, xt, xc, xw, xd⟩ := x
 have hok : RcX.ok ⟨xn, xt, xc, xw, xd⟩ = true := hok
 have hsh : shortB xn = true := hsh
 refine zAo tbRb [0] 2 _ none mixed _ _ _ ?_
 refine ifK (fun _ => ?_) (fun h2 => absurd (dom.symm.trans h2) (by decide))
 refine Exists.intro true (And.intro (cell 5 (by decide)) ?_)
 refine Exists.intro (⟨3, 2, en, T, ck, (⟨0, xn, xt, xc⟩ : AskY), 0, v :: vs, F, en'⟩ : PkY AskY) (And.intro ⟨rfl, (show Tr.get _ 3 = some (AObj.cells [.map (some 2), .int .i64 (en : Int)] _) from rfl), (show Tr.get _ 2 = some (AObj.map (encT T) ck) from rfl), hg, hsh, hD⟩ ?_)
 exact rcq [2, 3, 5] ⟨⟨_, rfl, .sl _ _ _ _ _ rfl⟩, ⟨_, rfl, .sl _ _ _ _ _ rfl⟩, ⟨_, rfl, .bool _⟩, ⟨_, rfl, .ptr _ _ _ rfl⟩, ⟨_, rfl, zAa 8 rfl⟩, ⟨_, rfl, zAa 8 rfl⟩, ⟨_, rfl, zAa 8 rfl⟩, ⟨_, rfl, zAa 8 rfl⟩, ⟨_, rfl, .int _ _⟩, ⟨_, rfl, .sl _ _ _ _ _ rfl⟩, ⟨_, rfl, .int _ _⟩, trivial⟩ ⟨bpo (hpl), bpo (byV_plain bw), ⟨by decide, _, rfl, zAi _ _⟩, ⟨by decide, _, rfl, zAd 2 2 (by exact rfl) _⟩, bpo (byV_plain (v :: vs)), trivial⟩ .nil
theorem rbu_00 (l : List A7) (c : Nat) (bw : Bl) (cb i : Nat) (T : List (Bl × Nat)) (en ck : Nat) (f : Nat → Option Value) (hd : ∀ x ∈ l, x.x.ok = true ∧ (bs x.x.n).length ≤ 3000 ∧ (bs x.x.d).length ≤ 3000) (_ : l.length ≤ 40) (_ : bw.length ≤ 100) (_ : bw.length ≤ cb ∧ cb ≤ 9223372036854775807) (h1 : i < l.length) (x : RcX) (ask raw : Bool) (a0 : Int) (hx : l[i] = ⟨x, ask, raw, a0⟩) (v : UInt8) (vs : Bl) : CW Try.prog 0 2 (2 + (Try.f9.ntmps - 2)) none (codeAt (loopAt Try.f9 0) [1, 0, 1, 1, 1, 1, 1, 1, 0]) (rbF l c bw cb i T en ck [] [] v vs f) (stepK Try.prog 0 2 (2 + (Try.f9.ntmps - 2)) none (rbF l c bw cb i T en ck [] [] v vs)) := by
 have hpl : plainL (l.flatMap layA7.g) = true := zAb layA7.g layA7.plain _
 obtain ⟨dom, cell, sub, row, hok, hsh, hdl⟩ := factU hd i h1 hx
 refine zAo tbRb [0] 2 _ none mixed _ _ _ ?_
 exact rcq [2, 3, 4] ⟨⟨_, rfl, .sl _ _ _ _ _ rfl⟩, ⟨_, rfl, .sl _ _ _ _ _ rfl⟩, ⟨_, rfl, .bool _⟩, ⟨_, rfl, .ptr _ _ _ rfl⟩, ⟨_, rfl, zAa 8 rfl⟩, ⟨_, rfl, zAa 8 rfl⟩, ⟨_, rfl, zAa 8 rfl⟩, ⟨_, rfl, zAa 8 rfl⟩, ⟨_, rfl, .int _ _⟩, ⟨_, rfl, .sl _ _ _ _ _ rfl⟩, ⟨_, rfl, .int _ _⟩, trivial⟩ ⟨bpo (hpl), bpo (byV_plain bw), ⟨by decide, _, rfl, zAi _ _⟩, ⟨by decide, _, rfl, zAd 2 2 (by exact rfl) _⟩, bpo (byV_plain (v :: vs)), trivial⟩ .nil
theorem rbs_00 (l : List A7) (c : Nat) (bw : Bl) (cb i : Nat) (T : List (Bl × Nat)) (en ck : Nat) (f : Nat → Option Value) (hd : ∀ x ∈ l, x.x.ok = true ∧ (bs x.x.n).length ≤ 3000 ∧ (bs x.x.d).length ≤ 3000) (_ : l.length ≤ 40) (_ : bw.length ≤ 100) (_ : bw.length ≤ cb ∧ cb ≤ 9223372036854775807) (h1 : i < l.length) (x : RcX) (ask raw : Bool) (a0 : Int) (hx : l[i] = ⟨x, ask, raw, a0⟩) (v : UInt8) (vs : Bl) (hvs : vs.length + 1 ≤ 70000) : CW Try.prog 0 2 (2 + (Try.f9.ntmps - 2)) none (codeAt (loopAt Try.f9 0) [1, 0, 1, 1, 1, 1, 1, 1, 1]) (rbF l c bw cb i T en ck [] [] v vs f) (stepK Try.prog 0 2 (2 + (Try.f9.ntmps - 2)) none (rbE l c bw cb i T en ck (v :: vs) [(0, vs.length + 1, (⟨x, ask, raw, a0⟩ : A7))])) := by
 have hpl : plainL (l.flatMap layA7.g) = true := zAb layA7.g layA7.plain _
 obtain ⟨dom, cell, sub, row, hok, hsh, hdl⟩ := factU hd i h1 hx
 obtain ⟨xn, xt, xc, xw, xd⟩ := x
 have hok : RcX.ok ⟨xn, xt, xc, xw, xd⟩ = true := hok
 have hsh : shortB xn = true := hsh
 have h1s : (Try.prog.types[5]).size = 1 := by kernel_rfl
 have hby : (Try.prog.types[5]).bytes = 1 := by kernel_rfl
 have i1s : (Try.prog.types[3]).size = 1 := by kernel_rfl
 have i8s : (Try.prog.types[3]).bytes = 8 := by kernel_rfl
 have hsz : (Try.prog.types[41]).size = 8 := by kernel_rfl
 have hab : (Try.prog.types[41]).bytes ≤ 1000 := Nat.le_of_ble_eq_true (by kernel_rfl)
 refine zAo tbRb [0, 4] 2 _ none mixed _ _ _ ?_
 refine Exists.intro ((v :: vs).map byV) (And.intro (zKn (l := v :: vs) h1s rfl) ?_)
 have hone : oneL ((v :: vs).map byV) = true := oneB _
 refine And.intro (by rw [hby]; simp only [Bool.and_eq_true]; exact ⟨decide_eq_true (by omega), decide_eq_true (by omega)⟩) ?_
 refine ifK (fun _ => ?_) (fun h2 => absurd (dom.symm.trans h2) (by decide))
 refine Exists.intro xn (Exists.intro xt (Exists.intro xc (Exists.intro xw (Exists.intro xd (Exists.intro ask (Exists.intro raw (Exists.intro a0 (And.intro row ?_))))))))
 exact rcq [2, 3, 7, 6, 9, 11] ⟨⟨_, rfl, .sl _ _ _ _ _ rfl⟩, ⟨_, rfl, .sl _ _ _ _ _ rfl⟩, ⟨_, rfl, .bool _⟩, ⟨_, rfl, .ptr _ _ _ rfl⟩, ⟨_, rfl, .sl _ _ _ _ _ rfl⟩, ⟨_, rfl, .sl _ _ _ _ _ rfl⟩, ⟨_, rfl, .sl _ _ _ _ _ rfl⟩, ⟨_, rfl, .sl _ _ _ _ _ rfl⟩, ⟨_, rfl, .int _ _⟩, trivial⟩ ⟨bpo (hpl), bpo (byV_plain bw), ⟨by decide, _, rfl, zAi _ _⟩, ⟨by decide, _, rfl, zAd 2 2 (by exact rfl) _⟩, ⟨by decide, _, rfl, zBb rfl (byV_plain _)⟩, ⟨by decide, _, rfl, zBb rfl (zAf _)⟩, ⟨by decide, _, rfl, zBb rfl (zAg _)⟩, ⟨by decide, _, rfl, zBb rfl (zAe _)⟩, trivial⟩ .nil
theorem rbm_01 (l : List A7) (c : Nat) (bw : Bl) (cb i : Nat) (T : List (Bl × Nat)) (en ck : Nat) (f : Nat → Option Value) (hd : ∀ x ∈ l, x.x.ok = true ∧ (bs x.x.n).length ≤ 3000 ∧ (bs x.x.d).length ≤ 3000) (_ : l.length ≤ 40) (_ : bw.length ≤ 100) (_ : bw.length ≤ cb ∧ cb ≤ 9223372036854775807) (h1 : i < l.length) (x : RcX) (ask raw : Bool) (a0 : Int) (hx : l[i] = ⟨x, ask, raw, a0⟩) (r : Wu) (R : List Wu) : CW Try.prog 0 2 (2 + (Try.f9.ntmps - 2)) none (codeAt (loopAt Try.f9 0) [1, 0, 1, 1, 1, 0]) (rbX l c bw cb i T en ck [] (r :: R) x f) (stepK Try.prog 0 2 (2 + (Try.f9.ntmps - 2)) none (rbX l c bw cb i T en ck [] (r :: R) x)) := by
 have hpl : plainL (l.flatMap layA7.g) = true := zAb layA7.g layA7.plain _
 obtain ⟨dom, cell, sub, row, hok, hsh, hdl⟩ := factU hd i h1 hx
 obtain ⟨xn, xt, xc, xw, xd⟩ := x
 have hok : RcX.ok ⟨xn, xt, xc, xw, xd⟩ = true := hok
 have hsh : shortB xn = true := hsh
 refine zAo tbRb [0] 2 _ none mixed _ _ _ ?_
 exact rcq [2, 3, 4, 5, 6, 7] ⟨⟨_, rfl, .sl _ _ _ _ _ rfl⟩, ⟨_, rfl, .sl _ _ _ _ _ rfl⟩, ⟨_, rfl, .bool _⟩, ⟨_, rfl, .ptr _ _ _ rfl⟩, ⟨_, rfl, zAa 8 rfl⟩, ⟨_, rfl, .sl _ _ _ _ _ rfl⟩, ⟨_, rfl, .sl _ _ _ _ _ rfl⟩, ⟨_, rfl, .sl _ _ _ _ _ rfl⟩, ⟨_, rfl, .int _ _⟩, ⟨_, rfl, .ptr _ _ _ rfl⟩, trivial⟩ ⟨bpo (hpl), bpo (byV_plain bw), ⟨by decide, _, rfl, zAi _ _⟩, ⟨by decide, _, rfl, zAd 2 2 (by exact rfl) _⟩, bpo (zAf (r :: R)), bpo (zAg (r :: R)), bpo (zAe (r :: R)), bpo rfl, trivial⟩ .nil
theorem rbn_01 (l : List A7) (c : Nat) (bw : Bl) (cb i : Nat) (T : List (Bl × Nat)) (en ck : Nat) (f : Nat → Option Value) (hd : ∀ x ∈ l, x.x.ok = true ∧ (bs x.x.n).length ≤ 3000 ∧ (bs x.x.d).length ≤ 3000) (_ : l.length ≤ 40) (_ : bw.length ≤ 100) (_ : bw.length ≤ cb ∧ cb ≤ 9223372036854775807) (h1 : i < l.length) (x : RcX) (ask raw : Bool) (a0 : Int) (hx : l[i] = ⟨x, ask, raw, a0⟩) (r : Wu) (R : List Wu) : CW Try.prog 0 2 (2 + (Try.f9.ntmps - 2)) none (codeAt (loopAt Try.f9 0) [1, 0, 1, 1, 1, 1, 0]) (rbX l c bw cb i T en ck [] (r :: R) x f) (stepK Try.prog 0 2 (2 + (Try.f9.ntmps - 2)) none (rbX l c bw cb i T en ck [] (r :: R) x)) := by
 have hpl : plainL (l.flatMap layA7.g) = true := zAb layA7.g layA7.plain _
 obtain ⟨dom, cell, sub, row, hok, hsh, hdl⟩ := factU hd i h1 hx
 obtain ⟨xn, xt, xc, xw, xd⟩ := x
 have hok : RcX.ok ⟨xn, xt, xc, xw, xd⟩ = true := hok
 have hsh : shortB xn = true := hsh
 refine zAo tbRb [0] 2 _ none mixed _ _ _ ?_
 exact rcq [2, 3, 4, 5, 6, 7] ⟨⟨_, rfl, .sl _ _ _ _ _ rfl⟩, ⟨_, rfl, .sl _ _ _ _ _ rfl⟩, ⟨_, rfl, .bool _⟩, ⟨_, rfl, .ptr _ _ _ rfl⟩, ⟨_, rfl, zAa 8 rfl⟩, ⟨_, rfl, .sl _ _ _ _ _ rfl⟩, ⟨_, rfl, .sl _ _ _ _ _ rfl⟩, ⟨_, rfl, .sl _ _ _ _ _ rfl⟩, ⟨_, rfl, .int _ _⟩, ⟨_, rfl, .ptr _ _ _ rfl⟩, trivial⟩ ⟨bpo (hpl), bpo (byV_plain bw), ⟨by decide, _, rfl, zAi _ _⟩, ⟨by decide, _, rfl, zAd 2 2 (by exact rfl) _⟩, bpo (zAf (r :: R)), bpo (zAg (r :: R)), bpo (zAe (r :: R)), bpo rfl, trivial⟩ .nil
theorem rbw_001 (l : List A7) (c : Nat) (bw : Bl) (cb i : Nat) (T : List (Bl × Nat)) (en ck : Nat) (f : Nat → Option Value) (hd : ∀ x ∈ l, x.x.ok = true ∧ (bs x.x.n).length ≤ 3000 ∧ (bs x.x.d).length ≤ 3000) (_ : l.length ≤ 40) (_ : bw.length ≤ 100) (_ : bw.length ≤ cb ∧ cb ≤ 9223372036854775807) (h1 : i < l.length) (x : RcX) (raw : Bool) (a0 : Int) (hx : l[i] = ⟨x, false, raw, a0⟩) (r : Wu) (R : List Wu) (v : UInt8) (vs : Bl) (F : List (Bl × Nat)) (en' : Nat) (hg : goodT T) (hD : recD en T 0 x = (0, v :: vs, F, en')) : CW Try.prog 0 2 (2 + (Try.f9.ntmps - 2)) none (codeAt (loopAt Try.f9 0) [1, 0, 1, 1, 1, 1, 1, 0]) (rbX l c bw cb i T en ck [] (r :: R) x f) (stepK Try.prog 0 2 (2 + (Try.f9.ntmps - 2)) none (rbF l c bw cb i (T ++ F) en' (ck + F.length) [] (r :: R) v vs)) := by
 have hpl : plainL (l.flatMap layA7.g) = true := zAb layA7.g layA7.plain _
 obtain ⟨dom, cell, sub, row, hok, hsh, hdl⟩ := factU hd i h1 hx
 obtain ⟨xn, xt, xc, xw, xd⟩ := x
 have hok : RcX.ok ⟨xn, xt, xc, xw, xd⟩ = true := hok
 have hsh : shortB xn = true := hsh
 refine zAo tbRb [0] 2 _ none mixed _ _ _ ?_
 refine ifK (fun _ => ?_) (fun h2 => absurd (dom.symm.trans h2) (by decide))
 refine Exists.intro false (And.intro (cell 5 (by decide)) ?_)
 refine Exists.intro (⟨3, 2, en, T, ck, (⟨0, ⟨xn, xt, xc, xw, xd⟩⟩ : WrtY), 0, v :: vs, F, en'⟩ : PkY WrtY) (And.intro ⟨rfl, (show Tr.get _ 3 = some (AObj.cells [.map (some 2), .int .i64 (en : Int)] _) from rfl), (show Tr.get _ 2 = some (AObj.map (encT T) ck) from rfl), hg, hok, hD⟩ ?_)
 exact rcq [2, 3, 4, 5, 6, 8] ⟨⟨_, rfl, .sl _ _ _ _ _ rfl⟩, ⟨_, rfl, .sl _ _ _ _ _ rfl⟩, ⟨_, rfl, .bool _⟩, ⟨_, rfl, .ptr _ _ _ rfl⟩, ⟨_, rfl, zAa 8 rfl⟩, ⟨_, rfl, .sl _ _ _ _ _ rfl⟩, ⟨_, rfl, .sl _ _ _ _ _ rfl⟩, ⟨_, rfl, .sl _ _ _ _ _ rfl⟩, ⟨_, rfl, .int _ _⟩, ⟨_, rfl, .sl _ _ _ _ _ rfl⟩, ⟨_, rfl, .int _ _⟩, trivial⟩ ⟨bpo (hpl), bpo (byV_plain bw), ⟨by decide, _, rfl, zAi _ _⟩, ⟨by decide, _, rfl, zAd 2 2 (by exact rfl) _⟩, bpo (zAf (r :: R)), bpo (zAg (r :: R)), bpo (zAe (r :: R)), bpo (byV_plain (v :: vs)), trivial⟩ .nil
theorem rbw_101 (l : List A7) (c : Nat) (bw : Bl) (cb i : Nat) (T : List (Bl × Nat)) (en ck : Nat) (f : Nat → Option Value) (hd : ∀ x ∈ l, x.x.ok = true ∧ (bs x.x.n).length ≤ 3000 ∧ (bs x.x.d).length ≤ 3000) (_ : l.length ≤ 40) (_ : bw.length ≤ 100) (_ : bw.length ≤ cb ∧ cb ≤ 9223372036854775807) (h1 : i < l.length) (x : RcX) (raw : Bool) (a0 : Int) (hx : l[i] = ⟨x, true, raw, a0⟩) (r : Wu) (R : List Wu) (v : UInt8) (vs : Bl) (F : List (Bl × Nat)) (en' : Nat) (hg : goodT T) (hD : askD en T 0 x.n x.t x.c = (0, v :: vs, F, en')) : CW Try.prog 0 2 (2 + (Try.f9.ntmps - 2)) none (codeAt (loopAt Try.f9 0) [1, 0, 1, 1, 1, 1, 1, 0]) (rbX l c bw cb i T en ck [] (r :: R) x f) (stepK Try.prog 0 2 (2 + (Try.f9.ntmps - 2)) none (rbF l c bw cb i (T ++ F) en' (ck + F.length) [] (r :: R) v vs)) := by
 have hpl : plainL (l.flatMap layA7.g) = true := zAb layA7.g layA7.plain _
 obtain ⟨dom, cell, sub, row, hok, hsh, hdl⟩ := factU hd i h1 hx
 obtain ⟨xn, xt, xc, xw, xd⟩ := x
 have hok : RcX.ok ⟨xn, xt, xc, xw, xd⟩ = true := hok
 have hsh : shortB xn = true := hsh
 refine zAo tbRb [0] 2 _ none mixed _ _ _ ?_
 refine ifK (fun _ => ?_) (fun h2 => absurd (dom.symm.trans h2) (by decide))
 refine Exists.intro true (And.intro (cell 5 (by decide)) ?_)
 refine Exists.intro (⟨3, 2, en, T, ck, (⟨0, xn, xt, xc⟩ : AskY), 0, v :: vs, F, en'⟩ : PkY AskY) (And.intro ⟨rfl, (show Tr.get _ 3 = some (AObj.cells [.map (some 2), .int .i64 (en : Int)] _) from rfl), (show Tr.get _ 2 = some (AObj.map (encT T) ck) from rfl), hg, hsh, hD⟩ ?_)
 exact rcq [2, 3, 4, 5, 6, 8] ⟨⟨_, rfl, .sl _ _ _ _ _ rfl⟩, ⟨_, rfl, .sl _ _ _ _ _ rfl⟩, ⟨_, rfl, .bool _⟩, ⟨_, rfl, .ptr _ _ _ rfl⟩, ⟨_, rfl, zAa 8 rfl⟩, ⟨_, rfl, .sl _ _ _ _ _ rfl⟩, ⟨_, rfl, .sl _ _ _ _ _ rfl⟩, ⟨_, rfl, .sl _ _ _ _ _ rfl⟩, ⟨_, rfl, .int _ _⟩, ⟨_, rfl, .sl _ _ _ _ _ rfl⟩, ⟨_, rfl, .int _ _⟩, trivial⟩ ⟨bpo (hpl), bpo (byV_plain bw), ⟨by decide, _, rfl, zAi _ _⟩, ⟨by decide, _, rfl, zAd 2 2 (by exact rfl) _⟩, bpo (zAf (r :: R)), bpo (zAg (r :: R)), bpo (zAe (r :: R)), bpo (byV_plain (v :: vs)), trivial⟩ .nil
theorem rbu_01 (l : List A7) (c : Nat) (bw : Bl) (cb i : Nat) (T : List (Bl × Nat)) (en ck : Nat) (f : Nat → Option Value) (hd : ∀ x ∈ l, x.x.ok = true ∧ (bs x.x.n).length ≤ 3000 ∧ (bs x.x.d).length ≤ 3000) (_ : l.length ≤ 40) (_ : bw.length ≤ 100) (_ : bw.length ≤ cb ∧ cb ≤ 9223372036854775807) (h1 : i < l.length) (x : RcX) (ask raw : Bool) (a0 : Int) (hx : l[i] = ⟨x, ask, raw, a0⟩) (r : Wu) (R : List Wu) (v : UInt8) (vs : Bl) : CW Try.prog 0 2 (2 + (Try.f9.ntmps - 2)) none (codeAt (loopAt Try.f9 0) [1, 0, 1, 1, 1, 1, 1, 1, 0]) (rbF l c bw cb i T en ck [] (r :: R) v vs f) (stepK Try.prog 0 2 (2 + (Try.f9.ntmps - 2)) none (rbF l c bw cb i T en ck [] (r :: R) v vs)) := by
 have hpl : plainL (l.flatMap layA7.g) = true := zAb layA7.g layA7.plain _
 obtain ⟨dom, cell, sub, row, hok, hsh, hdl⟩ := factU hd i h1 hx
 refine zAo tbRb [0] 2 _ none mixed _ _ _ ?_
 exact rcq [2, 3, 4, 5, 6, 7] ⟨⟨_, rfl, .sl _ _ _ _ _ rfl⟩, ⟨_, rfl, .sl _ _ _ _ _ rfl⟩, ⟨_, rfl, .bool _⟩, ⟨_, rfl, .ptr _ _ _ rfl⟩, ⟨_, rfl, zAa 8 rfl⟩, ⟨_, rfl, .sl _ _ _ _ _ rfl⟩, ⟨_, rfl, .sl _ _ _ _ _ rfl⟩, ⟨_, rfl, .sl _ _ _ _ _ rfl⟩, ⟨_, rfl, .int _ _⟩, ⟨_, rfl, .sl _ _ _ _ _ rfl⟩, ⟨_, rfl, .int _ _⟩, trivial⟩ ⟨bpo (hpl), bpo (byV_plain bw), ⟨by decide, _, rfl, zAi _ _⟩, ⟨by decide, _, rfl, zAd 2 2 (by exact rfl) _⟩, bpo (zAf (r :: R)), bpo (zAg (r :: R)), bpo (zAe (r :: R)), bpo (byV_plain (v :: vs)), trivial⟩ .nil
theorem rbs_01 (l : List A7) (c : Nat) (bw : Bl) (cb i : Nat) (T : List (Bl × Nat)) (en ck : Nat) (f : Nat → Option Value) (hd : ∀ x ∈ l, x.x.ok = true ∧ (bs x.x.n).length ≤ 3000 ∧ (bs x.x.d).length ≤ 3000) (_ : l.length ≤ 40) (_ : bw.length ≤ 100) (_ : bw.length ≤ cb ∧ cb ≤ 9223372036854775807) (h1 : i < l.length) (x : RcX) (ask raw : Bool) (a0 : Int) (hx : l[i] = ⟨x, ask, raw, a0⟩) (r : Wu) (R : List Wu) (v : UInt8) (vs : Bl) (hvs : vs.length + 1 ≤ 70000) (hRl : R.length ≤ 40) : CW Try.prog 0 2 (2 + (Try.f9.ntmps - 2)) none (codeAt (loopAt Try.f9 0) [1, 0, 1, 1, 1, 1, 1, 1, 1]) (rbF l c bw cb i T en ck [] (r :: R) v vs f) (stepK Try.prog 0 2 (2 + (Try.f9.ntmps - 2)) none (rbE l c bw cb i T en ck (v :: vs) (r :: (R ++ [(0, vs.length + 1, (⟨x, ask, raw, a0⟩ : A7))])))) := by
 have hpl : plainL (l.flatMap layA7.g) = true := zAb layA7.g layA7.plain _
 obtain ⟨dom, cell, sub, row, hok, hsh, hdl⟩ := factU hd i h1 hx
 obtain ⟨xn, xt, xc, xw, xd⟩ := x
 have hok : RcX.ok ⟨xn, xt, xc, xw, xd⟩ = true := hok
 have hsh : shortB xn = true := hsh
 have h1s : (Try.prog.types[5]).size = 1 := by kernel_rfl
 have hby : (Try.prog.types[5]).bytes = 1 := by kernel_rfl
 have i1s : (Try.prog.types[3]).size = 1 := by kernel_rfl
 have i8s : (Try.prog.types[3]).bytes = 8 := by kernel_rfl
 have hsz : (Try.prog.types[41]).size = 8 := by kernel_rfl
 have hab : (Try.prog.types[41]).bytes ≤ 1000 := Nat.le_of_ble_eq_true (by kernel_rfl)
 refine zAo tbRb [0, 7] 2 _ none mixed _ _ _ ?_
 refine And.intro (by rw [i1s, i8s]; simp only [Bool.and_eq_true, decide_eq_true_eq]; exact ⟨⟨⟨⟨⟨⟨rfl, rfl⟩, Nat.ble_eq_true_of_le (by simp)⟩, rfl⟩, (by omega)⟩, (by omega)⟩, Nat.ble_eq_true_of_le (by simp)⟩) ?_
 refine Exists.intro ((v :: vs).map byV) (And.intro (zKn (l := v :: vs) h1s rfl) ?_)
 have hone : oneL ((v :: vs).map byV) = true := oneB _
 refine And.intro (by rw [hby]; simp only [Bool.and_eq_true]; exact ⟨decide_eq_true (by omega), decide_eq_true (by omega)⟩) ?_
 refine And.intro (by rw [i1s, i8s]; simp only [Bool.and_eq_true, decide_eq_true_eq]; exact ⟨⟨⟨⟨⟨⟨rfl, rfl⟩, Nat.ble_eq_true_of_le (by simp)⟩, rfl⟩, (by omega)⟩, (by omega)⟩, Nat.ble_eq_true_of_le (by simp)⟩) ?_
 refine ifK (fun _ => ?_) (fun h2 => absurd (dom.symm.trans h2) (by decide))
 refine Exists.intro xn (Exists.intro xt (Exists.intro xc (Exists.intro xw (Exists.intro xd (Exists.intro ask (Exists.intro raw (Exists.intro a0 (And.intro row ?_))))))))
 have hfl : ((r :: R).flatMap acU).length = (R.length + 1) * 8 := zQv (r :: R)
 have hml : (R.length + 1 + 1) * (Try.prog.types[41]).bytes ≤ 140737488355328 := Nat.le_trans (Nat.mul_le_mul (show R.length + 1 + 1 ≤ 42 by omega) hab) (by decide)
 refine And.intro (by rw [hsz]; simp only [Bool.and_eq_true, decide_eq_true_eq]; exact ⟨⟨⟨⟨⟨⟨rfl, rfl⟩, Nat.ble_eq_true_of_le (by rw [hfl]; exact Nat.le_refl _)⟩, rfl⟩, hml⟩, (by omega)⟩, Nat.ble_eq_true_of_le (by rw [hfl]; simp)⟩) ?_
 have hlenR : R.length + 1 + 1 = (R ++ [(0, vs.length + 1, (⟨⟨xn, xt, xc, xw, xd⟩, ask, raw, a0⟩ : A7))]).length + 1 := by simp
 have hat : List.take ((R.length + 1) * (Try.prog.types[3]).size) ((r :: R).map atU) ++ [atU (0, vs.length + 1, (⟨⟨xn, xt, xc, xw, xd⟩, ask, raw, a0⟩ : A7))] = (r :: (R ++ [(0, vs.length + 1, (⟨⟨xn, xt, xc, xw, xd⟩, ask, raw, a0⟩ : A7))])).map atU := by rw [i1s, Nat.mul_one, List.take_of_length_le (by simp)]; simp
 have hst : List.take ((R.length + 1) * (Try.prog.types[3]).size) ((r :: R).map enU) ++ [enU (0, vs.length + 1, (⟨⟨xn, xt, xc, xw, xd⟩, ask, raw, a0⟩ : A7))] = (r :: (R ++ [(0, vs.length + 1, (⟨⟨xn, xt, xc, xw, xd⟩, ask, raw, a0⟩ : A7))])).map enU := by rw [i1s, Nat.mul_one, List.take_of_length_le (by simp)]; simp
 have hct : List.take ((R.length + 1) * (Try.prog.types[41]).size) ((r :: R).flatMap acU) ++ acU (0, vs.length + 1, (⟨⟨xn, xt, xc, xw, xd⟩, ask, raw, a0⟩ : A7)) = (r :: (R ++ [(0, vs.length + 1, (⟨⟨xn, xt, xc, xw, xd⟩, ask, raw, a0⟩ : A7))])).flatMap acU := by rw [hsz, List.take_of_length_le (by rw [hfl]; exact Nat.le_refl _)]; simp
 exact rcq [2, 3, 10, 9, 12, 14] ⟨⟨_, rfl, .sl _ _ _ _ _ rfl⟩, ⟨_, rfl, .sl _ _ _ _ _ rfl⟩, ⟨_, rfl, .bool _⟩, ⟨_, rfl, .ptr _ _ _ rfl⟩, ⟨_, rfl, .sl _ _ _ _ _ rfl⟩, ⟨_, rfl, by show RV _ (.slice _ (R.length + 1 + 1) U) _; rw [hlenR]; exact .sl _ _ _ _ _ rfl⟩, ⟨_, rfl, by show RV _ (.slice _ (R.length + 1 + 1) U) _; rw [hlenR]; exact .sl _ _ _ _ _ rfl⟩, ⟨_, rfl, by show RV _ (.slice _ (R.length + 1 + 1) U) _; rw [hlenR]; exact .sl _ _ _ _ _ rfl⟩, ⟨_, rfl, .int _ _⟩, trivial⟩ ⟨bpo (hpl), bpo (byV_plain bw), ⟨by decide, _, rfl, zAi _ _⟩, ⟨by decide, _, rfl, zAd 2 2 (by exact rfl) _⟩, ⟨by decide, _, rfl, zBb rfl (byV_plain _)⟩, ⟨by decide, _, rfl, zBb hat (zAf _)⟩, ⟨by decide, _, rfl, zBb hst (zAg _)⟩, ⟨by decide, _, rfl, zBb hct (zAe _)⟩, trivial⟩ .nil
theorem rbm_10 (l : List A7) (c : Nat) (bw : Bl) (cb i : Nat) (T : List (Bl × Nat)) (en ck : Nat) (f : Nat → Option Value) (hd : ∀ x ∈ l, x.x.ok = true ∧ (bs x.x.n).length ≤ 3000 ∧ (bs x.x.d).length ≤ 3000) (_ : l.length ≤ 40) (_ : bw.length ≤ 100) (_ : bw.length ≤ cb ∧ cb ≤ 9223372036854775807) (h1 : i < l.length) (x : RcX) (ask raw : Bool) (a0 : Int) (hx : l[i] = ⟨x, ask, raw, a0⟩) (u : UInt8) (us : Bl) : CW Try.prog 0 2 (2 + (Try.f9.ntmps - 2)) none (codeAt (loopAt Try.f9 0) [1, 0, 1, 1, 1, 0]) (rbX l c bw cb i T en ck (u :: us) [] x f) (stepK Try.prog 0 2 (2 + (Try.f9.ntmps - 2)) none (rbX l c bw cb i T en ck (u :: us) [] x)) := by
 have hpl : plainL (l.flatMap layA7.g) = true := zAb layA7.g layA7.plain _
 obtain ⟨dom, cell, sub, row, hok, hsh, hdl⟩ := factU hd i h1 hx
 obtain ⟨xn, xt, xc, xw, xd⟩ := x
 have hok : RcX.ok ⟨xn, xt, xc, xw, xd⟩ = true := hok
 have hsh : shortB xn = true := hsh
 refine zAo tbRb [0] 2 _ none mixed _ _ _ ?_
 exact rcq [2, 3, 4, 5] ⟨⟨_, rfl, .sl _ _ _ _ _ rfl⟩, ⟨_, rfl, .sl _ _ _ _ _ rfl⟩, ⟨_, rfl, .bool _⟩, ⟨_, rfl, .ptr _ _ _ rfl⟩, ⟨_, rfl, .sl _ _ _ _ _ rfl⟩, ⟨_, rfl, zAa 8 rfl⟩, ⟨_, rfl, zAa 8 rfl⟩, ⟨_, rfl, zAa 8 rfl⟩, ⟨_, rfl, .int _ _⟩, ⟨_, rfl, .ptr _ _ _ rfl⟩, trivial⟩ ⟨bpo (hpl), bpo (byV_plain bw), ⟨by decide, _, rfl, zAi _ _⟩, ⟨by decide, _, rfl, zAd 2 2 (by exact rfl) _⟩, bpo (byV_plain (u :: us)), bpo rfl, trivial⟩ .nil
theorem rbn_10 (l : List A7) (c : Nat) (bw : Bl) (cb i : Nat) (T : List (Bl × Nat)) (en ck : Nat) (f : Nat → Option Value) (hd : ∀ x ∈ l, x.x.ok = true ∧ (bs x.x.n).length ≤ 3000 ∧ (bs x.x.d).length ≤ 3000) (_ : l.length ≤ 40) (_ : bw.length ≤ 100) (_ : bw.length ≤ cb ∧ cb ≤ 9223372036854775807) (h1 : i < l.length) (x : RcX) (ask raw : Bool) (a0 : Int) (hx : l[i] = ⟨x, ask, raw, a0⟩) (u : UInt8) (us : Bl) : CW Try.prog 0 2 (2 + (Try.f9.ntmps - 2)) none (codeAt (loopAt Try.f9 0) [1, 0, 1, 1, 1, 1, 0]) (rbX l c bw cb i T en ck (u :: us) [] x f) (stepK Try.prog 0 2 (2 + (Try.f9.ntmps - 2)) none (rbX l c bw cb i T en ck (u :: us) [] x)) := by
 have hpl : plainL (l.flatMap layA7.g) = true := zAb layA7.g layA7.plain _
 obtain ⟨dom, cell, sub, row, hok, hsh, hdl⟩ := factU hd i h1 hx
 obtain ⟨xn, xt, xc, xw, xd⟩ := x
 have hok : RcX.ok ⟨xn, xt, xc, xw, xd⟩ = true := hok
 have hsh : shortB xn = true := hsh
 refine zAo tbRb [0] 2 _ none mixed _ _ _ ?_
 exact rcq [2, 3, 4, 5] ⟨⟨_, rfl, .sl _ _ _ _ _ rfl⟩, ⟨_, rfl, .sl _ _ _ _ _ rfl⟩, ⟨_, rfl, .bool _⟩, ⟨_, rfl, .ptr _ _ _ rfl⟩, ⟨_, rfl, .sl _ _ _ _ _ rfl⟩, ⟨_, rfl, zAa 8 rfl⟩, ⟨_, rfl, zAa 8 rfl⟩, ⟨_, rfl, zAa 8 rfl⟩, ⟨_, rfl, .int _ _⟩, ⟨_, rfl, .ptr _ _ _ rfl⟩, trivial⟩ ⟨bpo (hpl), bpo (byV_plain bw), ⟨by decide, _, rfl, zAi _ _⟩, ⟨by decide, _, rfl, zAd 2 2 (by exact rfl) _⟩, bpo (byV_plain (u :: us)), bpo rfl, trivial⟩ .nil
theorem rbw_010 (l : List A7) (c : Nat) (bw : Bl) (cb i : Nat) (T : List (Bl × Nat)) (en ck : Nat) (f : Nat → Option Value) (hd : ∀ x ∈ l, x.x.ok = true ∧ (bs x.x.n).length ≤ 3000 ∧ (bs x.x.d).length ≤ 3000) (_ : l.length ≤ 40) (_ : bw.length ≤ 100) (_ : bw.length ≤ cb ∧ cb ≤ 9223372036854775807) (h1 : i < l.length) (x : RcX) (raw : Bool) (a0 : Int) (hx : l[i] = ⟨x, false, raw, a0⟩) (u : UInt8) (us : Bl) (v : UInt8) (vs : Bl) (F : List (Bl × Nat)) (en' : Nat) (hg : goodT T) (hD : recD en T ((us.length + 1 : Nat) : Int) x = (0, v :: vs, F, en')) : CW Try.prog 0 2 (2 + (Try.f9.ntmps - 2)) none (codeAt (loopAt Try.f9 0) [1, 0, 1, 1, 1, 1, 1, 0]) (rbX l c bw cb i T en ck (u :: us) [] x f) (stepK Try.prog 0 2 (2 + (Try.f9.ntmps - 2)) none (rbF l c bw cb i (T ++ F) en' (ck + F.length) (u :: us) [] v vs)) := by
 have hpl : plainL (l.flatMap layA7.g) = true := zAb layA7.g layA7.plain _
 obtain ⟨dom, cell, sub, row, hok, hsh, hdl⟩ := factU hd i h1 hx
 obtain ⟨xn, xt, xc, xw, xd⟩ := x
 have hok : RcX.ok ⟨xn, xt, xc, xw, xd⟩ = true := hok
 have hsh : shortB xn = true := hsh
 refine zAo tbRb [0] 2 _ none mixed _ _ _ ?_
 refine ifK (fun _ => ?_) (fun h2 => absurd (dom.symm.trans h2) (by decide))
 refine Exists.intro false (And.intro (cell 5 (by decide)) ?_)
 refine Exists.intro (⟨3, 2, en, T, ck, (⟨((us.length + 1 : Nat) : Int), ⟨xn, xt, xc, xw, xd⟩⟩ : WrtY), 0, v :: vs, F, en'⟩ : PkY WrtY) (And.intro ⟨rfl, (show Tr.get _ 3 = some (AObj.cells [.map (some 2), .int .i64 (en : Int)] _) from rfl), (show Tr.get _ 2 = some (AObj.map (encT T) ck) from rfl), hg, hok, hD⟩ ?_)
 exact rcq [2, 3, 4, 6] ⟨⟨_, rfl, .sl _ _ _ _ _ rfl⟩, ⟨_, rfl, .sl _ _ _ _ _ rfl⟩, ⟨_, rfl, .bool _⟩, ⟨_, rfl, .ptr _ _ _ rfl⟩, ⟨_, rfl, .sl _ _ _ _ _ rfl⟩, ⟨_, rfl, zAa 8 rfl⟩, ⟨_, rfl, zAa 8 rfl⟩, ⟨_, rfl, zAa 8 rfl⟩, ⟨_, rfl, .int _ _⟩, ⟨_, rfl, .sl _ _ _ _ _ rfl⟩, ⟨_, rfl, .int _ _⟩, trivial⟩ ⟨bpo (hpl), bpo (byV_plain bw), ⟨by decide, _, rfl, zAi _ _⟩, ⟨by decide, _, rfl, zAd 2 2 (by exact rfl) _⟩, bpo (byV_plain (u :: us)), bpo (byV_plain (v :: vs)), trivial⟩ .nil
theorem rbw_110 (l : List A7) (c : Nat) (bw : Bl) (cb i : Nat) (T : List (Bl × Nat)) (en ck : Nat) (f : Nat → Option Value) (hd : ∀ x ∈ l, x.x.ok = true ∧ (bs x.x.n).length ≤ 3000 ∧ (bs x.x.d).length ≤ 3000) (_ : l.length ≤ 40) (_ : bw.length ≤ 100) (_ : bw.length ≤ cb ∧ cb ≤ 9223372036854775807) (h1 : i < l.length) (x : RcX) (raw : Bool) (a0 : Int) (hx : l[i] = ⟨x, true, raw, a0⟩) (u : UInt8) (us : Bl) (v : UInt8) (vs : Bl) (F : List (Bl × Nat)) (en' : Nat) (hg : goodT T) (hD : askD en T ((us.length + 1 : Nat) : Int) x.n x.t x.c = (0, v :: vs, F, en')) : CW Try.prog 0 2 (2 + (Try.f9.ntmps - 2)) none (codeAt (loopAt Try.f9 0) [1, 0, 1, 1, 1, 1, 1, 0]) (rbX l c bw cb i T en ck (u :: us) [] x f) (stepK Try.prog 0 2 (2 + (Try.f9.ntmps - 2)) none (rbF l c bw cb i (T ++ F) en' (ck + F.length) (u :: us) [] v vs)) := by
 have hpl : plainL (l.flatMap layA7.g) = true := zAb layA7.g layA7.plain _
 obtain ⟨dom, cell, sub, row, hok, hsh, hdl⟩ := factU hd i h1 hx
 obtain ⟨xn, xt, xc, xw, xd⟩ := x
 have hok : RcX.ok ⟨xn, xt, xc, xw, xd⟩ = true := hok
 have hsh : shortB xn = true := hsh
 refine zAo tbRb [0] 2 _ none mixed _ _ _ ?_
 refine ifK (fun _ => ?_) (fun h2 => absurd (dom.symm.trans h2) (by decide))
 refine Exists.intro true (And.intro (cell 5 (by decide)) ?_)
 refine Exists.intro (⟨3, 2, en, T, ck, (⟨((us.length + 1 : Nat) : Int), xn, xt, xc⟩ : AskY), 0, v :: vs, F, en'⟩ : PkY AskY) (And.intro ⟨rfl, (show Tr.get _ 3 = some (AObj.cells [.map (some 2), .int .i64 (en : Int)] _) from rfl), (show Tr.get _ 2 = some (AObj.map (encT T) ck) from rfl), hg, hsh, hD⟩ ?_)
 exact rcq [2, 3, 4, 6] ⟨⟨_, rfl, .sl _ _ _ _ _ rfl⟩, ⟨_, rfl, .sl _ _ _ _ _ rfl⟩, ⟨_, rfl, .bool _⟩, ⟨_, rfl, .ptr _ _ _ rfl⟩, ⟨_, rfl, .sl _ _ _ _ _ rfl⟩, ⟨_, rfl, zAa 8 rfl⟩, ⟨_, rfl, zAa 8 rfl⟩, ⟨_, rfl, zAa 8 rfl⟩, ⟨_, rfl, .int _ _⟩, ⟨_, rfl, .sl _ _ _ _ _ rfl⟩, ⟨_, rfl, .int _ _⟩, trivial⟩ ⟨bpo (hpl), bpo (byV_plain bw), ⟨by decide, _, rfl, zAi _ _⟩, ⟨by decide, _, rfl, zAd 2 2 (by exact rfl) _⟩, bpo (byV_plain (u :: us)), bpo (byV_plain (v :: vs)), trivial⟩ .nil
theorem rbu_10 (l : List A7) (c : Nat) (bw : Bl) (cb i : Nat) (T : List (Bl × Nat)) (en ck : Nat) (f : Nat → Option Value) (hd : ∀ x ∈ l, x.x.ok = true ∧ (bs x.x.n).length ≤ 3000 ∧ (bs x.x.d).length ≤ 3000) (_ : l.length ≤ 40) (_ : bw.length ≤ 100) (_ : bw.length ≤ cb ∧ cb ≤ 9223372036854775807) (h1 : i < l.length) (x : RcX) (ask raw : Bool) (a0 : Int) (hx : l[i] = ⟨x, ask, raw, a0⟩) (u : UInt8) (us : Bl) (v : UInt8) (vs : Bl) : CW Try.prog 0 2 (2 + (Try.f9.ntmps - 2)) none (codeAt (loopAt Try.f9 0) [1, 0, 1, 1, 1, 1, 1, 1, 0]) (rbF l c bw cb i T en ck (u :: us) [] v vs f) (stepK Try.prog 0 2 (2 + (Try.f9.ntmps - 2)) none (rbF l c bw cb i T en ck (u :: us) [] v vs)) := by
 have hpl : plainL (l.flatMap layA7.g) = true := zAb layA7.g layA7.plain _
 obtain ⟨dom, cell, sub, row, hok, hsh, hdl⟩ := factU hd i h1 hx
 refine zAo tbRb [0] 2 _ none mixed _ _ _ ?_
 exact rcq [2, 3, 4, 5] ⟨⟨_, rfl, .sl _ _ _ _ _ rfl⟩, ⟨_, rfl, .sl _ _ _ _ _ rfl⟩, ⟨_, rfl, .bool _⟩, ⟨_, rfl, .ptr _ _ _ rfl⟩, ⟨_, rfl, .sl _ _ _ _ _ rfl⟩, ⟨_, rfl, zAa 8 rfl⟩, ⟨_, rfl, zAa 8 rfl⟩, ⟨_, rfl, zAa 8 rfl⟩, ⟨_, rfl, .int _ _⟩, ⟨_, rfl, .sl _ _ _ _ _ rfl⟩, ⟨_, rfl, .int _ _⟩, trivial⟩ ⟨bpo (hpl), bpo (byV_plain bw), ⟨by decide, _, rfl, zAi _ _⟩, ⟨by decide, _, rfl, zAd 2 2 (by exact rfl) _⟩, bpo (byV_plain (u :: us)), bpo (byV_plain (v :: vs)), trivial⟩ .nil
theorem rbs_10 (l : List A7) (c : Nat) (bw : Bl) (cb i : Nat) (T : List (Bl × Nat)) (en ck : Nat) (f : Nat → Option Value) (hd : ∀ x ∈ l, x.x.ok = true ∧ (bs x.x.n).length ≤ 3000 ∧ (bs x.x.d).length ≤ 3000) (_ : l.length ≤ 40) (_ : bw.length ≤ 100) (_ : bw.length ≤ cb ∧ cb ≤ 9223372036854775807) (h1 : i < l.length) (x : RcX) (ask raw : Bool) (a0 : Int) (hx : l[i] = ⟨x, ask, raw, a0⟩) (u : UInt8) (us : Bl) (v : UInt8) (vs : Bl) (hus : us.length + 1 ≤ 70000) (hvs : vs.length + 1 ≤ 70000) : CW Try.prog 0 2 (2 + (Try.f9.ntmps - 2)) none (codeAt (loopAt Try.f9 0) [1, 0, 1, 1, 1, 1, 1, 1, 1]) (rbF l c bw cb i T en ck (u :: us) [] v vs f) (stepK Try.prog 0 2 (2 + (Try.f9.ntmps - 2)) none (rbE l c bw cb i T en ck (u :: (us ++ v :: vs)) [(us.length + 1, us.length + 1 + (vs.length + 1), (⟨x, ask, raw, a0⟩ : A7))])) := by
 have hpl : plainL (l.flatMap layA7.g) = true := zAb layA7.g layA7.plain _
 obtain ⟨dom, cell, sub, row, hok, hsh, hdl⟩ := factU hd i h1 hx
 obtain ⟨xn, xt, xc, xw, xd⟩ := x
 have hok : RcX.ok ⟨xn, xt, xc, xw, xd⟩ = true := hok
 have hsh : shortB xn = true := hsh
 have h1s : (Try.prog.types[5]).size = 1 := by kernel_rfl
 have hby : (Try.prog.types[5]).bytes = 1 := by kernel_rfl
 have i1s : (Try.prog.types[3]).size = 1 := by kernel_rfl
 have i8s : (Try.prog.types[3]).bytes = 8 := by kernel_rfl
 have hsz : (Try.prog.types[41]).size = 8 := by kernel_rfl
 have hab : (Try.prog.types[41]).bytes ≤ 1000 := Nat.le_of_ble_eq_true (by kernel_rfl)
 refine zAo tbRb [0, 5] 2 _ none mixed _ _ _ ?_
 refine Exists.intro ((v :: vs).map byV) (And.intro (zKn (l := v :: vs) h1s rfl) ?_)
 have hone : oneL ((v :: vs).map byV) = true := oneB _
 refine And.intro (by rw [h1s, hby]; simp only [Bool.and_eq_true, decide_eq_true_eq]; exact ⟨⟨⟨⟨⟨⟨rfl, rfl⟩, Nat.ble_eq_true_of_le (by simp)⟩, hone⟩, (by omega)⟩, (by omega)⟩, Nat.ble_eq_true_of_le (by simp)⟩) ?_
 have hlenb : us.length + 1 + (vs.length + 1) = (us ++ v :: vs).length + 1 := by simp; omega
 have hcells : List.take ((us.length + 1) * (Try.prog.types[5]).size) ((u :: us).map byV) ++ (v :: vs).map byV = (u :: (us ++ v :: vs)).map byV := by rw [h1s, Nat.mul_one, List.take_of_length_le (by simp)]; simp
 refine ifK (fun _ => ?_) (fun h2 => absurd (dom.symm.trans h2) (by decide))
 refine Exists.intro xn (Exists.intro xt (Exists.intro xc (Exists.intro xw (Exists.intro xd (Exists.intro ask (Exists.intro raw (Exists.intro a0 (And.intro row ?_))))))))
 exact rcq [2, 3, 8, 7, 10, 12] ⟨⟨_, rfl, .sl _ _ _ _ _ rfl⟩, ⟨_, rfl, .sl _ _ _ _ _ rfl⟩, ⟨_, rfl, .bool _⟩, ⟨_, rfl, .ptr _ _ _ rfl⟩, ⟨_, rfl, by show RV _ (.slice _ (us.length + 1 + (vs.length + 1)) U) _; rw [hlenb]; exact .sl _ _ _ _ _ rfl⟩, ⟨_, rfl, .sl _ _ _ _ _ rfl⟩, ⟨_, rfl, .sl _ _ _ _ _ rfl⟩, ⟨_, rfl, .sl _ _ _ _ _ rfl⟩, ⟨_, rfl, .int _ _⟩, trivial⟩ ⟨bpo (hpl), bpo (byV_plain bw), ⟨by decide, _, rfl, zAi _ _⟩, ⟨by decide, _, rfl, zAd 2 2 (by exact rfl) _⟩, ⟨by decide, _, rfl, zBb hcells (byV_plain _)⟩, ⟨by decide, _, rfl, zBb rfl (zAf _)⟩, ⟨by decide, _, rfl, zBb rfl (zAg _)⟩, ⟨by decide, _, rfl, zBb rfl (zAe _)⟩, trivial⟩ .nil
theorem rbm_11 (l : List A7) (c : Nat) (bw : Bl) (cb i : Nat) (T : List (Bl × Nat)) (en ck : Nat) (f : Nat → Option Value) (hd : ∀ x ∈ l, x.x.ok = true ∧ (bs x.x.n).length ≤ 3000 ∧ (bs x.x.d).length ≤ 3000) (_ : l.length ≤ 40) (_ : bw.length ≤ 100) (_ : bw.length ≤ cb ∧ cb ≤ 9223372036854775807) (h1 : i < l.length) (x : RcX) (ask raw : Bool) (a0 : Int) (hx : l[i] = ⟨x, ask, raw, a0⟩) (u : UInt8) (us : Bl) (r : Wu) (R : List Wu) : CW Try.prog 0 2 (2 + (Try.f9.ntmps - 2)) none (codeAt (loopAt Try.f9 0) [1, 0, 1, 1, 1, 0]) (rbX l c bw cb i T en ck (u :: us) (r :: R) x f) (stepK Try.prog 0 2 (2 + (Try.f9.ntmps - 2)) none (rbX l c bw cb i T en ck (u :: us) (r :: R) x)) := by
 have hpl : plainL (l.flatMap layA7.g) = true := zAb layA7.g layA7.plain _
 obtain ⟨dom, cell, sub, row, hok, hsh, hdl⟩ := factU hd i h1 hx
 obtain ⟨xn, xt, xc, xw, xd⟩ := x
 have hok : RcX.ok ⟨xn, xt, xc, xw, xd⟩ = true := hok
 have hsh : shortB xn = true := hsh
 refine zAo tbRb [0] 2 _ none mixed _ _ _ ?_
 exact rcq [2, 3, 4, 5, 6, 7, 8] ⟨⟨_, rfl, .sl _ _ _ _ _ rfl⟩, ⟨_, rfl, .sl _ _ _ _ _ rfl⟩, ⟨_, rfl, .bool _⟩, ⟨_, rfl, .ptr _ _ _ rfl⟩, ⟨_, rfl, .sl _ _ _ _ _ rfl⟩, ⟨_, rfl, .sl _ _ _ _ _ rfl⟩, ⟨_, rfl, .sl _ _ _ _ _ rfl⟩, ⟨_, rfl, .sl _ _ _ _ _ rfl⟩, ⟨_, rfl, .int _ _⟩, ⟨_, rfl, .ptr _ _ _ rfl⟩, trivial⟩ ⟨bpo (hpl), bpo (byV_plain bw), ⟨by decide, _, rfl, zAi _ _⟩, ⟨by decide, _, rfl, zAd 2 2 (by exact rfl) _⟩, bpo (byV_plain (u :: us)), bpo (zAf (r :: R)), bpo (zAg (r :: R)), bpo (zAe (r :: R)), bpo rfl, trivial⟩ .nil
theorem rbn_11 (l : List A7) (c : Nat) (bw : Bl) (cb i : Nat) (T : List (Bl × Nat)) (en ck : Nat) (f : Nat → Option Value) (hd : ∀ x ∈ l, x.x.ok = true ∧ (bs x.x.n).length ≤ 3000 ∧ (bs x.x.d).length ≤ 3000) (_ : l.length ≤ 40) (_ : bw.length ≤ 100) (_ : bw.length ≤ cb ∧ cb ≤ 9223372036854775807) (h1 : i < l.length) (x : RcX) (ask raw : Bool) (a0 : Int) (hx : l[i] = ⟨x, ask, raw, a0⟩) (u : UInt8) (us : Bl) (r : Wu) (R : List Wu) : CW Try.prog 0 2 (2 + (Try.f9.ntmps - 2)) none (codeAt (loopAt Try.f9 0) [1, 0, 1, 1, 1, 1, 0]) (rbX l c bw cb i T en ck (u :: us) (r :: R) x f) (stepK Try.prog 0 2 (2 + (Try.f9.ntmps - 2)) none (rbX l c bw cb i T en ck (u :: us) (r :: R) x)) := by
 have hpl : plainL (l.flatMap layA7.g) = true := zAb layA7.g layA7.plain _
 obtain ⟨dom, cell, sub, row, hok, hsh, hdl⟩ := factU hd i h1 hx
 obtain ⟨xn, xt, xc, xw, xd⟩ := x
 have hok : RcX.ok ⟨xn, xt, xc, xw, xd⟩ = true := hok
 have hsh : shortB xn = true := hsh
 refine zAo tbRb [0] 2 _ none mixed _ _ _ ?_
 exact rcq [2, 3, 4, 5, 6, 7, 8] ⟨⟨_, rfl, .sl _ _ _ _ _ rfl⟩, ⟨_, rfl, .sl _ _ _ _ _ rfl⟩, ⟨_, rfl, .bool _⟩, ⟨_, rfl, .ptr _ _ _ rfl⟩, ⟨_, rfl, .sl _ _ _ _ _ rfl⟩, ⟨_, rfl, .sl _ _ _ _ _ rfl⟩, ⟨_, rfl, .sl _ _ _ _ _ rfl⟩, ⟨_, rfl, .sl _ _ _ _ _ rfl⟩, ⟨_, rfl, .int _ _⟩, ⟨_, rfl, .ptr _ _ _ rfl⟩, trivial⟩ ⟨bpo (hpl), bpo (byV_plain bw), ⟨by decide, _, rfl, zAi _ _⟩, ⟨by decide, _, rfl, zAd 2 2 (by exact rfl) _⟩, bpo (byV_plain (u :: us)), bpo (zAf (r :: R)), bpo (zAg (r :: R)), bpo (zAe (r :: R)), bpo rfl, trivial⟩ .nil
theorem rbw_011 (l : List A7) (c : Nat) (bw : Bl) (cb i : Nat) (T : List (Bl × Nat)) (en ck : Nat) (f : Nat → Option Value) (hd : ∀ x ∈ l, x.x.ok = true ∧ (bs x.x.n).length ≤ 3000 ∧ (bs x.x.d).length ≤ 3000) (_ : l.length ≤ 40) (_ : bw.length ≤ 100) (_ : bw.length ≤ cb ∧ cb ≤ 9223372036854775807) (h1 : i < l.length) (x : RcX) (raw : Bool) (a0 : Int) (hx : l[i] = ⟨x, false, raw, a0⟩) (u : UInt8) (us : Bl) (r : Wu) (R : List Wu) (v : UInt8) (vs : Bl) (F : List (Bl × Nat)) (en' : Nat) (hg : goodT T) (hD : recD en T ((us.length + 1 : Nat) : Int) x = (0, v :: vs, F, en')) : CW Try.prog 0 2 (2 + (Try.f9.ntmps - 2)) none (codeAt (loopAt Try.f9 0) [1, 0, 1, 1, 1, 1, 1, 0]) (rbX l c bw cb i T en ck (u :: us) (r :: R) x f) (stepK Try.prog 0 2 (2 + (Try.f9.ntmps - 2)) none (rbF l c bw cb i (T ++ F) en' (ck + F.length) (u :: us) (r :: R) v vs)) := by
 have hpl : plainL (l.flatMap layA7.g) = true := zAb layA7.g layA7.plain _
 obtain ⟨dom, cell, sub, row, hok, hsh, hdl⟩ := factU hd i h1 hx
 obtain ⟨xn, xt, xc, xw, xd⟩ := x
 have hok : RcX.ok ⟨xn, xt, xc, xw, xd⟩ = true := hok
 have hsh : shortB xn = true := hsh
 refine zAo tbRb [0] 2 _ none mixed _ _ _ ?_
 refine ifK (fun _ => ?_) (fun h2 => absurd (dom.symm.trans h2) (by decide))
 refine Exists.intro false (And.intro (cell 5 (by decide)) ?_)
 refine Exists.intro (⟨3, 2, en, T, ck, (⟨((us.length + 1 : Nat) : Int), ⟨xn, xt, xc, xw, xd⟩⟩ : WrtY), 0, v :: vs, F, en'⟩ : PkY WrtY) (And.intro ⟨rfl, (show Tr.get _ 3 = some (AObj.cells [.map (some 2), .int .i64 (en : Int)] _) from rfl), (show Tr.get _ 2 = some (AObj.map (encT T) ck) from rfl), hg, hok, hD⟩ ?_)
 exact rcq [2, 3, 4, 5, 6, 7, 9] ⟨⟨_, rfl, .sl _ _ _ _ _ rfl⟩, ⟨_, rfl, .sl _ _ _ _ _ rfl⟩, ⟨_, rfl, .bool _⟩, ⟨_, rfl, .ptr _ _ _ rfl⟩, ⟨_, rfl, .sl _ _ _ _ _ rfl⟩, ⟨_, rfl, .sl _ _ _ _ _ rfl⟩, ⟨_, rfl, .sl _ _ _ _ _ rfl⟩, ⟨_, rfl, .sl _ _ _ _ _ rfl⟩, ⟨_, rfl, .int _ _⟩, ⟨_, rfl, .sl _ _ _ _ _ rfl⟩, ⟨_, rfl, .int _ _⟩, trivial⟩ ⟨bpo (hpl), bpo (byV_plain bw), ⟨by decide, _, rfl, zAi _ _⟩, ⟨by decide, _, rfl, zAd 2 2 (by exact rfl) _⟩, bpo (byV_plain (u :: us)), bpo (zAf (r :: R)), bpo (zAg (r :: R)), bpo (zAe (r :: R)), bpo (byV_plain (v :: vs)), trivial⟩ .nil
theorem rbw_111 (l : List A7) (c : Nat) (bw : Bl) (cb i : Nat) (T : List (Bl × Nat)) (en ck : Nat) (f : Nat → Option Value) (hd : ∀ x ∈ l, x.x.ok = true ∧ (bs x.x.n).length ≤ 3000 ∧ (bs x.x.d).length ≤ 3000) (_ : l.length ≤ 40) (_ : bw.length ≤ 100) (_ : bw.length ≤ cb ∧ cb ≤ 9223372036854775807) (h1 : i < l.length) (x : RcX) (raw : Bool) (a0 : Int) (hx : l[i] = ⟨x, true, raw, a0⟩) (u : UInt8) (us : Bl) (r : Wu) (R : List Wu) (v : UInt8) (vs : Bl) (F : List (Bl × Nat)) (en' : Nat) (hg : goodT T) (hD : askD en T ((us.length + 1 : Nat) : Int) x.n x.t x.c = (0, v :: vs, F, en')) : CW Try.prog 0 2 (2 + (Try.f9.ntmps - 2)) none (codeAt (loopAt Try.f9 0) [1, 0, 1, 1, 1, 1, 1, 0]) (rbX l c bw cb i T en ck (u :: us) (r :: R) x f) (stepK Try.prog 0 2 (2 + (Try.f9.ntmps - 2)) none (rbF l c bw cb i (T ++ F) en' (ck + F.length) (u :: us) (r :: R) v vs)) := by
 have hpl : plainL (l.flatMap layA7.g) = true := zAb layA7.g layA7.plain _
 obtain ⟨dom, cell, sub, row, hok, hsh, hdl⟩ := factU hd i h1 hx
 obtain ⟨xn, xt, xc, xw, xd⟩ := x
 have hok : RcX.ok ⟨xn, xt, xc, xw, xd⟩ = true := hok
 have hsh : shortB xn = true := hsh
 refine zAo tbRb [0] 2 _ none mixed _ _ _ ?_
 refine ifK (fun _ => ?_) (fun h2 => absurd (dom.symm.trans h2) (by decide))
 refine Exists.intro true (And.intro (cell 5 (by decide)) ?_)
 refine Exists.intro (⟨3, 2, en, T, ck, (⟨((us.length + 1 : Nat) : Int), xn, xt, xc⟩ : AskY), 0, v :: vs, F, en'⟩ : PkY AskY) (And.intro ⟨rfl, (show Tr.get _ 3 = some (AObj.cells [.map (some 2), .int .i64 (en : Int)] _) from rfl), (show Tr.get _ 2 = some (AObj.map (encT T) ck) from rfl), hg, hsh, hD⟩ ?_)
 exact rcq [2, 3, 4, 5, 6, 7, 9] ⟨⟨_, rfl, .sl _ _ _ _ _ rfl⟩, ⟨_, rfl, .sl _ _ _ _ _ rfl⟩, ⟨_, rfl, .bool _⟩, ⟨_, rfl, .ptr _ _ _ rfl⟩, ⟨_, rfl, .sl _ _ _ _ _ rfl⟩, ⟨_, rfl, .sl _ _ _ _ _ rfl⟩, ⟨_, rfl, .sl _ _ _ _ _ rfl⟩, ⟨_, rfl, .sl _ _ _ _ _ rfl⟩, ⟨_, rfl, .int _ _⟩, ⟨_, rfl, .sl _ _ _ _ _ rfl⟩, ⟨_, rfl, .int _ _⟩, trivial⟩ ⟨bpo (hpl), bpo (byV_plain bw), ⟨by decide, _, rfl, zAi _ _⟩, ⟨by decide, _, rfl, zAd 2 2 (by exact rfl) _⟩, bpo (byV_plain (u :: us)), bpo (zAf (r :: R)), bpo (zAg (r :: R)), bpo (zAe (r :: R)), bpo (byV_plain (v :: vs)), trivial⟩ .nil
theorem rbu_11 (l : List A7) (c : Nat) (bw : Bl) (cb i : Nat) (T : List (Bl × Nat)) (en ck : Nat) (f : Nat → Option Value) (hd : ∀ x ∈ l, x.x.ok = true ∧ (bs x.x.n).length ≤ 3000 ∧ (bs x.x.d).length ≤ 3000) (_ : l.length ≤ 40) (_ : bw.length ≤ 100) (_ : bw.length ≤ cb ∧ cb ≤ 9223372036854775807) (h1 : i < l.length) (x : RcX) (ask raw : Bool) (a0 : Int) (hx : l[i] = ⟨x, ask, raw, a0⟩) (u : UInt8) (us : Bl) (r : Wu) (R : List Wu) (v : UInt8) (vs : Bl) : CW Try.prog 0 2 (2 + (Try.f9.ntmps - 2)) none (codeAt (loopAt Try.f9 0) [1, 0, 1, 1, 1, 1, 1, 1, 0]) (rbF l c bw cb i T en ck (u :: us) (r :: R) v vs f) (stepK Try.prog 0 2 (2 + (Try.f9.ntmps - 2)) none (rbF l c bw cb i T en ck (u :: us) (r :: R) v vs)) := by
 have hpl : plainL (l.flatMap layA7.g) = true := zAb layA7.g layA7.plain _
 obtain ⟨dom, cell, sub, row, hok, hsh, hdl⟩ := factU hd i h1 hx
 refine zAo tbRb [0] 2 _ none mixed _ _ _ ?_
 exact rcq [2, 3, 4, 5, 6, 7, 8] ⟨⟨_, rfl, .sl _ _ _ _ _ rfl⟩, ⟨_, rfl, .sl _ _ _ _ _ rfl⟩, ⟨_, rfl, .bool _⟩, ⟨_, rfl, .ptr _ _ _ rfl⟩, ⟨_, rfl, .sl _ _ _ _ _ rfl⟩, ⟨_, rfl, .sl _ _ _ _ _ rfl⟩, ⟨_, rfl, .sl _ _ _ _ _ rfl⟩, ⟨_, rfl, .sl _ _ _ _ _ rfl⟩, ⟨_, rfl, .int _ _⟩, ⟨_, rfl, .sl _ _ _ _ _ rfl⟩, ⟨_, rfl, .int _ _⟩, trivial⟩ ⟨bpo (hpl), bpo (byV_plain bw), ⟨by decide, _, rfl, zAi _ _⟩, ⟨by decide, _, rfl, zAd 2 2 (by exact rfl) _⟩, bpo (byV_plain (u :: us)), bpo (zAf (r :: R)), bpo (zAg (r :: R)), bpo (zAe (r :: R)), bpo (byV_plain (v :: vs)), trivial⟩ .nil
theorem rbs_11 (l : List A7) (c : Nat) (bw : Bl) (cb i : Nat) (T : List (Bl × Nat)) (en ck : Nat) (f : Nat → Option Value) (hd : ∀ x ∈ l, x.x.ok = true ∧ (bs x.x.n).length ≤ 3000 ∧ (bs x.x.d).length ≤ 3000) (_ : l.length ≤ 40) (_ : bw.length ≤ 100) (_ : bw.length ≤ cb ∧ cb ≤ 9223372036854775807) (h1 : i < l.length) (x : RcX) (ask raw : Bool) (a0 : Int) (hx : l[i] = ⟨x, ask, raw, a0⟩) (u : UInt8) (us : Bl) (r : Wu) (R : List Wu) (v : UInt8) (vs : Bl) (hus : us.length + 1 ≤ 70000) (hvs : vs.length + 1 ≤ 70000) (hRl : R.length ≤ 40) : CW Try.prog 0 2 (2 + (Try.f9.ntmps - 2)) none (codeAt (loopAt Try.f9 0) [1, 0, 1, 1, 1, 1, 1, 1, 1]) (rbF l c bw cb i T en ck (u :: us) (r :: R) v vs f) (stepK Try.prog 0 2 (2 + (Try.f9.ntmps - 2)) none (rbE l c bw cb i T en ck (u :: (us ++ v :: vs)) (r :: (R ++ [(us.length + 1, us.length + 1 + (vs.length + 1), (⟨x, ask, raw, a0⟩ : A7))])))) := by
 have hpl : plainL (l.flatMap layA7.g) = true := zAb layA7.g layA7.plain _
 obtain ⟨dom, cell, sub, row, hok, hsh, hdl⟩ := factU hd i h1 hx
 obtain ⟨xn, xt, xc, xw, xd⟩ := x
 have hok : RcX.ok ⟨xn, xt, xc, xw, xd⟩ = true := hok
 have hsh : shortB xn = true := hsh
 have h1s : (Try.prog.types[5]).size = 1 := by kernel_rfl
 have hby : (Try.prog.types[5]).bytes = 1 := by kernel_rfl
 have i1s : (Try.prog.types[3]).size = 1 := by kernel_rfl
 have i8s : (Try.prog.types[3]).bytes = 8 := by kernel_rfl
 have hsz : (Try.prog.types[41]).size = 8 := by kernel_rfl
 have hab : (Try.prog.types[41]).bytes ≤ 1000 := Nat.le_of_ble_eq_true (by kernel_rfl)
 refine zAo tbRb [0, 8] 2 _ none mixed _ _ _ ?_
 refine And.intro (by rw [i1s, i8s]; simp only [Bool.and_eq_true, decide_eq_true_eq]; exact ⟨⟨⟨⟨⟨⟨rfl, rfl⟩, Nat.ble_eq_true_of_le (by simp)⟩, rfl⟩, (by omega)⟩, (by omega)⟩, Nat.ble_eq_true_of_le (by simp)⟩) ?_
 refine Exists.intro ((v :: vs).map byV) (And.intro (zKn (l := v :: vs) h1s rfl) ?_)
 have hone : oneL ((v :: vs).map byV) = true := oneB _
 refine And.intro (by rw [h1s, hby]; simp only [Bool.and_eq_true, decide_eq_true_eq]; exact ⟨⟨⟨⟨⟨⟨rfl, rfl⟩, Nat.ble_eq_true_of_le (by simp)⟩, hone⟩, (by omega)⟩, (by omega)⟩, Nat.ble_eq_true_of_le (by simp)⟩) ?_
 have hlenb : us.length + 1 + (vs.length + 1) = (us ++ v :: vs).length + 1 := by simp; omega
 have hcells : List.take ((us.length + 1) * (Try.prog.types[5]).size) ((u :: us).map byV) ++ (v :: vs).map byV = (u :: (us ++ v :: vs)).map byV := by rw [h1s, Nat.mul_one, List.take_of_length_le (by simp)]; simp
 refine And.intro (by rw [i1s, i8s]; simp only [Bool.and_eq_true, decide_eq_true_eq]; exact ⟨⟨⟨⟨⟨⟨rfl, rfl⟩, Nat.ble_eq_true_of_le (by simp)⟩, rfl⟩, (by omega)⟩, (by omega)⟩, Nat.ble_eq_true_of_le (by simp)⟩) ?_
 refine ifK (fun _ => ?_) (fun h2 => absurd (dom.symm.trans h2) (by decide))
 refine Exists.intro xn (Exists.intro xt (Exists.intro xc (Exists.intro xw (Exists.intro xd (Exists.intro ask (Exists.intro raw (Exists.intro a0 (And.intro row ?_))))))))
 have hfl : ((r :: R).flatMap acU).length = (R.length + 1) * 8 := zQv (r :: R)
 have hml : (R.length + 1 + 1) * (Try.prog.types[41]).bytes ≤ 140737488355328 := Nat.le_trans (Nat.mul_le_mul (show R.length + 1 + 1 ≤ 42 by omega) hab) (by decide)
 refine And.intro (by rw [hsz]; simp only [Bool.and_eq_true, decide_eq_true_eq]; exact ⟨⟨⟨⟨⟨⟨rfl, rfl⟩, Nat.ble_eq_true_of_le (by rw [hfl]; exact Nat.le_refl _)⟩, rfl⟩, hml⟩, (by omega)⟩, Nat.ble_eq_true_of_le (by rw [hfl]; simp)⟩) ?_
 have hlenR : R.length + 1 + 1 = (R ++ [(us.length + 1, us.length + 1 + (vs.length + 1), (⟨⟨xn, xt, xc, xw, xd⟩, ask, raw, a0⟩ : A7))]).length + 1 := by simp
 have hat : List.take ((R.length + 1) * (Try.prog.types[3]).size) ((r :: R).map atU) ++ [atU (us.length + 1, us.length + 1 + (vs.length + 1), (⟨⟨xn, xt, xc, xw, xd⟩, ask, raw, a0⟩ : A7))] = (r :: (R ++ [(us.length + 1, us.length + 1 + (vs.length + 1), (⟨⟨xn, xt, xc, xw, xd⟩, ask, raw, a0⟩ : A7))])).map atU := by rw [i1s, Nat.mul_one, List.take_of_length_le (by simp)]; simp
 have hst : List.take ((R.length + 1) * (Try.prog.types[3]).size) ((r :: R).map enU) ++ [enU (us.length + 1, us.length + 1 + (vs.length + 1), (⟨⟨xn, xt, xc, xw, xd⟩, ask, raw, a0⟩ : A7))] = (r :: (R ++ [(us.length + 1, us.length + 1 + (vs.length + 1), (⟨⟨xn, xt, xc, xw, xd⟩, ask, raw, a0⟩ : A7))])).map enU := by rw [i1s, Nat.mul_one, List.take_of_length_le (by simp)]; simp
 have hct : List.take ((R.length + 1) * (Try.prog.types[41]).size) ((r :: R).flatMap acU) ++ acU (us.length + 1, us.length + 1 + (vs.length + 1), (⟨⟨xn, xt, xc, xw, xd⟩, ask, raw, a0⟩ : A7)) = (r :: (R ++ [(us.length + 1, us.length + 1 + (vs.length + 1), (⟨⟨xn, xt, xc, xw, xd⟩, ask, raw, a0⟩ : A7))])).flatMap acU := by rw [hsz, List.take_of_length_le (by rw [hfl]; exact Nat.le_refl _)]; simp
 exact rcq [2, 3, 11, 10, 13, 15] ⟨⟨_, rfl, .sl _ _ _ _ _ rfl⟩, ⟨_, rfl, .sl _ _ _ _ _ rfl⟩, ⟨_, rfl, .bool _⟩, ⟨_, rfl, .ptr _ _ _ rfl⟩, ⟨_, rfl, by show RV _ (.slice _ (us.length + 1 + (vs.length + 1)) U) _; rw [hlenb]; exact .sl _ _ _ _ _ rfl⟩, ⟨_, rfl, by show RV _ (.slice _ (R.length + 1 + 1) U) _; rw [hlenR]; exact .sl _ _ _ _ _ rfl⟩, ⟨_, rfl, by show RV _ (.slice _ (R.length + 1 + 1) U) _; rw [hlenR]; exact .sl _ _ _ _ _ rfl⟩, ⟨_, rfl, by show RV _ (.slice _ (R.length + 1 + 1) U) _; rw [hlenR]; exact .sl _ _ _ _ _ rfl⟩, ⟨_, rfl, .int _ _⟩, trivial⟩ ⟨bpo (hpl), bpo (byV_plain bw), ⟨by decide, _, rfl, zAi _ _⟩, ⟨by decide, _, rfl, zAd 2 2 (by exact rfl) _⟩, ⟨by decide, _, rfl, zBb hcells (byV_plain _)⟩, ⟨by decide, _, rfl, zBb hat (zAf _)⟩, ⟨by decide, _, rfl, zBb hst (zAg _)⟩, ⟨by decide, _, rfl, zBb hct (zAe _)⟩, trivial⟩ .nil
end Go.Proofs.Ytmpaeabkdhjamaa
namespace Go.Proofs.Ytmpaeabkdhjamaa
open Go Go.RowKit
theorem cw_cont2 {P : Program} {g0 k0 nt : Nat} {rd : Option Nat} {id : Nat} {a b c : Code} {s : Fs} (s1 : (Nat → Option Value) → Fs) {s2 : (Nat → Option Value) → Fs} (ha : CW P g0 k0 nt rd a s (stepK P g0 k0 nt rd s1)) (h : ∀ f, CW P g0 k0 nt rd b (s1 f) (fun x s3 => x = .exit id ∧ ∃ f, RcM P g0 k0 nt rd s3 (s2 f))) : CW P g0 k0 nt rd (.block id (.seq a (.seq b c))) s (stepK P g0 k0 nt rd s2) := fun h1 h2 => by
 have hb : ∀ f, CW P g0 k0 nt rd (.seq b c) (s1 f) (fun x s3 => x = .exit id ∧ ∃ f, RcM P g0 k0 nt rd s3 (s2 f)) := fun f q1 q2 => by
  obtain ⟨x, s', h3, rfl, f', hr⟩ := h f q1 q2
  exact ⟨_, s', zOa (by simp) h3, rfl, f', hr⟩
 obtain ⟨x, s', h3, rfl, f, hr⟩ := zEq s1 ha hb h1 h2
 exact ⟨_, s', zKj rfl h3, by simp only [Nat.beq_refl, cond_true]; exact ⟨f, hr⟩⟩
theorem rbxg (l : List A7) (c : Nat) (bw : Bl) (cb i : Nat) (T : List (Bl × Nat)) (en ck : Nat) (f : Nat → Option Value) (hd : ∀ x ∈ l, x.x.ok = true ∧ (bs x.x.n).length ≤ 3000 ∧ (bs x.x.d).length ≤ 3000) (hl40 : l.length ≤ 40) (hbw : bw.length ≤ 100) (hcb : bw.length ≤ cb ∧ cb ≤ 9223372036854775807) (h1 : i < l.length) (x : RcX) (ask raw : Bool) (a0 : Int) (hx : l[i] = ⟨x, ask, raw, a0⟩) (b : Bl) (Rs : List Wu) (hsh : b ≠ [] → Rs ≠ []) : CW Try.prog 0 2 (2 + (Try.f9.ntmps - 2)) none (codeAt (loopAt Try.f9 0) [0]) (rbE l c bw cb i T en ck b Rs f) (stepK Try.prog 0 2 (2 + (Try.f9.ntmps - 2)) none (rbE l c bw cb i T en ck b Rs)) := by
 cases b with
 | nil => cases Rs with
  | nil => exact rbx_00 l c bw cb i T en ck f hd hl40 hbw hcb h1 x ask raw a0 hx 
  | cons r R => exact rbx_01 l c bw cb i T en ck f hd hl40 hbw hcb h1 x ask raw a0 hx _ _ 
 | cons u us => cases Rs with
  | nil => exact absurd rfl (hsh (List.cons_ne_nil _ _))
  | cons r R => exact rbx_11 l c bw cb i T en ck f hd hl40 hbw hcb h1 x ask raw a0 hx _ _ _ _ 
theorem rbig (l : List A7) (c : Nat) (bw : Bl) (cb i : Nat) (T : List (Bl × Nat)) (en ck : Nat) (f : Nat → Option Value) (hd : ∀ x ∈ l, x.x.ok = true ∧ (bs x.x.n).length ≤ 3000 ∧ (bs x.x.d).length ≤ 3000) (hl40 : l.length ≤ 40) (hbw : bw.length ≤ 100) (hcb : bw.length ≤ cb ∧ cb ≤ 9223372036854775807) (h1 : i < l.length) (x : RcX) (ask raw : Bool) (a0 : Int) (hx : l[i] = ⟨x, ask, raw, a0⟩) (b : Bl) (Rs : List Wu) (hsh : b ≠ [] → Rs ≠ []) : CW Try.prog 0 2 (2 + (Try.f9.ntmps - 2)) none (codeAt (loopAt Try.f9 0) [1, 1]) (rbE l c bw cb i T en ck b Rs f) (stepK Try.prog 0 2 (2 + (Try.f9.ntmps - 2)) none (rbE l c bw cb (i + 1) T en ck b Rs)) := by
 cases b with
 | nil => cases Rs with
  | nil => exact rbi_00 l c bw cb i T en ck f hd hl40 hbw hcb h1 x ask raw a0 hx 
  | cons r R => exact rbi_01 l c bw cb i T en ck f hd hl40 hbw hcb h1 x ask raw a0 hx _ _ 
 | cons u us => cases Rs with
  | nil => exact absurd rfl (hsh (List.cons_ne_nil _ _))
  | cons r R => exact rbi_11 l c bw cb i T en ck f hd hl40 hbw hcb h1 x ask raw a0 hx _ _ _ _ 
theorem rbqg (l : List A7) (c : Nat) (bw : Bl) (cb i : Nat) (T : List (Bl × Nat)) (en ck : Nat) (f : Nat → Option Value) (hd : ∀ x ∈ l, x.x.ok = true ∧ (bs x.x.n).length ≤ 3000 ∧ (bs x.x.d).length ≤ 3000) (hl40 : l.length ≤ 40) (hbw : bw.length ≤ 100) (hcb : bw.length ≤ cb ∧ cb ≤ 9223372036854775807) (h1 : i < l.length) (x : RcX) (ask raw : Bool) (a0 : Int) (hx : l[i] = ⟨x, ask, raw, a0⟩) (b : Bl) (Rs : List Wu) (hsh : b ≠ [] → Rs ≠ []) : CW Try.prog 0 2 (2 + (Try.f9.ntmps - 2)) none (codeAt (loopAt Try.f9 0) [1, 0, 0]) (rbE l c bw cb i T en ck b Rs f) (stepK Try.prog 0 2 (2 + (Try.f9.ntmps - 2)) none (rbX l c bw cb i T en ck b Rs x)) := by
 cases b with
 | nil => cases Rs with
  | nil => exact rbq_00 l c bw cb i T en ck f hd hl40 hbw hcb h1 x ask raw a0 hx 
  | cons r R => exact rbq_01 l c bw cb i T en ck f hd hl40 hbw hcb h1 x ask raw a0 hx _ _ 
 | cons u us => cases Rs with
  | nil => exact absurd rfl (hsh (List.cons_ne_nil _ _))
  | cons r R => exact rbq_11 l c bw cb i T en ck f hd hl40 hbw hcb h1 x ask raw a0 hx _ _ _ _ 
theorem rbyg (l : List A7) (c : Nat) (bw : Bl) (cb i : Nat) (T : List (Bl × Nat)) (en ck : Nat) (f : Nat → Option Value) (hd : ∀ x ∈ l, x.x.ok = true ∧ (bs x.x.n).length ≤ 3000 ∧ (bs x.x.d).length ≤ 3000) (hl40 : l.length ≤ 40) (hbw : bw.length ≤ 100) (hcb : bw.length ≤ cb ∧ cb ≤ 9223372036854775807) (h1 : i < l.length) (x : RcX) (ask raw : Bool) (a0 : Int) (hx : l[i] = ⟨x, ask, raw, a0⟩) (b : Bl) (Rs : List Wu) (hsh : b ≠ [] → Rs ≠ []) (hck : recC x = 0) (hbl : b.length ≤ 60000) : CW Try.prog 0 2 (2 + (Try.f9.ntmps - 2)) none (codeAt (loopAt Try.f9 0) [1, 0, 1, 0]) (rbX l c bw cb i T en ck b Rs x f) (stepK Try.prog 0 2 (2 + (Try.f9.ntmps - 2)) none (rbX l c bw cb i T en ck b Rs x)) := by
 cases b with
 | nil => cases Rs with
  | nil => exact rby_100 l c bw cb i T en ck f hd hl40 hbw hcb h1 x ask raw a0 hx hck
  | cons r R => exact rby_101 l c bw cb i T en ck f hd hl40 hbw hcb h1 x ask raw a0 hx _ _ hck
 | cons u us => cases Rs with
  | nil => exact absurd rfl (hsh (List.cons_ne_nil _ _))
  | cons r R => exact rby_111 l c bw cb i T en ck f hd hl40 hbw hcb h1 x ask raw a0 hx _ _ _ _ hck hbl
theorem rbyn (l : List A7) (c : Nat) (bw : Bl) (cb i : Nat) (T : List (Bl × Nat)) (en ck : Nat) (f : Nat → Option Value) (hd : ∀ x ∈ l, x.x.ok = true ∧ (bs x.x.n).length ≤ 3000 ∧ (bs x.x.d).length ≤ 3000) (hl40 : l.length ≤ 40) (hbw : bw.length ≤ 100) (hcb : bw.length ≤ cb ∧ cb ≤ 9223372036854775807) (h1 : i < l.length) (x : RcX) (ask raw : Bool) (a0 : Int) (hx : l[i] = ⟨x, ask, raw, a0⟩) (b : Bl) (Rs : List Wu) (hsh : b ≠ [] → Rs ≠ []) (hno : ¬ (recC x = 0 ∧ b.length ≤ 60000)) : CW Try.prog 0 2 (2 + (Try.f9.ntmps - 2)) none (codeAt (loopAt Try.f9 0) [1, 0, 1, 0]) (rbX l c bw cb i T en ck b Rs x f) (fun x s1 => x = .exit 1 ∧ ∃ f, RcM Try.prog 0 2 (2 + (Try.f9.ntmps - 2)) none s1 (rbE l c bw cb i T en ck b Rs f)) := by
 cases b with
 | nil => cases Rs with
  | nil => exact rby_000 l c bw cb i T en ck f hd hl40 hbw hcb h1 x ask raw a0 hx (fun h => hno ⟨h, Nat.zero_le _⟩)
  | cons r R => exact rby_001 l c bw cb i T en ck f hd hl40 hbw hcb h1 x ask raw a0 hx _ _ (fun h => hno ⟨h, Nat.zero_le _⟩)
 | cons u us => cases Rs with
  | nil => exact absurd rfl (hsh (List.cons_ne_nil _ _))
  | cons r R => exact rby_011 l c bw cb i T en ck f hd hl40 hbw hcb h1 x ask raw a0 hx _ _ _ _ (by
   by_cases h : recC x = 0
   ·exact .inr (Nat.lt_of_not_le fun h2 => hno ⟨h, h2⟩)
   ·exact .inl h)
theorem rbzg (l : List A7) (c : Nat) (bw : Bl) (cb i : Nat) (T : List (Bl × Nat)) (en ck : Nat) (f : Nat → Option Value) (hd : ∀ x ∈ l, x.x.ok = true ∧ (bs x.x.n).length ≤ 3000 ∧ (bs x.x.d).length ≤ 3000) (hl40 : l.length ≤ 40) (hbw : bw.length ≤ 100) (hcb : bw.length ≤ cb ∧ cb ≤ 9223372036854775807) (h1 : i < l.length) (x : RcX) (ask raw : Bool) (a0 : Int) (hx : l[i] = ⟨x, ask, raw, a0⟩) (b : Bl) (Rs : List Wu) (hsh : b ≠ [] → Rs ≠ []) (hbl : b.length ≤ 60000) (k : Nat) (hk : pickI a0 (IntKind.i64.wrap ((bw.length : Int) + 1)) = (k : Int)) (hkl : k ≤ bw.length) : CW Try.prog 0 2 (2 + (Try.f9.ntmps - 2)) none (codeAt (loopAt Try.f9 0) [1, 0, 1, 1, 0]) (rbX l c bw cb i T en ck b Rs x f) (stepK Try.prog 0 2 (2 + (Try.f9.ntmps - 2)) none (rbX l c bw cb i T en ck (b ++ bw.take k) Rs x)) := by
 cases hW : bw.take k with
 | nil =>
  rw [List.append_nil]
  cases b with
  | nil => cases Rs with
   | nil => exact rbz_000 l c bw cb i T en ck f hd hl40 hbw hcb h1 x ask raw a0 hx k hk hkl hW
   | cons r R => exact rbz_001 l c bw cb i T en ck f hd hl40 hbw hcb h1 x ask raw a0 hx _ _ k hk hkl hW
  | cons u us => cases Rs with
   | nil => exact absurd rfl (hsh (List.cons_ne_nil _ _))
   | cons r R => exact rbz_011 l c bw cb i T en ck f hd hl40 hbw hcb h1 x ask raw a0 hx _ _ _ _ hbl k hk hkl hW
 | cons v vs =>
  cases b with
  | nil => cases Rs with
   | nil => exact rbz_100 l c bw cb i T en ck f hd hl40 hbw hcb h1 x ask raw a0 hx _ _ k hk hkl hW
   | cons r R => exact rbz_101 l c bw cb i T en ck f hd hl40 hbw hcb h1 x ask raw a0 hx _ _ _ _ k hk hkl hW
  | cons u us => cases Rs with
   | nil => exact absurd rfl (hsh (List.cons_ne_nil _ _))
   | cons r R => exact rbz_111 l c bw cb i T en ck f hd hl40 hbw hcb h1 x ask raw a0 hx _ _ _ _ hbl _ _ k hk hkl hW
theorem rbmg (l : List A7) (c : Nat) (bw : Bl) (cb i : Nat) (T : List (Bl × Nat)) (en ck : Nat) (f : Nat → Option Value) (hd : ∀ x ∈ l, x.x.ok = true ∧ (bs x.x.n).length ≤ 3000 ∧ (bs x.x.d).length ≤ 3000) (hl40 : l.length ≤ 40) (hbw : bw.length ≤ 100) (hcb : bw.length ≤ cb ∧ cb ≤ 9223372036854775807) (h1 : i < l.length) (x : RcX) (ask raw : Bool) (a0 : Int) (hx : l[i] = ⟨x, ask, raw, a0⟩) (b : Bl) (Rs : List Wu) : CW Try.prog 0 2 (2 + (Try.f9.ntmps - 2)) none (codeAt (loopAt Try.f9 0) [1, 0, 1, 1, 1, 0]) (rbX l c bw cb i T en ck b Rs x f) (stepK Try.prog 0 2 (2 + (Try.f9.ntmps - 2)) none (rbX l c bw cb i T en ck b Rs x)) := by
 cases b <;> cases Rs
 ·exact rbm_00 l c bw cb i T en ck f hd hl40 hbw hcb h1 x ask raw a0 hx 
 ·exact rbm_01 l c bw cb i T en ck f hd hl40 hbw hcb h1 x ask raw a0 hx _ _ 
 ·exact rbm_10 l c bw cb i T en ck f hd hl40 hbw hcb h1 x ask raw a0 hx _ _ 
 ·exact rbm_11 l c bw cb i T en ck f hd hl40 hbw hcb h1 x ask raw a0 hx _ _ _ _ 
theorem rbng (l : List A7) (c : Nat) (bw : Bl) (cb i : Nat) (T : List (Bl × Nat)) (en ck : Nat) (f : Nat → Option Value) (hd : ∀ x ∈ l, x.x.ok = true ∧ (bs x.x.n).length ≤ 3000 ∧ (bs x.x.d).length ≤ 3000) (hl40 : l.length ≤ 40) (hbw : bw.length ≤ 100) (hcb : bw.length ≤ cb ∧ cb ≤ 9223372036854775807) (h1 : i < l.length) (x : RcX) (ask raw : Bool) (a0 : Int) (hx : l[i] = ⟨x, ask, raw, a0⟩) (b : Bl) (Rs : List Wu) : CW Try.prog 0 2 (2 + (Try.f9.ntmps - 2)) none (codeAt (loopAt Try.f9 0) [1, 0, 1, 1, 1, 1, 0]) (rbX l c bw cb i T en ck b Rs x f) (stepK Try.prog 0 2 (2 + (Try.f9.ntmps - 2)) none (rbX l c bw cb i T en ck b Rs x)) := by
 cases b <;> cases Rs
 ·exact rbn_00 l c bw cb i T en ck f hd hl40 hbw hcb h1 x ask raw a0 hx 
 ·exact rbn_01 l c bw cb i T en ck f hd hl40 hbw hcb h1 x ask raw a0 hx _ _ 
 ·exact rbn_10 l c bw cb i T en ck f hd hl40 hbw hcb h1 x ask raw a0 hx _ _ 
 ·exact rbn_11 l c bw cb i T en ck f hd hl40 hbw hcb h1 x ask raw a0 hx _ _ _ _ 
def actB (en : Nat) (T : List (Bl × Nat)) (a : Int) (ask : Bool) (x : RcX) : Int × Bl × List (Bl × Nat) × Nat := match ask with
 | true => askD en T a x.n x.t x.c
 | false => recD en T a x
theorem rbwg (l : List A7) (c : Nat) (bw : Bl) (cb i : Nat) (T : List (Bl × Nat)) (en ck : Nat) (f : Nat → Option Value) (hd : ∀ x ∈ l, x.x.ok = true ∧ (bs x.x.n).length ≤ 3000 ∧ (bs x.x.d).length ≤ 3000) (hl40 : l.length ≤ 40) (hbw : bw.length ≤ 100) (hcb : bw.length ≤ cb ∧ cb ≤ 9223372036854775807) (h1 : i < l.length) (x : RcX) (ask raw : Bool) (a0 : Int) (hx : l[i] = ⟨x, ask, raw, a0⟩) (b : Bl) (Rs : List Wu) (v : UInt8) (vs : Bl) (F : List (Bl × Nat)) (en' : Nat) (hg : goodT T) (hD : actB en T (b.length : Int) ask x = (0, v :: vs, F, en')) : CW Try.prog 0 2 (2 + (Try.f9.ntmps - 2)) none (codeAt (loopAt Try.f9 0) [1, 0, 1, 1, 1, 1, 1, 0]) (rbX l c bw cb i T en ck b Rs x f) (stepK Try.prog 0 2 (2 + (Try.f9.ntmps - 2)) none (rbF l c bw cb i (T ++ F) en' (ck + F.length) b Rs v vs)) := by
 cases ask <;> cases b <;> cases Rs
 ·exact rbw_000 l c bw cb i T en ck f hd hl40 hbw hcb h1 x raw a0 hx v vs F en' hg hD
 ·exact rbw_001 l c bw cb i T en ck f hd hl40 hbw hcb h1 x raw a0 hx _ _ v vs F en' hg hD
 ·exact rbw_010 l c bw cb i T en ck f hd hl40 hbw hcb h1 x raw a0 hx _ _ v vs F en' hg hD
 ·exact rbw_011 l c bw cb i T en ck f hd hl40 hbw hcb h1 x raw a0 hx _ _ _ _ v vs F en' hg hD
 ·exact rbw_100 l c bw cb i T en ck f hd hl40 hbw hcb h1 x raw a0 hx v vs F en' hg hD
 ·exact rbw_101 l c bw cb i T en ck f hd hl40 hbw hcb h1 x raw a0 hx _ _ v vs F en' hg hD
 ·exact rbw_110 l c bw cb i T en ck f hd hl40 hbw hcb h1 x raw a0 hx _ _ v vs F en' hg hD
 ·exact rbw_111 l c bw cb i T en ck f hd hl40 hbw hcb h1 x raw a0 hx _ _ _ _ v vs F en' hg hD
theorem rbug (l : List A7) (c : Nat) (bw : Bl) (cb i : Nat) (T : List (Bl × Nat)) (en ck : Nat) (f : Nat → Option Value) (hd : ∀ x ∈ l, x.x.ok = true ∧ (bs x.x.n).length ≤ 3000 ∧ (bs x.x.d).length ≤ 3000) (hl40 : l.length ≤ 40) (hbw : bw.length ≤ 100) (hcb : bw.length ≤ cb ∧ cb ≤ 9223372036854775807) (h1 : i < l.length) (x : RcX) (ask raw : Bool) (a0 : Int) (hx : l[i] = ⟨x, ask, raw, a0⟩) (b : Bl) (Rs : List Wu) (v : UInt8) (vs : Bl) : CW Try.prog 0 2 (2 + (Try.f9.ntmps - 2)) none (codeAt (loopAt Try.f9 0) [1, 0, 1, 1, 1, 1, 1, 1, 0]) (rbF l c bw cb i T en ck b Rs v vs f) (stepK Try.prog 0 2 (2 + (Try.f9.ntmps - 2)) none (rbF l c bw cb i T en ck b Rs v vs)) := by
 cases b <;> cases Rs
 ·exact rbu_00 l c bw cb i T en ck f hd hl40 hbw hcb h1 x ask raw a0 hx v vs
 ·exact rbu_01 l c bw cb i T en ck f hd hl40 hbw hcb h1 x ask raw a0 hx _ _ v vs
 ·exact rbu_10 l c bw cb i T en ck f hd hl40 hbw hcb h1 x ask raw a0 hx _ _ v vs
 ·exact rbu_11 l c bw cb i T en ck f hd hl40 hbw hcb h1 x ask raw a0 hx _ _ _ _ v vs
theorem rbsg (l : List A7) (c : Nat) (bw : Bl) (cb i : Nat) (T : List (Bl × Nat)) (en ck : Nat) (f : Nat → Option Value) (hd : ∀ x ∈ l, x.x.ok = true ∧ (bs x.x.n).length ≤ 3000 ∧ (bs x.x.d).length ≤ 3000) (hl40 : l.length ≤ 40) (hbw : bw.length ≤ 100) (hcb : bw.length ≤ cb ∧ cb ≤ 9223372036854775807) (h1 : i < l.length) (x : RcX) (ask raw : Bool) (a0 : Int) (hx : l[i] = ⟨x, ask, raw, a0⟩) (b : Bl) (Rs : List Wu) (v : UInt8) (vs : Bl) (hus : b.length ≤ 70000) (hvs : vs.length + 1 ≤ 70000) (hRl : Rs.length ≤ 40) : CW Try.prog 0 2 (2 + (Try.f9.ntmps - 2)) none (codeAt (loopAt Try.f9 0) [1, 0, 1, 1, 1, 1, 1, 1, 1]) (rbF l c bw cb i T en ck b Rs v vs f) (stepK Try.prog 0 2 (2 + (Try.f9.ntmps - 2)) none (rbE l c bw cb i T en ck (b ++ v :: vs) (Rs ++ [(b.length, b.length + (v :: vs).length, (⟨x, ask, raw, a0⟩ : A7))]))) := by
 cases b <;> cases Rs
 ·rw [List.length_nil, Nat.zero_add]; exact rbs_00 l c bw cb i T en ck f hd hl40 hbw hcb h1 x ask raw a0 hx v vs hvs
 ·rw [List.length_nil, Nat.zero_add]; exact rbs_01 l c bw cb i T en ck f hd hl40 hbw hcb h1 x ask raw a0 hx _ _ v vs hvs (Nat.le_trans (Nat.le_succ _) hRl)
 ·exact rbs_10 l c bw cb i T en ck f hd hl40 hbw hcb h1 x ask raw a0 hx _ _ v vs hus hvs
 ·exact rbs_11 l c bw cb i T en ck f hd hl40 hbw hcb h1 x ask raw a0 hx _ _ _ _ v vs hus hvs (Nat.le_trans (Nat.le_succ _) hRl)
def okU (b : Bl) (y : Wu) : Prop := ∀ C : Bl, (b ++ C).length < 9223372036854775807 → (∃ m, queQ (b ++ C) (y.1 : Int) (quV y.2.2.x m) ∧ (y.2.2.ask = true → m = y.2.1)) ∧ (y.2.2.ask = false → recQ (b ++ C) (y.1 : Int) (rcV y.2.2.x y.2.1))
theorem okU.app {b : Bl} {y : Wu} (h : okU b y) (D : Bl) : okU (b ++ D) y := fun C hC => by
 rw [List.append_assoc] at hC ⊢; exact h (D ++ C) hC
structure RbI (i : Nat) (b : Bl) (Rs : List Wu) (T : List (Bl × Nat)) (en : Nat) : Prop where
 g : goodT T
 k : knowsN b T b.length
 e : en ≤ b.length
 bl : b.length ≤ 63500
 rl : Rs.length ≤ i
 sh : b ≠ [] → Rs ≠ []
 ok : ∀ y ∈ Rs, okU b y
theorem act_back {en a : Nat} {T : List (Bl × Nat)} {x : RcX} {ask : Bool} (hx : recC x = 0) (hg : goodT T) (hen : en ≤ a) (hd : (bs x.d).length ≤ 3000) (ha : a ≤ 60200) {e : Int} {W : Bl} {F : List (Bl × Nat)} {en' : Nat} (hD : actB en T (a : Int) ask x = (e, W, F, en')) : e = 0 ∧ W ≠ [] ∧ W.length ≤ 3300 ∧ en' ≤ a + W.length ∧ goodT (T ++ F) ∧
  (∀ B : Bl, a + W.length ≤ B.length → B.length < 9223372036854775807 → (B.drop a).take W.length = W → knowsN B T a → ((∃ m, queQ B (a : Int) (quV x m) ∧ (ask = true → m = a + W.length)) ∧ (ask = false → recQ B (a : Int) (rcV x (a + W.length)))) ∧ knowsN B (T ++ F) (a + W.length)) := by
 cases ask with
 | true =>
  have hD : askD en T (a : Int) x.n x.t x.c = (e, W, F, en') := hD
  obtain ⟨h1, h2, h3, h4, h5⟩ := ask_back hx hen (by omega) hD
  refine ⟨h1, h2, by omega, h4, by have := zOn (en := en) (a := (a : Int)) (n := x.n) (t := x.t) (c := x.c) hg; rw [hD] at this; exact this, fun B q1 q2 q3 q4 => ?_⟩
  obtain ⟨k1, k2⟩ := h5 B q1 q3 q4
  exact ⟨⟨⟨_, k1, fun _ => rfl⟩, fun h => by cases h⟩, k2⟩
 | false =>
  have hD : recD en T (a : Int) x = (e, W, F, en') := hD
  obtain ⟨h1, h2, h3, h4, h5⟩ := rec_back hx hen (by omega) hD
  refine ⟨h1, h2, by omega, h4, by have := recD_good (en := en) (a := (a : Int)) (x := x) hg; rw [hD] at this; exact this, fun B q1 q2 q3 q4 => ?_⟩
  obtain ⟨k1, ⟨m, k2⟩, k3⟩ := h5 B q1 q2 q3 q4
  exact ⟨⟨⟨m, k2, fun h => by cases h⟩, fun _ => k1⟩, k3⟩
theorem rb_body (l : List A7) (c : Nat) (bw : Bl) (cb i : Nat) (T : List (Bl × Nat)) (en ck : Nat) (f : Nat → Option Value) (hd : ∀ x ∈ l, x.x.ok = true ∧ (bs x.x.n).length ≤ 3000 ∧ (bs x.x.d).length ≤ 3000) (hl40 : l.length ≤ 40) (hbw : bw.length ≤ 100) (hcb : bw.length ≤ cb ∧ cb ≤ 9223372036854775807) (h1 : i < l.length) (x : RcX) (ask raw : Bool) (a0 : Int) (hx : l[i] = ⟨x, ask, raw, a0⟩) (b : Bl) (Rs : List Wu) (hI : RbI i b Rs T en) : ∃ (T' : List (Bl × Nat)) (en' ck' : Nat) (b' : Bl) (Rs' : List Wu), RbI (i + 1) b' Rs' T' en' ∧ CW Try.prog 0 2 (2 + (Try.f9.ntmps - 2)) none (loopAt Try.f9 0) (rbE l c bw cb i T en ck b Rs f) (stepK Try.prog 0 2 (2 + (Try.f9.ntmps - 2)) none (rbE l c bw cb (i + 1) T' en' ck' b' Rs')) := by
 obtain ⟨hg, hK, he, hbl, hrl, hsh, hok⟩ := hI
 by_cases hgo : recC x = 0 ∧ b.length ≤ 60000
 rotate_left
 ·refine ⟨T, en, ck, b, Rs, ⟨hg, hK, he, hbl, by omega, hsh, hok⟩, ?_⟩
  refine zEq (rbE l c bw cb i T en ck b Rs) (rbxg l c bw cb i T en ck f hd hl40 hbw hcb h1 x ask raw a0 hx b Rs hsh) (fun f => ?_)
  refine zEq (rbE l c bw cb i T en ck b Rs) ?_ (fun f => rbig l c bw cb i T en ck f hd hl40 hbw hcb h1 x ask raw a0 hx b Rs hsh)
  exact cw_cont2 (rbX l c bw cb i T en ck b Rs x) (rbqg l c bw cb i T en ck f hd hl40 hbw hcb h1 x ask raw a0 hx b Rs hsh) (fun f => rbyn l c bw cb i T en ck f hd hl40 hbw hcb h1 x ask raw a0 hx b Rs hsh hgo)
 obtain ⟨hck, hb6⟩ := hgo
 obtain ⟨k, hk, hkl⟩ : ∃ k : Nat, pickI a0 (IntKind.i64.wrap ((bw.length : Int) + 1)) = (k : Int) ∧ k ≤ bw.length := by
  rw [wrapN (by omega) (by omega), pickI_of (by omega) (by omega)]
  have e1 := Int.emod_nonneg a0 (show ((bw.length : Int) + 1) ≠ 0 by omega)
  have e2 := Int.emod_lt_of_pos a0 (show 0 < ((bw.length : Int) + 1) by omega)
  exact ⟨(a0 % ((bw.length : Int) + 1)).toNat, by omega, by omega⟩
 obtain ⟨b1, hb1⟩ : ∃ b1, b ++ bw.take k = b1 := ⟨_, rfl⟩
 have hb1l : b1.length ≤ b.length + 100 := by rw [← hb1, List.length_append, List.length_take]; omega
 have hbb1 : b.length ≤ b1.length := by rw [← hb1, List.length_append]; omega
 have hK1 : knowsN b1 T b1.length := by rw [← hb1]; exact (hK.app _).mono (by rw [hb1]; exact hbb1)
 have hdl : (bs x.d).length ≤ 3000 := (factU hd i h1 hx).2.2.2.2.2.2
 obtain ⟨⟨e, W, F, en'⟩, hD⟩ : ∃ R, actB en T (b1.length : Int) ask x = R := ⟨_, rfl⟩
 obtain ⟨he0, hWne, hWl, hen', hgF, hback⟩ := act_back hck hg (show en ≤ b1.length by omega) hdl (by omega) hD
 subst he0
 obtain ⟨v, vs, rfl⟩ : ∃ v vs, W = v :: vs := by cases W with | nil => exact absurd rfl hWne | cons v vs => exact ⟨v, vs, rfl⟩
 have hvl : vs.length + 1 ≤ 3300 := hWl
 have hcut : ∀ C : Bl, ((b1 ++ (v :: vs) ++ C).drop b1.length).take (v :: vs).length = v :: vs := fun C => by rw [List.append_assoc, List.drop_left, List.take_left]
 have hbk := fun (C : Bl) (hC : (b1 ++ (v :: vs) ++ C).length < 9223372036854775807) => hback (b1 ++ (v :: vs) ++ C) (by simp) hC (hcut C) (by rw [List.append_assoc]; exact hK1.app _)
 have hlen : (b1 ++ v :: vs).length = b1.length + (v :: vs).length := List.length_append
 refine ⟨T ++ F, en', ck + F.length, b1 ++ v :: vs, Rs ++ [(b1.length, b1.length + (v :: vs).length, (⟨x, ask, raw, a0⟩ : A7))], ⟨hgF, ?_, by rw [hlen]; exact hen', by rw [hlen]; omega, by simp; omega, fun _ => by simp, fun y hy => ?_⟩, ?_⟩
 ·have := (hbk [] (by rw [List.append_nil, hlen]; omega)).2
  rw [List.append_nil] at this
  rw [hlen]; exact this
 ·rcases List.mem_append.1 hy with hy | hy
  ·have := hok y hy
   rw [← hb1]
   exact (this.app _).app _
  ·simp only [List.mem_singleton] at hy
   subst hy
   exact fun C hC => (hbk C hC).1
 ·refine zEq (rbE l c bw cb i T en ck b Rs) (rbxg l c bw cb i T en ck f hd hl40 hbw hcb h1 x ask raw a0 hx b Rs hsh) (fun f => ?_)
  refine zEq (rbE l c bw cb i (T ++ F) en' (ck + F.length) (b1 ++ v :: vs) (Rs ++ [(b1.length, b1.length + (v :: vs).length, (⟨x, ask, raw, a0⟩ : A7))])) ?_ (fun f => rbig l c bw cb i (T ++ F) en' (ck + F.length) f hd hl40 hbw hcb h1 x ask raw a0 hx _ _ (fun _ => by simp))
  refine cw_blk _ ?_
  refine zEq (rbX l c bw cb i T en ck b Rs x) (rbqg l c bw cb i T en ck f hd hl40 hbw hcb h1 x ask raw a0 hx b Rs hsh) (fun f => ?_)
  refine zEq (rbX l c bw cb i T en ck b Rs x) (rbyg l c bw cb i T en ck f hd hl40 hbw hcb h1 x ask raw a0 hx b Rs hsh hck hb6) (fun f => ?_)
  refine zEq (rbX l c bw cb i T en ck b1 Rs x) (by rw [← hb1]; exact rbzg l c bw cb i T en ck f hd hl40 hbw hcb h1 x ask raw a0 hx b Rs hsh hb6 k hk hkl) (fun f => ?_)
  refine zEq (rbX l c bw cb i T en ck b1 Rs x) (rbmg l c bw cb i T en ck f hd hl40 hbw hcb h1 x ask raw a0 hx b1 Rs) (fun f => ?_)
  refine zEq (rbX l c bw cb i T en ck b1 Rs x) (rbng l c bw cb i T en ck f hd hl40 hbw hcb h1 x ask raw a0 hx b1 Rs) (fun f => ?_)
  refine zEq (rbF l c bw cb i (T ++ F) en' (ck + F.length) b1 Rs v vs) (rbwg l c bw cb i T en ck f hd hl40 hbw hcb h1 x ask raw a0 hx b1 Rs v vs F en' hg hD) (fun f => ?_)
  refine zEq (rbF l c bw cb i (T ++ F) en' (ck + F.length) b1 Rs v vs) (rbug l c bw cb i (T ++ F) en' (ck + F.length) f hd hl40 hbw hcb h1 x ask raw a0 hx b1 Rs v vs) (fun f => ?_)
  exact rbsg l c bw cb i (T ++ F) en' (ck + F.length) f hd hl40 hbw hcb h1 x ask raw a0 hx b1 Rs v vs (by omega) (by omega) (by omega)
end Go.Proofs.Ytmpaeabkdhjamaa
namespace Go.Proofs.Ytmpaeabkdhjamaa
open Go Go.RowKit
theorem zNz {H : Tr AObj} {b : Nat} {t : TypeId} {z : Nat} {C : List Value} (h : (H.get b).bind (AObj.as t z) = some C) : seesB H b t z C := h
theorem factR (R : List Wu) (k : Nat) (hk : k < R.length) {Y : Wu} (hY : R[k] = Y) : inI (k : Int) R.length = true ∧ (R.map atU)[0 + ((k : Int)).toNat * (Try.prog.types[3]).size]? = some (.int .i64 (Y.1 : Int)) ∧ (R.map enU)[0 + ((k : Int)).toNat * (Try.prog.types[3]).size]? = some (.int .i64 (Y.2.1 : Int)) ∧
  (∀ j, j < 8 → (R.flatMap acU)[0 + ((k : Int)).toNat * (Try.prog.types[41]).size + j]? = (acU Y)[j]?) ∧
  (0 + ((k : Int)).toNat * (Try.prog.types[41]).size + 0 + 5 ≤ (R.flatMap acU).length ∧ ((R.flatMap acU).drop (0 + ((k : Int)).toNat * (Try.prog.types[41]).size + 0)).take 5 = (acU Y).take 5) := by
 have i1s : (Try.prog.types[3]).size = 1 := by kernel_rfl
 have hsz : (Try.prog.types[41]).size = 8 := by kernel_rfl
 have h2 := zEx acU 8 (fun _ => rfl) R k hk
 rw [hY] at h2
 refine ⟨by simp [inI]; omega, ?_, ?_, fun j hj => ?_, ?_, ?_⟩
 ·rw [i1s, Int.toNat_natCast, Nat.zero_add, Nat.mul_one, List.getElem?_map, List.getElem?_eq_getElem hk, hY]; rfl
 ·rw [i1s, Int.toNat_natCast, Nat.zero_add, Nat.mul_one, List.getElem?_map, List.getElem?_eq_getElem hk, hY]; rfl
 ·rw [hsz, Int.toNat_natCast, Nat.zero_add, ← h2.2, List.getElem?_take_of_lt hj, List.getElem?_drop]
 ·rw [hsz, Int.toNat_natCast, zQv]; omega
 ·rw [hsz, Int.toNat_natCast, Nat.zero_add, Nat.add_zero, ← h2.2, List.take_take]; rfl
def zSd (bw : Bl) (r : Wu) (R : List Wu) (k : Nat) (f : Nat → Option Value) : Fs := ⟨slots 8 [(7, .slice (some ⟨1, 0, none⟩) 0 0), (5, .bool true), (8, .slice (some ⟨2, 0, none⟩) (R.length + 1) U), (9, .slice (some ⟨3, 0, none⟩) (R.length + 1) U), (10, .slice (some ⟨4, 0, none⟩) (R.length + 1) U), (15, .int .i64 (k : Int))] f, heap 3 [(1, .win (bw.map byV) 1), (2, .cells ((r :: R).map atU) 3), (3, .cells ((r :: R).map enU) 3), (4, .cells ((r :: R).flatMap acU) 41)], 5, [], []⟩
theorem zVx (bw : Bl) (r : Wu) (R : List Wu) (k : Nat) (f : Nat → Option Value) (hus : ([] : Bl).length ≤ 70000) (hRl : (r :: R).length ≤ 40) (hk : k < (r :: R).length) (ya ye : Nat) (x : RcX) (raw : Bool) (q0 : Int) (hY : (r :: R)[k] = (ya, ye, ⟨x, false, raw, q0⟩)) (hok : okU ([] : Bl) (ya, ye, ⟨x, false, raw, q0⟩)) : CW Try.prog 0 2 (2 + (Try.f9.ntmps - 2)) none (loopAt Try.f9 1) (zSd bw r R k f) (fun x s1 => x = .normal ∧ ∃ f', RcM Try.prog 0 2 (2 + (Try.f9.ntmps - 2)) none s1 (zSd bw r R (k + 1) f')) := by
 obtain ⟨dom, cat, cen, cac, cx, sub⟩ := factR (r :: R) k hk hY
 have hlen : (r :: R).length = R.length + 1 := rfl
 have hk40 : k < 40 := by omega
 obtain ⟨⟨m, hqu, hm⟩, hrc⟩ := hok [] (by rw [List.append_nil]; omega)
 rw [List.append_nil] at hqu hrc
 obtain ⟨xn, xt, xc, xw, xd⟩ := x
 refine zAo tbRb [1, 2, 3, 4] 2 _ none mixed _ _ _ ?_
 refine ifK (fun _ => ?_) (fun g => absurd (show ((k : Nat) : Int) < ((R.length + 1 : Nat) : Int) by omega) (of_decide_eq_false g))
 refine ifK (fun _ => ?_) (fun h2 => absurd (dom.symm.trans h2) (by decide))
 refine Exists.intro xn (Exists.intro xt (Exists.intro xc (Exists.intro xw (Exists.intro xd (And.intro ⟨cx, sub⟩ ?_)))))
 refine ifK (fun _ => ?_) (fun h2 => absurd (dom.symm.trans h2) (by decide))
 refine Exists.intro (ya : Int) (And.intro cat ?_)
 have eB : RdB.B ⟨1, 0, 0, 0, bw⟩ = ([] : Bl) := rfl
 refine Exists.intro ((⟨1, 0, 0, 0, bw⟩ : RdB), (ya : Int)) (And.intro ⟨rfl, ⟨zNz (by kernel_rfl), Nat.zero_le _⟩, Nat.zero_le _, .inr ⟨Nat.le_refl _, Nat.zero_le _⟩⟩ ?_)
 intro v hq
 have hq : queQ (RdB.B ⟨1, 0, 0, 0, bw⟩) (ya : Int) v := hq
 rw [eB] at hq
 have e := queQ.det hq hqu
 subst e
 refine And.intro (by kernel_rfl) ?_
 refine ifK (fun g => by simp at g) (fun _ => ?_)
 refine ifK (fun _ => ?_) (fun h2 => absurd (dom.symm.trans h2) (by decide))
 refine Exists.intro false (And.intro (cac 5 (by decide)) ?_)
 refine ifK (fun _ => ?_) (fun h2 => absurd (dom.symm.trans h2) (by decide))
 refine Exists.intro false (And.intro (cac 5 (by decide)) ?_)
 refine ifK (fun _ => ?_) (fun h2 => absurd (dom.symm.trans h2) (by decide))
 refine Exists.intro (ya : Int) (And.intro cat ?_)
 refine Exists.intro ((⟨1, 0, 0, 0, bw⟩ : RdB), (ya : Int)) (And.intro ⟨rfl, ⟨zNz (by kernel_rfl), Nat.zero_le _⟩, Nat.zero_le _, .inr ⟨Nat.le_refl _, Nat.zero_le _⟩⟩ ?_)
 intro v hq
 have hq : recQ (RdB.B ⟨1, 0, 0, 0, bw⟩) (ya : Int) v := hq
 rw [eB] at hq
 have e := recQ.det hq (hrc rfl)
 subst e
 refine And.intro (by kernel_rfl) ?_
 refine ifK (fun g => by simp at g) (fun _ => ?_)
 refine ifK (fun _ => ?_) (fun h2 => absurd (dom.symm.trans h2) (by decide))
 refine Exists.intro (ye : Int) (And.intro cen ?_)
 refine ifK (fun g => by simp at g) (fun _ => ?_)
 exact ⟨rfl, rcq [2, 3, 4] ⟨⟨_, rfl, .sl _ _ _ _ _ rfl⟩, ⟨_, rfl, .bool _⟩, ⟨_, rfl, .sl _ _ _ _ _ rfl⟩, ⟨_, rfl, .sl _ _ _ _ _ rfl⟩, ⟨_, rfl, .sl _ _ _ _ _ rfl⟩, zAh rfl (by rw [wrapN (by omega) (by omega)]; omega), trivial⟩ ⟨bpo (byV_plain bw), bpo (zAf (r :: R)), bpo (zAg (r :: R)), bpo (zAe (r :: R)), trivial⟩ .nil⟩
theorem zVy (bw : Bl) (r : Wu) (R : List Wu) (k : Nat) (f : Nat → Option Value) (hus : ([] : Bl).length ≤ 70000) (hRl : (r :: R).length ≤ 40) (hk : k < (r :: R).length) (ya ye : Nat) (x : RcX) (raw : Bool) (q0 : Int) (hY : (r :: R)[k] = (ya, ye, ⟨x, true, raw, q0⟩)) (hok : okU ([] : Bl) (ya, ye, ⟨x, true, raw, q0⟩)) : CW Try.prog 0 2 (2 + (Try.f9.ntmps - 2)) none (loopAt Try.f9 1) (zSd bw r R k f) (fun x s1 => x = .normal ∧ ∃ f', RcM Try.prog 0 2 (2 + (Try.f9.ntmps - 2)) none s1 (zSd bw r R (k + 1) f')) := by
 obtain ⟨dom, cat, cen, cac, cx, sub⟩ := factR (r :: R) k hk hY
 have hlen : (r :: R).length = R.length + 1 := rfl
 have hk40 : k < 40 := by omega
 obtain ⟨⟨m, hqu, hm⟩, hrc⟩ := hok [] (by rw [List.append_nil]; omega)
 rw [List.append_nil] at hqu hrc
 obtain ⟨xn, xt, xc, xw, xd⟩ := x
 refine zAo tbRb [1, 2, 3, 4] 2 _ none mixed _ _ _ ?_
 refine ifK (fun _ => ?_) (fun g => absurd (show ((k : Nat) : Int) < ((R.length + 1 : Nat) : Int) by omega) (of_decide_eq_false g))
 refine ifK (fun _ => ?_) (fun h2 => absurd (dom.symm.trans h2) (by decide))
 refine Exists.intro xn (Exists.intro xt (Exists.intro xc (Exists.intro xw (Exists.intro xd (And.intro ⟨cx, sub⟩ ?_)))))
 refine ifK (fun _ => ?_) (fun h2 => absurd (dom.symm.trans h2) (by decide))
 refine Exists.intro (ya : Int) (And.intro cat ?_)
 have eB : RdB.B ⟨1, 0, 0, 0, bw⟩ = ([] : Bl) := rfl
 refine Exists.intro ((⟨1, 0, 0, 0, bw⟩ : RdB), (ya : Int)) (And.intro ⟨rfl, ⟨zNz (by kernel_rfl), Nat.zero_le _⟩, Nat.zero_le _, .inr ⟨Nat.le_refl _, Nat.zero_le _⟩⟩ ?_)
 intro v hq
 have hq : queQ (RdB.B ⟨1, 0, 0, 0, bw⟩) (ya : Int) v := hq
 rw [eB] at hq
 have e := queQ.det hq hqu
 subst e
 refine And.intro (by kernel_rfl) ?_
 refine ifK (fun g => by simp at g) (fun _ => ?_)
 refine ifK (fun _ => ?_) (fun h2 => absurd (dom.symm.trans h2) (by decide))
 refine Exists.intro true (And.intro (cac 5 (by decide)) ?_)
 refine ifK (fun _ => ?_) (fun h2 => absurd (dom.symm.trans h2) (by decide))
 refine Exists.intro (ye : Int) (And.intro cen ?_)
 refine ifK (fun g => by rw [hm rfl] at g; simp at g) (fun _ => ?_)
 refine ifK (fun _ => ?_) (fun h2 => absurd (dom.symm.trans h2) (by decide))
 refine Exists.intro true (And.intro (cac 5 (by decide)) ?_)
 exact ⟨rfl, rcq [2, 3, 4] ⟨⟨_, rfl, .sl _ _ _ _ _ rfl⟩, ⟨_, rfl, .bool _⟩, ⟨_, rfl, .sl _ _ _ _ _ rfl⟩, ⟨_, rfl, .sl _ _ _ _ _ rfl⟩, ⟨_, rfl, .sl _ _ _ _ _ rfl⟩, zAh rfl (by rw [wrapN (by omega) (by omega)]; omega), trivial⟩ ⟨bpo (byV_plain bw), bpo (zAf (r :: R)), bpo (zAg (r :: R)), bpo (zAe (r :: R)), trivial⟩ .nil⟩
def zSe (u : UInt8) (us : Bl) (r : Wu) (R : List Wu) (k : Nat) (f : Nat → Option Value) : Fs := ⟨slots 8 [(7, .slice (some ⟨2, 0, none⟩) (us.length + 1) U), (5, .bool true), (8, .slice (some ⟨3, 0, none⟩) (R.length + 1) U), (9, .slice (some ⟨4, 0, none⟩) (R.length + 1) U), (10, .slice (some ⟨5, 0, none⟩) (R.length + 1) U), (15, .int .i64 (k : Int))] f, heap 3 [(2, .cells ((u :: us).map byV) 5), (3, .cells ((r :: R).map atU) 3), (4, .cells ((r :: R).map enU) 3), (5, .cells ((r :: R).flatMap acU) 41)], 6, [], []⟩
theorem zVz (u : UInt8) (us : Bl) (r : Wu) (R : List Wu) (k : Nat) (f : Nat → Option Value) (hus : (u :: us).length ≤ 70000) (hRl : (r :: R).length ≤ 40) (hk : k < (r :: R).length) (ya ye : Nat) (x : RcX) (raw : Bool) (q0 : Int) (hY : (r :: R)[k] = (ya, ye, ⟨x, false, raw, q0⟩)) (hok : okU (u :: us) (ya, ye, ⟨x, false, raw, q0⟩)) : CW Try.prog 0 2 (2 + (Try.f9.ntmps - 2)) none (loopAt Try.f9 1) (zSe u us r R k f) (fun x s1 => x = .normal ∧ ∃ f', RcM Try.prog 0 2 (2 + (Try.f9.ntmps - 2)) none s1 (zSe u us r R (k + 1) f')) := by
 obtain ⟨dom, cat, cen, cac, cx, sub⟩ := factR (r :: R) k hk hY
 have hlen : (r :: R).length = R.length + 1 := rfl
 have hk40 : k < 40 := by omega
 obtain ⟨⟨m, hqu, hm⟩, hrc⟩ := hok [] (by rw [List.append_nil]; omega)
 rw [List.append_nil] at hqu hrc
 obtain ⟨xn, xt, xc, xw, xd⟩ := x
 refine zAo tbRb [2, 3, 4, 5] 2 _ none mixed _ _ _ ?_
 refine ifK (fun _ => ?_) (fun g => absurd (show ((k : Nat) : Int) < ((R.length + 1 : Nat) : Int) by omega) (of_decide_eq_false g))
 refine ifK (fun _ => ?_) (fun h2 => absurd (dom.symm.trans h2) (by decide))
 refine Exists.intro xn (Exists.intro xt (Exists.intro xc (Exists.intro xw (Exists.intro xd (And.intro ⟨cx, sub⟩ ?_)))))
 refine ifK (fun _ => ?_) (fun h2 => absurd (dom.symm.trans h2) (by decide))
 refine Exists.intro (ya : Int) (And.intro cat ?_)
 have eB : RdB.B ⟨2, 0, us.length + 1, U, u :: us⟩ = (u :: us) := (by show ((u :: us).drop 0).take (us.length + 1) = u :: us; rw [List.drop_zero]; exact List.take_of_length_le (by simp))
 refine Exists.intro ((⟨2, 0, us.length + 1, U, u :: us⟩ : RdB), (ya : Int)) (And.intro ⟨rfl, ⟨(zEk (show Tr.get _ 2 = some (AObj.cells ((u :: us).map byV) _) from rfl)), (by simp)⟩, (show us.length + 1 ≤ 1000000 by simp at hus; omega), .inl rfl⟩ ?_)
 intro v hq
 have hq : queQ (RdB.B ⟨2, 0, us.length + 1, U, u :: us⟩) (ya : Int) v := hq
 rw [eB] at hq
 have e := queQ.det hq hqu
 subst e
 refine And.intro (by kernel_rfl) ?_
 refine ifK (fun g => by simp at g) (fun _ => ?_)
 refine ifK (fun _ => ?_) (fun h2 => absurd (dom.symm.trans h2) (by decide))
 refine Exists.intro false (And.intro (cac 5 (by decide)) ?_)
 refine ifK (fun _ => ?_) (fun h2 => absurd (dom.symm.trans h2) (by decide))
 refine Exists.intro false (And.intro (cac 5 (by decide)) ?_)
 refine ifK (fun _ => ?_) (fun h2 => absurd (dom.symm.trans h2) (by decide))
 refine Exists.intro (ya : Int) (And.intro cat ?_)
 refine Exists.intro ((⟨2, 0, us.length + 1, U, u :: us⟩ : RdB), (ya : Int)) (And.intro ⟨rfl, ⟨(zEk (show Tr.get _ 2 = some (AObj.cells ((u :: us).map byV) _) from rfl)), (by simp)⟩, (show us.length + 1 ≤ 1000000 by simp at hus; omega), .inl rfl⟩ ?_)
 intro v hq
 have hq : recQ (RdB.B ⟨2, 0, us.length + 1, U, u :: us⟩) (ya : Int) v := hq
 rw [eB] at hq
 have e := recQ.det hq (hrc rfl)
 subst e
 refine And.intro (by kernel_rfl) ?_
 refine ifK (fun g => by simp at g) (fun _ => ?_)
 refine ifK (fun _ => ?_) (fun h2 => absurd (dom.symm.trans h2) (by decide))
 refine Exists.intro (ye : Int) (And.intro cen ?_)
 refine ifK (fun g => by simp at g) (fun _ => ?_)
 exact ⟨rfl, rcq [2, 3, 4, 5] ⟨⟨_, rfl, .sl _ _ _ _ _ rfl⟩, ⟨_, rfl, .bool _⟩, ⟨_, rfl, .sl _ _ _ _ _ rfl⟩, ⟨_, rfl, .sl _ _ _ _ _ rfl⟩, ⟨_, rfl, .sl _ _ _ _ _ rfl⟩, zAh rfl (by rw [wrapN (by omega) (by omega)]; omega), trivial⟩ ⟨bpo (byV_plain (u :: us)), bpo (zAf (r :: R)), bpo (zAg (r :: R)), bpo (zAe (r :: R)), trivial⟩ .nil⟩
theorem zWa (u : UInt8) (us : Bl) (r : Wu) (R : List Wu) (k : Nat) (f : Nat → Option Value) (hus : (u :: us).length ≤ 70000) (hRl : (r :: R).length ≤ 40) (hk : k < (r :: R).length) (ya ye : Nat) (x : RcX) (raw : Bool) (q0 : Int) (hY : (r :: R)[k] = (ya, ye, ⟨x, true, raw, q0⟩)) (hok : okU (u :: us) (ya, ye, ⟨x, true, raw, q0⟩)) : CW Try.prog 0 2 (2 + (Try.f9.ntmps - 2)) none (loopAt Try.f9 1) (zSe u us r R k f) (fun x s1 => x = .normal ∧ ∃ f', RcM Try.prog 0 2 (2 + (Try.f9.ntmps - 2)) none s1 (zSe u us r R (k + 1) f')) := by
 obtain ⟨dom, cat, cen, cac, cx, sub⟩ := factR (r :: R) k hk hY
 have hlen : (r :: R).length = R.length + 1 := rfl
 have hk40 : k < 40 := by omega
 obtain ⟨⟨m, hqu, hm⟩, hrc⟩ := hok [] (by rw [List.append_nil]; omega)
 rw [List.append_nil] at hqu hrc
 obtain ⟨xn, xt, xc, xw, xd⟩ := x
 refine zAo tbRb [2, 3, 4, 5] 2 _ none mixed _ _ _ ?_
 refine ifK (fun _ => ?_) (fun g => absurd (show ((k : Nat) : Int) < ((R.length + 1 : Nat) : Int) by omega) (of_decide_eq_false g))
 refine ifK (fun _ => ?_) (fun h2 => absurd (dom.symm.trans h2) (by decide))
 refine Exists.intro xn (Exists.intro xt (Exists.intro xc (Exists.intro xw (Exists.intro xd (And.intro ⟨cx, sub⟩ ?_)))))
 refine ifK (fun _ => ?_) (fun h2 => absurd (dom.symm.trans h2) (by decide))
 refine Exists.intro (ya : Int) (And.intro cat ?_)
 have eB : RdB.B ⟨2, 0, us.length + 1, U, u :: us⟩ = (u :: us) := (by show ((u :: us).drop 0).take (us.length + 1) = u :: us; rw [List.drop_zero]; exact List.take_of_length_le (by simp))
 refine Exists.intro ((⟨2, 0, us.length + 1, U, u :: us⟩ : RdB), (ya : Int)) (And.intro ⟨rfl, ⟨(zEk (show Tr.get _ 2 = some (AObj.cells ((u :: us).map byV) _) from rfl)), (by simp)⟩, (show us.length + 1 ≤ 1000000 by simp at hus; omega), .inl rfl⟩ ?_)
 intro v hq
 have hq : queQ (RdB.B ⟨2, 0, us.length + 1, U, u :: us⟩) (ya : Int) v := hq
 rw [eB] at hq
 have e := queQ.det hq hqu
 subst e
 refine And.intro (by kernel_rfl) ?_
 refine ifK (fun g => by simp at g) (fun _ => ?_)
 refine ifK (fun _ => ?_) (fun h2 => absurd (dom.symm.trans h2) (by decide))
 refine Exists.intro true (And.intro (cac 5 (by decide)) ?_)
 refine ifK (fun _ => ?_) (fun h2 => absurd (dom.symm.trans h2) (by decide))
 refine Exists.intro (ye : Int) (And.intro cen ?_)
 refine ifK (fun g => by rw [hm rfl] at g; simp at g) (fun _ => ?_)
 refine ifK (fun _ => ?_) (fun h2 => absurd (dom.symm.trans h2) (by decide))
 refine Exists.intro true (And.intro (cac 5 (by decide)) ?_)
 exact ⟨rfl, rcq [2, 3, 4, 5] ⟨⟨_, rfl, .sl _ _ _ _ _ rfl⟩, ⟨_, rfl, .bool _⟩, ⟨_, rfl, .sl _ _ _ _ _ rfl⟩, ⟨_, rfl, .sl _ _ _ _ _ rfl⟩, ⟨_, rfl, .sl _ _ _ _ _ rfl⟩, zAh rfl (by rw [wrapN (by omega) (by omega)]; omega), trivial⟩ ⟨bpo (byV_plain (u :: us)), bpo (zAf (r :: R)), bpo (zAg (r :: R)), bpo (zAe (r :: R)), trivial⟩ .nil⟩
end Go.Proofs.Ytmpaeabkdhjamaa
namespace Go.Proofs.Ytmpaeabkdhjamaa
open Go Go.RowKit
theorem RcM.trans7 {P : Program} {g0 k0 nt : Nat} {rd : Option Nat} {s s1 s2 : Fs} (h : RcM P g0 k0 nt rd s s1) (k : RcM P g0 k0 nt rd s1 s2) : RcM P g0 k0 nt rd s s2 := by
 obtain ⟨a1, a2, a3⟩ := h
 obtain ⟨b1, b2, b3⟩ := k
 refine ⟨b1, a2.trans b2, fun E a w hf => ?_⟩
 obtain ⟨E1, h1, h2⟩ := a3 E a w hf
 obtain ⟨E2, k1, k2⟩ := b3 E1 a w h1
 exact ⟨E2, k1, h2.trans k2 b2⟩
theorem rc_nil7 {P : Program} {g0 k0 nt d k b : Nat} {rd : Option Nat} {lv : List (Nat × Value)} {f : Nat → Option Value} {H : Tr AObj} {n : Nat} {W : List Nat} {df : List ADf} (hk : k0 ≤ n) (hb : H.get b ≠ none) :
  RcM P g0 k0 nt rd ⟨slots d ((k, .slice none 0 0) :: lv) f, H, n, W, df⟩ ⟨slots d ((k, .slice (some ⟨b, 0, none⟩) 0 0) :: lv) f, H, n, W, df⟩ := by
 refine ⟨hk, .refl _ _, fun E a w hf => ⟨E, ⟨⟨hf.tr.1, fun t => ?_⟩, hf.hr, hf.lw, hf.df, hf.gl, hf.rd, hf.top⟩, .refl _ _ _ _⟩⟩
 have h := hf.tr.2 t
 have hd : E.dom b := hf.hr.live hb
 have h : VR E (((slots d ((k, .slice none 0 0) :: lv) f).get t).getD undef) (a.tmps.getD t undef) := h
 show VR E (((slots d ((k, .slice (some ⟨b, 0, none⟩) 0 0) :: lv) f).get t).getD undef) (a.tmps.getD t undef)
 generalize a.tmps.getD t undef = z at h ⊢
 unfold slots at h ⊢
 rw [zGh] at h ⊢
 split at h
 ·rename_i ht
  rw [if_pos ht]
  unfold lkp at h ⊢
  cases hq : k.beq (0 + 1 * t) with
  | false => rw [hq] at h; exact h
  | true =>
   rw [hq] at h
   simp only [cond_true, Option.getD_some] at h ⊢
   cases h with
   | snil => exact .se b 0 0 none hd (fun _ => rfl) (.inr rfl)
 ·rename_i ht
  rw [if_neg ht]; exact h
theorem rc_then7 {P : Program} {g0 k0 nt : Nat} {rd : Option Nat} {s : Fs} {S S' : (Nat → Option Value) → Fs} (k : ∀ f, RcM P g0 k0 nt rd (S f) (S' f)) (h : ∃ f, RcM P g0 k0 nt rd s (S f)) : ∃ f, RcM P g0 k0 nt rd s (S' f) := let ⟨f, hf⟩ := h; ⟨f, hf.trans7 (k f)⟩
def rbS (l : List A7) (c : Nat) (bw : Bl) (cb : Nat) (x : Nat × List (Bl × Nat) × Nat × Nat × Bl × List Wu) (f : Nat → Option Value) : Fs := rbE l c bw cb x.1 x.2.1 x.2.2.1 x.2.2.2.1 x.2.2.2.2.1 x.2.2.2.2.2 f
theorem rb2_any0 (bw : Bl) (r : Wu) (R : List Wu) (k : Nat) (f : Nat → Option Value) (hus : ([] : Bl).length ≤ 70000) (hok : ∀ y ∈ r :: R, okU ([] : Bl) y) (hRl : (r :: R).length ≤ 40) (hk : k < (r :: R).length) : CW Try.prog 0 2 (2 + (Try.f9.ntmps - 2)) none (loopAt Try.f9 1) (zSd bw r R k f) (fun x s1 => x = .normal ∧ ∃ f', RcM Try.prog 0 2 (2 + (Try.f9.ntmps - 2)) none s1 (zSd bw r R (k + 1) f')) := by
 obtain ⟨Y, hY⟩ : ∃ Y, (r :: R)[k] = Y := ⟨_, rfl⟩
 have hb := hok Y (by rw [← hY]; exact List.getElem_mem hk)
 obtain ⟨ya, ye, x, ask, raw, q0⟩ := Y
 cases ask with
 | false => exact zVx bw r R k f hus hRl hk ya ye x raw q0 hY hb
 | true => exact zVy bw r R k f hus hRl hk ya ye x raw q0 hY hb
theorem rb2_any1 (u : UInt8) (us : Bl) (r : Wu) (R : List Wu) (k : Nat) (f : Nat → Option Value) (hus : (u :: us).length ≤ 70000) (hok : ∀ y ∈ r :: R, okU (u :: us) y) (hRl : (r :: R).length ≤ 40) (hk : k < (r :: R).length) : CW Try.prog 0 2 (2 + (Try.f9.ntmps - 2)) none (loopAt Try.f9 1) (zSe u us r R k f) (fun x s1 => x = .normal ∧ ∃ f', RcM Try.prog 0 2 (2 + (Try.f9.ntmps - 2)) none s1 (zSe u us r R (k + 1) f')) := by
 obtain ⟨Y, hY⟩ : ∃ Y, (r :: R)[k] = Y := ⟨_, rfl⟩
 have hb := hok Y (by rw [← hY]; exact List.getElem_mem hk)
 obtain ⟨ya, ye, x, ask, raw, q0⟩ := Y
 cases ask with
 | false => exact zVz u us r R k f hus hRl hk ya ye x raw q0 hY hb
 | true => exact zWa u us r R k f hus hRl hk ya ye x raw q0 hY hb
theorem back7_fn (l : List A7) (c : Nat) (bw : Bl) (cb : Nat) (hcb : bw.length ≤ cb ∧ cb ≤ 9223372036854775807) : ∃ r, FnS Try.prog 0 9 [.slice (some ⟨0, 0, none⟩) l.length c, .slice (some ⟨1, 0, none⟩) bw.length cb] (heap 2 [(0, .win (l.flatMap layA7.g) layA7.k), (1, .win (bw.map byV) 1)]) 2 r ∧ ∃ H m wr, r = .ret (.bool true) H m wr ∧ ∀ k ∈ wr, 2 ≤ k := by
 have hpl : plainL (l.flatMap layA7.g) = true := zAb layA7.g layA7.plain _
 refine zBu mixed tbRb [0] Try.func9 (c := bodyOf Try.f9) (by kernel_rfl) ?_
 refine Exists.intro (⟨0, c, [], l, []⟩, ()) (And.intro ⟨rfl, ⟨(by show _ = some ([] ++ l.flatMap layA7.g ++ []); rw [List.append_nil]; rfl), rfl, rfl⟩, trivial⟩ ?_)
 refine ifK (fun g => ?_) (fun g => ?_)
 ·exact ⟨_, _, _, rfl, zAq rfl⟩
 obtain ⟨hl40, hd⟩ := longA7_no g
 have hl40 : l.length ≤ 40 := hl40
 refine ifK (fun g2 => ?_) (fun g2 => ?_)
 ·exact ⟨_, _, _, rfl, zAq rfl⟩
 have hbw : bw.length ≤ 100 := by have := of_decide_eq_false g2; omega
 refine zBp (rbS l c bw cb) (fun x => l.length - x.1) (fun x => x.1 ≤ l.length ∧ RbI x.1 x.2.2.2.2.1 x.2.2.2.2.2 x.2.1 x.2.2.1) (0, [], 0, 0, [], []) ⟨Nat.zero_le _, ⟨⟨List.nodup_nil, fun p hp => by cases hp⟩, (fun t k h => by cases h), Nat.le_refl _, Nat.zero_le _, Nat.le_refl _, (fun h => absurd rfl h), (fun y hy => by cases hy)⟩⟩
  (rcq [2, 3] ⟨⟨_, rfl, .sl _ _ _ _ _ rfl⟩, ⟨_, rfl, .sl _ _ _ _ _ rfl⟩, ⟨_, rfl, .bool _⟩, ⟨_, rfl, .ptr _ _ _ rfl⟩, ⟨_, rfl, zAa 8 rfl⟩, ⟨_, rfl, zAa 8 rfl⟩, ⟨_, rfl, zAa 8 rfl⟩, ⟨_, rfl, zAa 8 rfl⟩, ⟨_, rfl, .int _ _⟩, trivial⟩ ⟨bpo (hpl), bpo (byV_plain bw), ⟨by decide, _, rfl, zAi [] 0⟩, ⟨by decide, _, rfl, zAd 2 2 (by exact rfl) 0⟩, trivial⟩ .nil) ?_
 rintro ⟨i, T, en, ck, b, Rs⟩ f ⟨hi, hI⟩
 have hi : i ≤ l.length := hi
 have hI : RbI i b Rs T en := hI
 by_cases h1 : i < l.length
 ·obtain ⟨x, hx⟩ : ∃ x, l[i] = x := ⟨_, rfl⟩
  obtain ⟨x, ask, raw, a0⟩ := x
  obtain ⟨T', en', ck', b', Rs', hI', hcw⟩ := rb_body l c bw cb i T en ck f hd hl40 hbw hcb h1 x ask raw a0 hx b Rs hI
  refine hcw.mono fun x s1 hk => ?_
  cases x with
  | normal => obtain ⟨f', hr⟩ := hk; exact ⟨(i + 1, T', en', ck', b', Rs'), ⟨h1, hI'⟩, (by show l.length - (i + 1) < l.length - i; omega), f', hr⟩
  | _ => exact hk.elim
 have e1 : i = l.length := by omega
 have hRl : Rs.length ≤ 40 := Nat.le_trans hI.rl (by omega)
 have hbl : b.length ≤ 70000 := Nat.le_trans hI.bl (by decide)
 have hok := hI.ok
 have hsh := hI.sh
 clear hI
 subst e1
 cases Rs with
 | nil =>
  cases b with
  | cons u us => exact absurd rfl (hsh (List.cons_ne_nil _ _))
  | nil =>
   refine zAo tbRb [0] 2 _ none mixed _ _ _ ?_
   refine ifK (fun g => absurd (of_decide_eq_true g) (by omega)) (fun _ => ?_)
   refine And.intro rfl (zAj (rcq [] (d := 8) (d2 := 0) (lv := [(5, .bool true), (10, .slice none 0 0)]) (bs := []) (W := []) (m := 2) (df := []) ⟨⟨_, rfl, .bool _⟩, ⟨_, rfl, zAa 8 rfl⟩, trivial⟩ trivial .nil) (fun f => ?_))
   refine LW.round ?_
   refine zAo tbRb [0] 2 _ none mixed _ _ _ ?_
   exact ⟨_, _, _, rfl, zAq rfl⟩
 | cons r R =>
  cases b with
  | nil =>
   refine zAo tbRb [0] 2 _ none mixed _ _ _ ?_
   refine ifK (fun g => absurd (of_decide_eq_true g) (by omega)) (fun _ => ?_)
   refine And.intro rfl (zAj (rc_then7 (S := fun f => ⟨slots 8 [(7, .slice none 0 0), (5, .bool true), (8, .slice (some ⟨2, 0, none⟩) (R.length + 1) U), (9, .slice (some ⟨3, 0, none⟩) (R.length + 1) U), (10, .slice (some ⟨4, 0, none⟩) (R.length + 1) U)] f, heap 3 [(1, .win (bw.map byV) 1), (2, .cells ((r :: R).map atU) 3), (3, .cells ((r :: R).map enU) 3), (4, .cells ((r :: R).flatMap acU) 41)], 5, [], []⟩) (fun f => rc_nil7 (k := 7) (b := 1) (by decide) (by rw [show (heap 3 [(1, .win (bw.map byV) 1), (2, .cells ((r :: R).map atU) 3), (3, .cells ((r :: R).map enU) 3), (4, .cells ((r :: R).flatMap acU) 41)]).get 1 = some (AObj.win (bw.map byV) 1) from rfl]; simp)) (rcq [4, 5, 6] (d := 8) (d2 := 3) (lv := [(7, .slice none 0 0), (5, .bool true), (8, .slice (some ⟨2, 0, none⟩) (R.length + 1) U), (9, .slice (some ⟨3, 0, none⟩) (R.length + 1) U), (10, .slice (some ⟨4, 0, none⟩) (R.length + 1) U)]) (bs := [(1, .win (bw.map byV) 1), (2, .cells ((r :: R).map atU) 3), (3, .cells ((r :: R).map enU) 3), (4, .cells ((r :: R).flatMap acU) 41)]) (W := []) (m := 5) (df := []) ⟨⟨_, rfl, zAa 8 rfl⟩, ⟨_, rfl, .bool _⟩, ⟨_, rfl, .sl _ _ _ _ _ rfl⟩, ⟨_, rfl, .sl _ _ _ _ _ rfl⟩, ⟨_, rfl, .sl _ _ _ _ _ rfl⟩, trivial⟩ ⟨bpo (byV_plain bw), bpo (zAf (r :: R)), bpo (zAg (r :: R)), bpo (zAe (r :: R)), trivial⟩ .nil)) (fun f => ?_))
   refine zBp (fun k f => zSd bw r R k f) (fun k => R.length + 1 - k) (fun k => k ≤ R.length + 1) 0 (Nat.zero_le _) (rcq [2, 3, 4] ⟨⟨_, rfl, .sl _ _ _ _ _ rfl⟩, ⟨_, rfl, .bool _⟩, ⟨_, rfl, .sl _ _ _ _ _ rfl⟩, ⟨_, rfl, .sl _ _ _ _ _ rfl⟩, ⟨_, rfl, .sl _ _ _ _ _ rfl⟩, ⟨_, rfl, .int _ _⟩, trivial⟩ ⟨bpo (byV_plain bw), bpo (zAf (r :: R)), bpo (zAg (r :: R)), bpo (zAe (r :: R)), trivial⟩ .nil) ?_
   intro k f hk
   by_cases hk1 : k < R.length + 1
   ·refine (rb2_any0 bw r R k f hbl hok hRl hk1).mono fun x s1 h => ?_
    obtain ⟨rfl, f', hr⟩ := h
    exact ⟨k + 1, hk1, (by show R.length + 1 - (k + 1) < R.length + 1 - k; omega), f', hr⟩
   ·refine zAo tbRb [0] 2 _ none mixed _ _ _ ?_
    refine ifK (fun g => absurd (show ((k : Nat) : Int) < ((R.length + 1 : Nat) : Int) from of_decide_eq_true g) (by omega)) (fun _ => ?_)
    refine And.intro rfl (zAj (rcq [] (d := 8) (d2 := 0) (lv := [(5, .bool true)]) (bs := []) (W := []) (m := 2) (df := []) ⟨⟨_, rfl, .bool _⟩, trivial⟩ trivial .nil) (fun f => ?_))
    exact ⟨_, _, _, rfl, zAq rfl⟩
  | cons u us =>
   refine zAo tbRb [0] 2 _ none mixed _ _ _ ?_
   refine ifK (fun g => absurd (of_decide_eq_true g) (by omega)) (fun _ => ?_)
   refine And.intro rfl (zAj (rcq [4, 5, 6, 7] (d := 8) (d2 := 3) (lv := [(7, .slice (some ⟨2, 0, none⟩) (us.length + 1) U), (5, .bool true), (8, .slice (some ⟨3, 0, none⟩) (R.length + 1) U), (9, .slice (some ⟨4, 0, none⟩) (R.length + 1) U), (10, .slice (some ⟨5, 0, none⟩) (R.length + 1) U)]) (bs := [(2, .cells ((u :: us).map byV) 5), (3, .cells ((r :: R).map atU) 3), (4, .cells ((r :: R).map enU) 3), (5, .cells ((r :: R).flatMap acU) 41)]) (W := []) (m := 6) (df := []) ⟨⟨_, rfl, .sl _ _ _ _ _ rfl⟩, ⟨_, rfl, .bool _⟩, ⟨_, rfl, .sl _ _ _ _ _ rfl⟩, ⟨_, rfl, .sl _ _ _ _ _ rfl⟩, ⟨_, rfl, .sl _ _ _ _ _ rfl⟩, trivial⟩ ⟨bpo (byV_plain (u :: us)), bpo (zAf (r :: R)), bpo (zAg (r :: R)), bpo (zAe (r :: R)), trivial⟩ .nil) (fun f => ?_))
   refine zBp (fun k f => zSe u us r R k f) (fun k => R.length + 1 - k) (fun k => k ≤ R.length + 1) 0 (Nat.zero_le _) (rcq [2, 3, 4, 5] ⟨⟨_, rfl, .sl _ _ _ _ _ rfl⟩, ⟨_, rfl, .bool _⟩, ⟨_, rfl, .sl _ _ _ _ _ rfl⟩, ⟨_, rfl, .sl _ _ _ _ _ rfl⟩, ⟨_, rfl, .sl _ _ _ _ _ rfl⟩, ⟨_, rfl, .int _ _⟩, trivial⟩ ⟨bpo (byV_plain (u :: us)), bpo (zAf (r :: R)), bpo (zAg (r :: R)), bpo (zAe (r :: R)), trivial⟩ .nil) ?_
   intro k f hk
   by_cases hk1 : k < R.length + 1
   ·refine (rb2_any1 u us r R k f hbl hok hRl hk1).mono fun x s1 h => ?_
    obtain ⟨rfl, f', hr⟩ := h
    exact ⟨k + 1, hk1, (by show R.length + 1 - (k + 1) < R.length + 1 - k; omega), f', hr⟩
   ·refine zAo tbRb [0] 2 _ none mixed _ _ _ ?_
    refine ifK (fun g => absurd (show ((k : Nat) : Int) < ((R.length + 1 : Nat) : Int) from of_decide_eq_true g) (by omega)) (fun _ => ?_)
    refine And.intro rfl (zAj (rcq [] (d := 8) (d2 := 0) (lv := [(5, .bool true)]) (bs := []) (W := []) (m := 2) (df := []) ⟨⟨_, rfl, .bool _⟩, trivial⟩ trivial .nil) (fun f => ?_))
    exact ⟨_, _, _, rfl, zAq rfl⟩
end Go.Proofs.Ytmpaeabkdhjamaa
namespace Go.Proofs.Ytmpaeabkdhjamaa
open Go Go.RowKit
end Go.Proofs.Ytmpaeabkdhjamaa
namespace Go.Proofs.Ytmpaeabkdhjamaa
open Go Go.RowKit
end Go.Proofs.Ytmpaeabkdhjamaa
namespace Go.Proofs.Ytmpaeabkdhjamaa
open Go Go.RowKit
end Go.Proofs.Ytmpaeabkdhjamaa
namespace Go.Proofs.Ytmpaeabkdhjamaa
open Go Go.RowKit
end Go.Proofs.Ytmpaeabkdhjamaa
