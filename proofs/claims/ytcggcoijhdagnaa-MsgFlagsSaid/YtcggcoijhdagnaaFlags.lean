/- DERIVED. Flags: their parts, as functions of numbers; the law on them. -/
import Derived.Test.YtcggcoijhdagnaaInts
namespace Go.Proofs.Ytcggcoijhdagnaa
open Go Go.RowKit

def b64 (x : Int) : BitVec 64 := BitVec.ofInt 64 x
def opI (x : Int) : Int := IntKind.i64.wrap (b64 (x.fdiv (2 ^ min (Int.toNat 11) 64)) &&& b64 15).toNat
def codeI (x : Int) : Int := IntKind.i64.wrap (b64 x &&& b64 15).toNat
def withI (x y : Int) : Int := IntKind.i64.wrap (b64 (IntKind.i64.wrap (b64 (IntKind.i64.wrap (b64 x &&& b64 65535).toNat) &&& ~~~(b64 15)).toNat) ||| b64 (IntKind.i64.wrap (b64 y &&& b64 15).toNat)).toNat

set_option maxRecDepth 100000 in
theorem op_fn (x : Int) : ∃ r, FnS Try.prog 0 23 [.int .i64 x] .e 0 r ∧ ∃ H m wr, r = .ret (.int .i64 (opI x)) H m wr := by
  refine fn_sx mixed tbN [] Try.func23 (c := bodyOf Try.f23) (by kernel_rfl) ?_
  exact ⟨_, _, _, rfl⟩
set_option maxRecDepth 100000 in
theorem code_fn (x : Int) : ∃ r, FnS Try.prog 0 22 [.int .i64 x] .e 0 r ∧ ∃ H m wr, r = .ret (.int .i64 (codeI x)) H m wr := by
  refine fn_sx mixed tbN [] Try.func22 (c := bodyOf Try.f22) (by kernel_rfl) ?_
  exact ⟨_, _, _, rfl⟩
set_option maxRecDepth 100000 in
theorem with_fn (x y : Int) : ∃ r, FnS Try.prog 0 21 [.int .i64 x, .int .i64 y] .e 0 r ∧ ∃ H m wr, r = .ret (.int .i64 (withI x y)) H m wr := by
  refine fn_sx mixed tbN [] Try.func21 (c := bodyOf Try.f21) (by kernel_rfl) ?_
  exact ⟨_, _, _, rfl⟩
def ct_op : Ct Try.prog 0 := Ct.int1 23 opI (fun x => by obtain ⟨r, h, H, m, wr, rfl⟩ := op_fn x; exact ⟨H, m, wr, h⟩)
def ct_code : Ct Try.prog 0 := Ct.int1 22 codeI (fun x => by obtain ⟨r, h, H, m, wr, rfl⟩ := code_fn x; exact ⟨H, m, wr, h⟩)
def ct_with : Ct Try.prog 0 := Ct.int2 21 withI (fun x y => by obtain ⟨r, h, H, m, wr, rfl⟩ := with_fn x y; exact ⟨H, m, wr, h⟩)

/-! ## the plain law -/
theorem b64_nat {n : Nat} (h : n < 18446744073709551616) : (b64 (n : Int)).toNat = n := by
  unfold b64
  rw [BitVec.toNat_ofInt]
  omega
theorem b64_15 : b64 15 = 15#64 := by decide
theorem b64_65535 : b64 65535 = 65535#64 := by decide
theorem and15 (b : BitVec 64) : (b &&& 15#64).toNat = b.toNat % 16 := by
  rw [BitVec.toNat_and]
  exact Nat.and_two_pow_sub_one_eq_mod b.toNat 4
theorem and65535 (b : BitVec 64) : (b &&& 65535#64).toNat = b.toNat % 65536 := by
  rw [BitVec.toNat_and]
  exact Nat.and_two_pow_sub_one_eq_mod b.toNat 16
theorem andnot15 (b : BitVec 64) : (b &&& ~~~15#64).toNat = 16 * (b.toNat / 16) := by
  have : b &&& ~~~15#64 = (b >>> 4) <<< 4 := by
    ext i hi
    simp only [BitVec.getElem_and, BitVec.getElem_not, BitVec.getElem_shiftLeft]
    by_cases h : i < 4
    · have : i = 0 ∨ i = 1 ∨ i = 2 ∨ i = 3 := by omega
      rcases this with rfl | rfl | rfl | rfl <;> simp
    · have h2 : (15#64)[i] = false := by
        rw [← BitVec.getLsbD_eq_getElem, BitVec.getLsbD_ofNat]
        simp only [hi, decide_true, Bool.true_and]
        exact Nat.testBit_lt_two_pow (Nat.lt_of_lt_of_le (show 15 < 2 ^ 4 by decide) (Nat.pow_le_pow_right (by decide) (by omega)))
      simp [h, h2, show 4 + (i - 4) = i by omega, BitVec.getLsbD_eq_getElem hi]
  rw [this, BitVec.toNat_shiftLeft, BitVec.toNat_ushiftRight, Nat.shiftLeft_eq, Nat.shiftRight_eq_div_pow]
  have := b.isLt
  omega
theorem or16 {a b : BitVec 64} {q r : Nat} (ha : a.toNat = 16 * q) (hb : b.toNat = r) (hr : r < 16) : (a ||| b).toNat = 16 * q + r := by
  rw [BitVec.toNat_or, ha, hb]
  exact (Nat.two_pow_add_eq_or_of_lt (i := 4) hr q).symm

/-- A number's last four bits. -/
def low4 (x : Int) : Nat := (b64 x).toNat % 16
theorem codeI_eq (x : Int) : codeI x = low4 x := by
  unfold codeI low4
  rw [b64_15, and15, wrap_i64 (by omega) (by omega)]
theorem low4_nat {n : Nat} (h : n < 65536) : low4 (n : Int) = n % 16 := by unfold low4; rw [b64_nat (by omega)]
theorem withI_eq {n : Nat} (h : n < 65536) (y : Int) : withI (n : Int) y = ((16 * (n / 16) + low4 y : Nat) : Int) := by
  unfold withI
  have hl : low4 y < 16 := Nat.mod_lt _ (by decide)
  have h1 : (b64 (n : Int) &&& b64 65535).toNat = n := by rw [b64_65535, and65535, b64_nat (by omega)]; omega
  have h2 : (b64 (n : Int) &&& ~~~(b64 15)).toNat = 16 * (n / 16) := by rw [b64_15, andnot15, b64_nat (by omega)]
  have h3 : (b64 y &&& b64 15).toNat = low4 y := by rw [b64_15, and15]; rfl
  have w1 : IntKind.i64.wrap ((n : Nat) : Int) = (n : Int) := wrap_i64 (by omega) (by omega)
  have w2 : IntKind.i64.wrap ((16 * (n / 16) : Nat) : Int) = ((16 * (n / 16) : Nat) : Int) := wrap_i64 (by omega) (by omega)
  have w3 : IntKind.i64.wrap ((low4 y : Nat) : Int) = (low4 y : Int) := wrap_i64 (by omega) (by omega)
  rw [h1, w1, h2, w2, h3, w3, or16 (q := n / 16) (r := low4 y) (b64_nat (by omega)) (b64_nat (by omega)) hl, wrap_i64 (by omega) (by omega)]
theorem opI_eq {n : Nat} (h : n < 65536) : opI (n : Int) = ((n / 2048 % 16 : Nat) : Int) := by
  unfold opI
  have : ((n : Int).fdiv (2 ^ min (Int.toNat 11) 64)) = ((n / 2048 : Nat) : Int) := by
    show (n : Int).fdiv ((2048 : Nat) : Int) = _
    rw [Int.ofNat_fdiv]
  rw [this, b64_15, and15, b64_nat (by omega), wrap_i64 (by omega) (by omega)]
theorem fdiv16 {n : Nat} : (n : Int).fdiv (2 ^ min (Int.toNat 4) 64) = ((n / 16 : Nat) : Int) := by
  show (n : Int).fdiv ((16 : Nat) : Int) = _
  rw [Int.ofNat_fdiv]
end Go.Proofs.Ytcggcoijhdagnaa
