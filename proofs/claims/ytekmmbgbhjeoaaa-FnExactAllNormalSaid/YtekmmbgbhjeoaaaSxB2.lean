/- Sets as numbers: the bits. No condition. -/
import Derived.Test.YtekmmbgbhjeoaaaSxP
set_option linter.unusedVariables false
set_option linter.unusedSimpArgs false
namespace Go.Pl
open Go Go.Sx

theorem toNat_ofInt64 (m : Nat) (h : m < 2 ^ 63) : (BitVec.ofInt 64 (m : Int)).toNat = m := by
  rw [BitVec.ofInt_natCast, BitVec.toNat_ofNat]
  exact Nat.mod_eq_of_lt (by omega)
theorem ior_nat (a b : Nat) (ha : a < 2 ^ 63) (hb : b < 2 ^ 63) : ior .i64 (a : Int) (b : Int) = ((a ||| b : Nat) : Int) := by
  have h : a ||| b < 2 ^ 63 := Nat.or_lt_two_pow ha hb
  show IntKind.i64.wrap ((BitVec.ofInt 64 (a : Int) ||| BitVec.ofInt 64 (b : Int)).toNat : Int) = _
  rw [BitVec.toNat_or, toNat_ofInt64 a ha, toNat_ofInt64 b hb]
  exact w64 (by omega) (by omega)
theorem iand_nat (a b : Nat) (ha : a < 2 ^ 63) (hb : b < 2 ^ 63) : iand .i64 (a : Int) (b : Int) = ((a &&& b : Nat) : Int) := by
  have h : a &&& b < 2 ^ 63 := Nat.lt_of_le_of_lt Nat.and_le_left ha
  show IntKind.i64.wrap ((BitVec.ofInt 64 (a : Int) &&& BitVec.ofInt 64 (b : Int)).toNat : Int) = _
  rw [BitVec.toNat_and, toNat_ofInt64 a ha, toNat_ofInt64 b hb]
  exact w64 (by omega) (by omega)
theorem ishl_one (x : Nat) (h : x < 63) : ishl .i64 1 (x : Int) = ((2 ^ x : Nat) : Int) := by
  have h1 : 2 ^ x < 2 ^ 63 := Nat.pow_lt_pow_right (by omega) h
  have e : min ((x : Int)).toNat (IntKind.i64).bits = x := by
    show min ((x : Int)).toNat 64 = x
    rw [Int.toNat_natCast]; omega
  unfold ishl
  rw [e, Int.one_mul]
  have e2 : (2 : Int) ^ x = ((2 ^ x : Nat) : Int) := by simp
  rw [e2]
  refine w64 ?_ ?_
  · have := Int.natCast_nonneg (2 ^ x); omega
  · have : ((2 ^ x : Nat) : Int) < ((2 ^ 63 : Nat) : Int) := Int.ofNat_lt.2 h1
    simpa using this
theorem ishr_nat (s x : Nat) (h : x < 64) : ishr .i64 (s : Int) (x : Int) = ((s >>> x : Nat) : Int) := by
  have e : min ((x : Int)).toNat (IntKind.i64).bits = x := by
    show min ((x : Int)).toNat 64 = x
    rw [Int.toNat_natCast]; omega
  unfold ishr
  rw [e]
  have e2 : (2 : Int) ^ x = ((2 ^ x : Nat) : Int) := by simp
  rw [e2, Nat.shiftRight_eq_div_pow, Int.fdiv_eq_ediv_of_nonneg _ (Int.natCast_nonneg _)]
  rfl
theorem has_bit (s x : Nat) (hs : s < 2 ^ 63) (hx : x < 64) : (iand .i64 (ishr .i64 (s : Int) (x : Int)) 1 = 1) ↔ s.testBit x = true := by
  rw [ishr_nat s x hx]
  have h1 : s >>> x < 2 ^ 63 := by rw [Nat.shiftRight_eq_div_pow]; exact Nat.lt_of_le_of_lt (Nat.div_le_self _ _) hs
  have h2 := iand_nat (s >>> x) 1 h1 (by omega)
  rw [show ((1 : Nat) : Int) = 1 from rfl] at h2
  rw [h2, Nat.and_one_is_mod]
  rw [Nat.testBit, Nat.and_comm, Nat.and_one_is_mod]
  rcases Nat.mod_two_eq_zero_or_one (s >>> x) with h3 | h3 <;> simp [h3]
end Go.Pl
