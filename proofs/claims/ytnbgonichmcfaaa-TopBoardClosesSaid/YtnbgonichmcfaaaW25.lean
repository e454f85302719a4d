/- Helpers of a proof. -/
import Derived.Test.YtnbgonichmcfaaaW24
set_option linter.unusedVariables false
set_option linter.unusedSimpArgs false
section
namespace Go.Dw
open Go.IntWalk
theorem ofInt_nat (x : Nat) : BitVec.ofInt 64 (x : Int) = BitVec.ofNat 64 x := by simp
theorem and64 [Lays] (x y : Nat) (hx : x < 2 ^ 63) (hy : y < 2 ^ 63) : IntKind.i64.wrap ((BitVec.ofInt 64 (x : Int) &&& BitVec.ofInt 64 (y : Int)).toNat : Int) = ((x &&& y : Nat) : Int) := by
  have h1 : (BitVec.ofInt 64 (x : Int) &&& BitVec.ofInt 64 (y : Int)).toNat = x &&& y := by
    rw [ofInt_nat, ofInt_nat, BitVec.toNat_and, BitVec.toNat_ofNat, BitVec.toNat_ofNat, Nat.mod_eq_of_lt (by omega), Nat.mod_eq_of_lt (by omega)]
  rw [h1]
  have h2 : x &&& y ≤ x := Nat.and_le_left
  exact i64_in _ (by omega)
theorem or64 [Lays] (x y : Nat) (hx : x < 2 ^ 63) (hy : y < 2 ^ 63) : IntKind.i64.wrap ((BitVec.ofInt 64 (x : Int) ||| BitVec.ofInt 64 (y : Int)).toNat : Int) = ((x ||| y : Nat) : Int) := by
  have h1 : (BitVec.ofInt 64 (x : Int) ||| BitVec.ofInt 64 (y : Int)).toNat = x ||| y := by
    rw [ofInt_nat, ofInt_nat, BitVec.toNat_or, BitVec.toNat_ofNat, BitVec.toNat_ofNat, Nat.mod_eq_of_lt (by omega), Nat.mod_eq_of_lt (by omega)]
  rw [h1]
  have h2 : x ||| y < 2 ^ 63 := Nat.or_lt_two_pow hx hy
  exact i64_in _ (by omega)
theorem andI_nat [Lays] (x y : Nat) (h : x < 9223372036854775808 ∧ y < 9223372036854775808) : andI .i64 (x : Int) (y : Int) = ((x &&& y : Nat) : Int) := and64 x y (by omega) (by omega)
theorem orI_nat [Lays] (x y : Nat) (h : x < 9223372036854775808 ∧ y < 9223372036854775808) : orI .i64 (x : Int) (y : Int) = ((x ||| y : Nat) : Int) := or64 x y (by omega) (by omega)
theorem andI_one [Lays] (x : Nat) (h : x < 9223372036854775808) : andI .i64 (x : Int) 1 = ((x % 2 : Nat) : Int) := by
  have := and64 x 1 (by omega) (by omega)
  rw [Nat.and_one_is_mod] at this
  exact this
theorem shlI_one (x : Nat) (h : x < 4611686018427387904) : shlI .i64 (x : Int) 1 = ((2 * x : Nat) : Int) := by
  show IntKind.i64.wrap ((x : Int) * 2 ^ 1) = _
  rw [i64_in _ (by omega)]; omega
theorem one_shl (n : Nat) (h : n ≤ 62) : shlI .i64 1 n = ((2 ^ n : Nat) : Int) := by
  show IntKind.i64.wrap (1 * 2 ^ min n 64) = _
  have hp : 2 ^ n ≤ 2 ^ 62 := Nat.pow_le_pow_right (by decide) h
  have hpc : ((2 ^ n : Nat) : Int) = (2 : Int) ^ n := by simp
  rw [Int.one_mul, show min n 64 = n by omega, ← hpc]
  clear hpc
  generalize 2 ^ n = m at hp
  exact i64_in _ (by omega)
theorem shrI_nat (x n : Nat) (h : n ≤ 64) : shrI .i64 (x : Int) n = ((x >>> n : Nat) : Int) := by
  show (x : Int).fdiv (2 ^ min n 64) = _
  rw [show min n 64 = n by omega, Nat.shiftRight_eq_div_pow]
  rw [Int.fdiv_eq_ediv_of_nonneg _ (by exact Int.le_of_lt (Int.pow_pos (by decide)))]
  simp
attribute [go_sem] andI_nat orI_nat andI_one shlI_one one_shl shrI_nat
end Go.Dw
end
