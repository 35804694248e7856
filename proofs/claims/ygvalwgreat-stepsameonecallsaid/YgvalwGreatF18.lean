import Derived.Test.YgvalwGreatF17
set_option linter.unusedVariables false
set_option linter.unusedSimpArgs false
namespace Go.Proofs.YgvalwGreat.X
open Go

theorem xor_u8 {x y : Int} (h0 : 0 ≤ x) (h1 : x < 256) (h2 : 0 ≤ y) (h3 : y < 256) : IntKind.u8.wrap (BitVec.ofInt 8 x ^^^ BitVec.ofInt 8 y).toNat = ((x.toNat ^^^ y.toNat : Nat) : Int) := by
  rw [BitVec.toNat_xor, bits_nat h0 (by omega), bits_nat h2 (by omega), wrap_u8]
  have := Nat.xor_lt_two_pow (x := x.toNat) (y := y.toNat) (n := 8) (by omega) (by omega)
  omega
theorem xor_ones {x : Nat} {n : Nat} (h : x < 2 ^ n) : (2 ^ n - 1) ^^^ x = 2 ^ n - 1 - x := by
  apply Nat.eq_of_testBit_eq
  intro i
  rw [Nat.testBit_xor, Nat.testBit_two_pow_sub_one]
  have : 2 ^ n - 1 - x = 2 ^ n - (x + 1) := by omega
  rw [this, Nat.testBit_two_pow_sub_succ h]
  by_cases hi : i < n
  · simp [hi]
  · simp [hi]
    exact Nat.testBit_lt_two_pow (Nat.lt_of_lt_of_le h (Nat.pow_le_pow_right (by decide) (by omega)))
theorem not_u8 {x : Int} (h0 : 0 ≤ x) (h1 : x < 256) : IntKind.u8.wrap (BitVec.ofInt 8 (255 : Int) ^^^ BitVec.ofInt 8 x).toNat = 255 - x := by
  rw [xor_u8 (by decide) (by decide) h0 h1]
  have := xor_ones (x := x.toNat) (n := 8) (by omega)
  have e : (255 : Int).toNat = 2 ^ 8 - 1 := rfl
  rw [e, this]; omega

theorem not_dig {a : Int} (h0 : 0 ≤ a) (h1 : a < W) {j : Nat} (hj : j < 32) : 255 - a / 256 ^ j % 256 = (W - 1 - a) / 256 ^ j % 256 := by
  obtain ⟨k, hk⟩ : ∃ k, 32 = j + (k + 1) := ⟨31 - j, by omega⟩
  have hP : (0 : Int) < 256 ^ j := Int.pow_pos (by decide)
  have e : W = 256 ^ j * (256 ^ k * 256) := by unfold W; rw [hk, Int.pow_add, Int.pow_succ]
  have e1 : a = 256 ^ j * (a / 256 ^ j) + a % 256 ^ j := (Int.mul_ediv_add_emod ..).symm
  have h2 := Int.emod_nonneg a (show (256 : Int) ^ j ≠ 0 by omega)
  have h3 := Int.emod_lt_of_pos a hP
  have e2 : W - 1 - a = (256 ^ j - 1 - a % 256 ^ j) + 256 ^ j * (256 ^ k * 256 - 1 - a / 256 ^ j) := by
    rw [e]
    generalize (256 : Int) ^ j = P at *
    generalize (256 : Int) ^ k = M at *
    generalize a % P = r at *
    generalize a / P = q at *
    grind
  clear e e1
  rw [e2, Int.add_mul_ediv_left _ _ (by omega)]
  clear e2
  generalize a % 256 ^ j = r at *
  generalize a / 256 ^ j = q at *
  generalize (256 : Int) ^ j = P at *
  rw [Int.ediv_eq_zero_of_lt (by omega) (by omega)]
  omega
end Go.Proofs.YgvalwGreat.X
