import Derived.Test.YgvalwGreatF7
set_option linter.unusedVariables false
set_option linter.unusedSimpArgs false
namespace Go.Proofs.YgvalwGreat.X
open Go

/-- The bit operations of an unsigned kind, on numbers within it. -/
theorem bits_nat {n : Nat} {x : Int} (h0 : 0 ≤ x) (h1 : x < 2 ^ n) : (BitVec.ofInt n x).toNat = x.toNat := by
  rw [BitVec.toNat_ofInt, Int.emod_eq_of_lt h0 (by exact_mod_cast h1)]

theorem wrap_nat_u8 {a : Nat} (h : a < 256) : IntKind.u8.wrap (a : Int) = a := by rw [wrap_u8]; omega
theorem wrap_u64' (x : Int) : IntKind.u64.wrap x = x % 18446744073709551616 := by simp [IntKind.wrap, IntKind.signed, IntKind.bits]

theorem or_u8 {x y : Int} (h0 : 0 ≤ x) (h1 : x < 256) (h2 : 0 ≤ y) (h3 : y < 256) : IntKind.u8.wrap (BitVec.ofInt 8 x ||| BitVec.ofInt 8 y).toNat = ((x.toNat ||| y.toNat : Nat) : Int) := by
  rw [BitVec.toNat_or, bits_nat h0 (by omega), bits_nat h2 (by omega), wrap_u8]
  have := Nat.or_lt_two_pow (x := x.toNat) (y := y.toNat) (n := 8) (by omega) (by omega)
  omega
theorem and_u8 {x y : Int} (h0 : 0 ≤ x) (h1 : x < 256) (h2 : 0 ≤ y) (h3 : y < 256) : IntKind.u8.wrap (BitVec.ofInt 8 x &&& BitVec.ofInt 8 y).toNat = ((x.toNat &&& y.toNat : Nat) : Int) := by
  rw [BitVec.toNat_and, bits_nat h0 (by omega), bits_nat h2 (by omega), wrap_u8]
  have := Nat.and_le_left (n := x.toNat) (m := y.toNat)
  omega
theorem or_u64 {x y : Int} (h0 : 0 ≤ x) (h1 : x < 18446744073709551616) (h2 : 0 ≤ y) (h3 : y < 18446744073709551616) : IntKind.u64.wrap (BitVec.ofInt 64 x ||| BitVec.ofInt 64 y).toNat = ((x.toNat ||| y.toNat : Nat) : Int) := by
  rw [BitVec.toNat_or, bits_nat h0 (by omega), bits_nat h2 (by omega), wrap_u64']
  have := Nat.or_lt_two_pow (x := x.toNat) (y := y.toNat) (n := 64) (by omega) (by omega)
  omega
theorem and_u64 {x y : Int} (h0 : 0 ≤ x) (h1 : x < 18446744073709551616) (h2 : 0 ≤ y) (h3 : y < 18446744073709551616) : IntKind.u64.wrap (BitVec.ofInt 64 x &&& BitVec.ofInt 64 y).toNat = ((x.toNat &&& y.toNat : Nat) : Int) := by
  rw [BitVec.toNat_and, bits_nat h0 (by omega), bits_nat h2 (by omega), wrap_u64']
  have := Nat.and_le_left (n := x.toNat) (m := y.toNat)
  omega
theorem xor_u64 {x y : Int} (h0 : 0 ≤ x) (h1 : x < 18446744073709551616) (h2 : 0 ≤ y) (h3 : y < 18446744073709551616) : IntKind.u64.wrap (BitVec.ofInt 64 x ^^^ BitVec.ofInt 64 y).toNat = ((x.toNat ^^^ y.toNat : Nat) : Int) := by
  rw [BitVec.toNat_xor, bits_nat h0 (by omega), bits_nat h2 (by omega), wrap_u64']
  have := Nat.xor_lt_two_pow (x := x.toNat) (y := y.toNat) (n := 64) (by omega) (by omega)
  omega

/-- Bits that do not meet: or is plus. -/
theorem or_add {a d : Nat} {s : Nat} (hd : d < 2 ^ s) : (a * 2 ^ s) ||| d = a * 2 ^ s + d := by
  rw [Nat.mul_comm]; exact (Nat.two_pow_add_eq_or_of_lt hd a).symm
theorem or_add8 {a d : Int} (ha : 0 ≤ a) (h0 : 0 ≤ d) (h1 : d < 256) : (((a * 256).toNat ||| d.toNat : Nat) : Int) = a * 256 + d := by
  have : (a * 256).toNat = a.toNat * 2 ^ 8 := by omega
  rw [this, or_add (by omega)]
  omega
theorem or_add1 {a d : Int} (ha : 0 ≤ a) (h0 : 0 ≤ d) (h1 : d < 2) : (((a * 2).toNat ||| d.toNat : Nat) : Int) = a * 2 + d := by
  have : (a * 2).toNat = a.toNat * 2 ^ 1 := by omega
  rw [this, or_add (by omega)]
  omega
theorem and_one {a : Int} (ha : 0 ≤ a) : ((a.toNat &&& (Int.toNat 1) : Nat) : Int) = a % 2 := by
  have : Int.toNat 1 = 1 := rfl
  rw [this, Nat.and_one_is_mod]
  omega
end Go.Proofs.YgvalwGreat.X
