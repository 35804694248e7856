import Derived.Test.YgvalwGreatE3
set_option linter.unusedVariables false
set_option linter.unusedSimpArgs false
namespace Go.Proofs.YgvalwGreat.X
open Go

section
variable {h : Hp} {K : Value → Hp → Prop} {a b : Nat}

theorem mask32 {a : Nat} : a &&& 4294967295 = a % 4294967296 := Nat.and_two_pow_sub_one_eq_mod a 32
theorem mul64_law {x y : Nat} (hx : x < 18446744073709551616) (hy : y < 18446744073709551616) :
    let x0 := x % 4294967296; let x1 := x / 4294967296; let y0 := y % 4294967296; let y1 := y / 4294967296
    let t := x1 * y0 + x0 * y0 / 4294967296; let w1 := t % 4294967296 + x0 * y1
    x0 * y0 < 18446744073709551616 ∧ x1 * y0 < 18446744073709551616 ∧ x0 * y1 < 18446744073709551616 ∧ x1 * y1 < 18446744073709551616 ∧ t < 18446744073709551616 ∧ w1 < 18446744073709551616 ∧ x1 * y1 + t / 4294967296 < 18446744073709551616 ∧ x1 * y1 + t / 4294967296 + w1 / 4294967296 = x * y / 18446744073709551616 := by
  intro x0 x1 y0 y1 t w1
  have bx0 : x0 ≤ 4294967295 := by omega
  have bx1 : x1 ≤ 4294967295 := by omega
  have by0 : y0 ≤ 4294967295 := by omega
  have by1 : y1 ≤ 4294967295 := by omega
  have p00 := Nat.mul_le_mul bx0 by0
  have p10 := Nat.mul_le_mul bx1 by0
  have p01 := Nat.mul_le_mul bx0 by1
  have p11 := Nat.mul_le_mul bx1 by1
  have ex : x = x0 + 4294967296 * x1 := by omega
  have ey : y = y0 + 4294967296 * y1 := by omega
  have exy : x * y = x0 * y0 + 4294967296 * (x1 * y0) + 4294967296 * (x0 * y1) + 18446744073709551616 * (x1 * y1) := by
    rw [ex, ey]; clear_value x0 x1 y0 y1; clear ex ey p00 p10 p01 p11; grind
  have ht : t = x1 * y0 + x0 * y0 / 4294967296 := rfl
  have hw : w1 = t % 4294967296 + x0 * y1 := rfl
  clear_value t w1 x0 x1 y0 y1
  generalize x0 * y0 = q00 at *
  generalize x1 * y0 = q10 at *
  generalize x0 * y1 = q01 at *
  generalize x1 * y1 = q11 at *
  generalize x * y = z at *
  omega
set_option maxRecDepth 100000 in
set_option maxHeartbeats 4000000 in
theorem bMul64_ok (ha : a < 18446744073709551616) (hb : b < 18446744073709551616) (hk : K (.tuple #[.int .u64 ((a * b / 18446744073709551616 : Nat) : Int), .int .u64 ((a * b % 18446744073709551616 : Nat) : Int)]) h) : CallX Hval.prog 224 [.int .u64 a, .int .u64 b] h K := by
  refine CallX.of_xf T_ok Hval.func224 rfl (by kernel_rfl) (Nat.le_of_ble_eq_true rfl) ?_; conv => whnf
  repeat (refine Ob.mk (by first | decide | omega) ?_; conv => whnf)
  refine RetX.same ?_
  have L := mul64_law ha hb
  obtain ⟨L1, L2, L3, L4, L5, L6, L7, L8⟩ := L
  have s32 : ∀ n : Nat, ((n : Nat) : Int).fdiv (2 ^ min (Int.toNat 32) IntKind.u64.bits) = ((n / 4294967296 : Nat) : Int) := fun n => by
    have := shr64 (a := n) (s := 32) (by decide)
    rw [Nat.shiftRight_eq_div_pow] at this
    exact this
  have mk : ∀ n : Nat, n < 18446744073709551616 → IntKind.u64.wrap ((BitVec.ofInt IntKind.u64.bits (n : Int) &&& BitVec.ofInt IntKind.u64.bits 4294967295).toNat : Int) = ((n % 4294967296 : Nat) : Int) := fun n hn => by
    have := and64 (a := n) (b := 4294967295) hn (by decide)
    rw [mask32] at this
    exact this
  have mw : ∀ m n : Nat, m * n < 18446744073709551616 → IntKind.u64.wrap ((m : Int) * (n : Int)) = ((m * n : Nat) : Int) := fun m n hmn => by rw [← Int.natCast_mul]; exact wrapN64 hmn
  have aw : ∀ m n : Nat, m + n < 18446744073709551616 → IntKind.u64.wrap ((m : Int) + (n : Int)) = ((m + n : Nat) : Int) := fun m n hmn => by rw [← Int.natCast_add]; exact wrapN64 hmn
  have lo : IntKind.u64.wrap ((a : Int) * (b : Int)) = ((a * b % 18446744073709551616 : Nat) : Int) := by rw [← Int.natCast_mul, wrap_u64']; omega
  have hz : a * b / 18446744073709551616 < 18446744073709551616 := by
    rw [← L8]
    have := Nat.mul_lt_mul'' ha hb
    rw [L8]
    exact Nat.div_lt_of_lt_mul (by omega)
  rw [mk a ha, mk b hb, s32 a, s32 b, mw _ _ L4, mw _ _ L2, mw _ _ L1, s32, aw _ _ L5, mk _ L5, mw _ _ L3, aw _ _ L6, s32, s32, aw _ _ L7, aw _ _ (by rw [L8]; exact hz), L8, lo]
  exact hk
set_option maxRecDepth 100000 in
set_option maxHeartbeats 4000000 in
theorem nMul64_ok (ha : a < 18446744073709551616) (hb : b < 18446744073709551616) (hk : K (.tuple #[.int .u64 ((a * b / 18446744073709551616 : Nat) : Int), .int .u64 ((a * b % 18446744073709551616 : Nat) : Int)]) h) : CallX Hval.prog 152 [.int .u64 a, .int .u64 b] h K := by
  refine CallX.of_xf T_ok Hval.func152 rfl (by kernel_rfl) (Nat.le_of_ble_eq_true rfl) ?_; conv => whnf
  refine bMul64_ok ha hb ?_; conv => whnf
  exact RetX.same hk
end
end Go.Proofs.YgvalwGreat.X
