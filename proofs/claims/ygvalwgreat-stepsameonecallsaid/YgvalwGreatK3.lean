import Derived.Test.YgvalwGreatK2
set_option linter.unusedVariables false
set_option linter.unusedSimpArgs false
namespace Go.Proofs.YgvalwGreat.X
open Go

section
variable {h : Hp} {K : Value → Hp → Prop}
theorem kshrN (a k : Nat) (hk : k < 64) : (a : Int).fdiv (2 ^ min ((k : Int)).toNat IntKind.u64.bits) = ((a >>> k : Nat) : Int) := by
  rw [Int.toNat_natCast, show IntKind.u64.bits = 64 from rfl, Nat.min_eq_left (by omega), Nat.shiftRight_eq_div_pow, Int.fdiv_eq_ediv_of_nonneg _ (by exact Int.le_of_lt (Int.pow_pos (by decide)))]
  simp
theorem kshlN (a k : Nat) (hk : k < 64) : IntKind.u64.wrap ((a : Int) * 2 ^ min ((k : Int)).toNat IntKind.u64.bits) = (((a <<< k) % 2 ^ 64 : Nat) : Int) := by
  rw [Int.toNat_natCast, show IntKind.u64.bits = 64 from rfl, Nat.min_eq_left (by omega), Nat.shiftLeft_eq, wrap_u64']
  simp
theorem kshrT (a k : Nat) (hk : k ≤ 64) : (a : Int).fdiv (2 ^ min ((k : Int)).toNat IntKind.u64.bits) = ((a >>> k : Nat) : Int) := by
  rw [Int.toNat_natCast, show IntKind.u64.bits = 64 from rfl, Nat.min_eq_left (by omega), Nat.shiftRight_eq_div_pow, Int.fdiv_eq_ediv_of_nonneg _ (by exact Int.le_of_lt (Int.pow_pos (by decide)))]
  simp
theorem kand64m {a : Nat} {M : Int} {m : Nat} (hM : M = (m : Int)) (ha : a < 2 ^ 64) (hm : m < 2 ^ 64) : IntKind.u64.wrap ((BitVec.ofInt IntKind.u64.bits (a : Int) &&& BitVec.ofInt IntKind.u64.bits M).toNat : Int) = ((a &&& m : Nat) : Int) := by
  subst hM; exact and64 ha hm
theorem tuA_val {x : Nat} (hx : x < 2 ^ 64) : IntKind.u64.wrap ((BitVec.ofInt IntKind.u64.bits (IntKind.u64.wrap ((BitVec.ofInt IntKind.u64.bits ((x : Int).fdiv (2 ^ min (Int.toNat 8) IntKind.u64.bits)) &&& BitVec.ofInt IntKind.u64.bits 71777214294589695).toNat : Int)) ||| BitVec.ofInt IntKind.u64.bits (IntKind.u64.wrap (IntKind.u64.wrap ((BitVec.ofInt IntKind.u64.bits (x : Int) &&& BitVec.ofInt IntKind.u64.bits 71777214294589695).toNat : Int) * 2 ^ min (Int.toNat 8) IntKind.u64.bits))).toNat : Int) = (tuA x : Int) := by
  have h8 := kshrN x 8 (by decide)
  have hl := kshlN (x &&& 71777214294589695) 8 (by decide)
  rw [show (((8 : Nat) : Int)) = 8 from rfl] at h8 hl
  rw [h8, kand64m (M := 71777214294589695) (m := 71777214294589695) rfl (shr_lt' hx) (by decide), kand64m (M := 71777214294589695) (m := 71777214294589695) rfl hx (by decide), hl, or64 (Nat.and_lt_two_pow _ (by decide)) (Nat.mod_lt _ (by decide))]
  rfl
theorem tuB_val {x : Nat} (hx : x < 2 ^ 64) : IntKind.u64.wrap ((BitVec.ofInt IntKind.u64.bits (IntKind.u64.wrap ((BitVec.ofInt IntKind.u64.bits ((x : Int).fdiv (2 ^ min (Int.toNat 16) IntKind.u64.bits)) &&& BitVec.ofInt IntKind.u64.bits 281470681808895).toNat : Int)) ||| BitVec.ofInt IntKind.u64.bits (IntKind.u64.wrap (IntKind.u64.wrap ((BitVec.ofInt IntKind.u64.bits (x : Int) &&& BitVec.ofInt IntKind.u64.bits 281470681808895).toNat : Int) * 2 ^ min (Int.toNat 16) IntKind.u64.bits))).toNat : Int) = (tuB x : Int) := by
  have h8 := kshrN x 16 (by decide)
  have hl := kshlN (x &&& 281470681808895) 16 (by decide)
  rw [show (((16 : Nat) : Int)) = 16 from rfl] at h8 hl
  rw [h8, kand64m (M := 281470681808895) (m := 281470681808895) rfl (shr_lt' hx) (by decide), kand64m (M := 281470681808895) (m := 281470681808895) rfl hx (by decide), hl, or64 (Nat.and_lt_two_pow _ (by decide)) (Nat.mod_lt _ (by decide))]
  rfl
theorem tuC_val {x : Nat} (hx : x < 2 ^ 64) : IntKind.u64.wrap ((BitVec.ofInt IntKind.u64.bits ((x : Int).fdiv (2 ^ min (Int.toNat 32) IntKind.u64.bits)) ||| BitVec.ofInt IntKind.u64.bits (IntKind.u64.wrap ((x : Int) * 2 ^ min (Int.toNat 32) IntKind.u64.bits))).toNat : Int) = (tuC x : Int) := by
  have h8 := kshrN x 32 (by decide)
  have hl := kshlN x 32 (by decide)
  rw [show (((32 : Nat) : Int)) = 32 from rfl] at h8 hl
  rw [h8, hl, or64 (shr_lt' hx) (Nat.mod_lt _ (by decide))]
  rfl
set_option maxRecDepth 100000 in
set_option maxHeartbeats 4000000 in
theorem turned_ok {x : Nat} (hx : x < 2 ^ 64) (hk : K (.int .u64 (tuN x)) h) : CallX Hval.prog 223 [.int .u64 x] h K := by
  refine CallX.of_xf T_ok Hval.func223 rfl (by kernel_rfl) (Nat.le_of_ble_eq_true rfl) ?_; conv => whnf
  repeat (refine Ob.mk (by first | decide | omega) ?_; conv => whnf)
  rw [tuA_val hx, tuB_val (tuA_lt hx), tuC_val (tuB_lt (tuA_lt hx))]
  exact RetX.same hk
set_option maxRecDepth 100000 in
set_option maxHeartbeats 4000000 in
theorem rot_ok {x n : Nat} (hx : x < 2 ^ 64) (hn : n < 64) (hk : K (.int .u64 (rotl x n)) h) : CallX Hval.prog 389 [.int .u64 x, .int .i64 n] h K := by
  refine CallX.of_xf T_ok Hval.func389 rfl (by kernel_rfl) (Nat.le_of_ble_eq_true rfl) ?_; conv => whnf
  have e63 : IntKind.u64.wrap (((BitVec.ofInt IntKind.u64.bits (IntKind.u64.wrap (n : Int)) &&& BitVec.ofInt IntKind.u64.bits 63).toNat : Nat) : Int) = (n : Int) := by
    rw [wrapN64 (show n < 2 ^ 64 by omega), show (63 : Int) = ((63 : Nat) : Int) from rfl, and64 (by omega) (by omega), show (63 : Nat) = 2 ^ 6 - 1 from rfl, Nat.and_two_pow_sub_one_eq_mod, Nat.mod_eq_of_lt (by omega)]
  rw [e63]
  repeat (refine Ob.mk (by first | decide | omega) ?_; conv => whnf)
  rw [kshlN x n hn]
  have e64 : IntKind.u64.wrap (64 - (n : Int)) = ((64 - n : Nat) : Int) := by rw [wrap_u64']; omega
  rw [e64]
  repeat (refine Ob.mk (by first | decide | omega) ?_; conv => whnf)
  rw [kshrT x (64 - n) (by omega), or64 (Nat.mod_lt _ (by decide)) (shr_lt' hx)]
  have e : (x <<< n % 2 ^ 64 ||| x >>> (64 - n)) = rotl x n := by
    unfold rotl
    refine Nat.eq_of_testBit_eq fun z => ?_
    rw [Nat.testBit_or, Nat.testBit_mod_two_pow, Nat.testBit_mod_two_pow, Nat.testBit_or]
    by_cases hz : z < 64
    · simp [hz]
    · have : (x >>> (64 - n)).testBit z = false := Nat.testBit_lt_two_pow (Nat.lt_of_lt_of_le (shr_lt' hx) (Nat.pow_le_pow_right (by decide) (by omega)))
      simp [hz, this]
  rw [e]
  exact RetX.same hk
set_option maxRecDepth 100000 in
set_option maxHeartbeats 4000000 in
theorem rotate_ok {x n : Nat} (hx : x < 2 ^ 64) (hn : n < 64) (hk : K (.int .u64 (rotl x n)) h) : CallX Hval.prog 382 [.int .u64 x, .int .i64 n] h K := by
  refine CallX.of_xf T_ok Hval.func382 rfl (by kernel_rfl) (Nat.le_of_ble_eq_true rfl) ?_; conv => whnf
  refine rot_ok hx hn ?_; conv => whnf
  exact RetX.same hk
end
end Go.Proofs.YgvalwGreat.X
