import Derived.Test.YgvalwGreatE9
set_option linter.unusedVariables false
set_option linter.unusedSimpArgs false
namespace Go.Proofs.YgvalwGreat.X
open Go

/-- One digit of a division by a divisor of two digits, by way of its first. -/
structure Dg (b v1 v0 u u1 q r : Nat) : Prop where
  eq : q * v1 + r = u
  up : u * b + u1 < (q + 1) * (v1 * b + v0)
theorem Dg.expand {b v1 v0 u u1 q r : Nat} (d : Dg b v1 v0 u u1 q r) : q * (v1 * b + v0) + r * b = u * b + q * v0 := by
  have := d.eq
  subst this
  grind
theorem Dg.start {b v1 v0 u u1 : Nat} (hv0 : v0 < b) (hv1 : b ≤ 2 * v1) (hb : 0 < b) (hu : u < v1 * b + v0) (hu1 : u1 < b) : Dg b v1 v0 u u1 (u / v1) (u % v1) ∧ u / v1 ≤ b + 1 := by
  have hp : 0 < v1 := by omega
  have e : u / v1 * v1 + u % v1 = u := by rw [Nat.mul_comm]; exact Nat.div_add_mod u v1
  have hr := Nat.mod_lt u hp
  refine ⟨⟨e, ?_⟩, ?_⟩
  · generalize u / v1 = q at *
    generalize u % v1 = r at *
    have h1 : (r + 1) * b ≤ v1 * b := Nat.mul_le_mul_right b hr
    have h2 : u * b = q * v1 * b + r * b := by rw [← e, Nat.add_mul]
    have h3 : (q + 1) * (v1 * b + v0) = q * v1 * b + q * v0 + v1 * b + v0 := by grind
    rw [h3, h2]
    rw [Nat.add_mul, Nat.one_mul] at h1
    generalize q * v1 * b = t1 at *
    generalize r * b = t2 at *
    generalize v1 * b = t3 at *
    generalize q * v0 = t4 at *
    omega
  · refine Nat.le_of_lt_succ ((Nat.div_lt_iff_lt_mul hp).2 ?_)
    have : (b + 1).succ * v1 = v1 * b + v1 + v1 := by grind
    rw [this]; omega
theorem Dg.next {b v1 v0 u u1 q r : Nat} (d : Dg b v1 v0 u u1 q r) (hu : u < v1 * b + v0) (hu1 : u1 < b) (hc : b ≤ q ∨ b * r + u1 < q * v0) (hb : 0 < b) : Dg b v1 v0 u u1 (q - 1) (r + v1) ∧ 1 ≤ q := by
  have hx := d.expand
  have h1 : u * b + u1 < q * (v1 * b + v0) := by
    rcases hc with hc | hc
    · have h2 : (u + 1) * b ≤ (v1 * b + v0) * b := Nat.mul_le_mul_right b hu
      have h3 : (v1 * b + v0) * b ≤ (v1 * b + v0) * q := Nat.mul_le_mul_left _ hc
      rw [Nat.mul_comm (v1 * b + v0) q] at h3
      rw [Nat.add_mul, Nat.one_mul] at h2
      omega
    · rw [Nat.mul_comm b r] at hc
      generalize q * (v1 * b + v0) = t1 at *
      generalize r * b = t2 at *
      generalize u * b = t3 at *
      generalize q * v0 = t4 at *
      omega
  have hq : 1 ≤ q := by
    rcases Nat.eq_zero_or_pos q with h | h
    · subst h; rw [Nat.zero_mul] at h1; omega
    · exact h
  obtain ⟨p, rfl⟩ : ∃ p, q = p + 1 := ⟨q - 1, by omega⟩
  refine ⟨⟨?_, ?_⟩, hq⟩
  · have := d.eq
    rw [Nat.add_mul, Nat.one_mul] at this
    simp only [Nat.add_sub_cancel]
    omega
  · simp only [Nat.add_sub_cancel]; exact h1
theorem Dg.done {b v1 v0 u u1 q r : Nat} (d : Dg b v1 v0 u u1 q r) (hc : q * v0 ≤ b * r + u1) : q = (u * b + u1) / (v1 * b + v0) ∧ q * (v1 * b + v0) ≤ u * b + u1 := by
  have hx := d.expand
  have h1 : q * (v1 * b + v0) ≤ u * b + u1 := by
    rw [Nat.mul_comm b r] at hc
    generalize q * (v1 * b + v0) = t1 at *
    generalize r * b = t2 at *
    generalize u * b = t3 at *
    generalize q * v0 = t4 at *
    omega
  refine ⟨?_, h1⟩
  have hu := d.up
  exact (Nat.div_eq_of_lt_le h1 hu).symm
theorem Dg.brk {b v1 v0 u u1 q r : Nat} (d : Dg b v1 v0 u u1 q r) (hv0 : v0 < b) (hq : q ≤ b) (hr : b ≤ r) : q = (u * b + u1) / (v1 * b + v0) ∧ q * (v1 * b + v0) ≤ u * b + u1 := by
  refine d.done ?_
  have h1 : q * v0 ≤ b * v0 := Nat.mul_le_mul_right _ hq
  have h2 : b * v0 ≤ b * r := Nat.mul_le_mul_left _ (by omega)
  omega
section
variable {h : Hp} {K : Value → Hp → Prop} {a b : Nat} {x y u v : Int}
set_option maxRecDepth 100000 in
set_option maxHeartbeats 4000000 in
theorem bLz64_ok (ha : a < 18446744073709551616) (ha0 : a ≠ 0) (hk : ∀ s : Nat, s < 64 → a * 2 ^ s < 18446744073709551616 → 9223372036854775808 ≤ a * 2 ^ s → K (.int .i64 s) h) : CallX Hval.prog 384 [.int .u64 a] h K := by
  refine CallX.of_xf T_ok Hval.func384 rfl (by kernel_rfl) (Nat.le_of_ble_eq_true rfl) ?_; conv => whnf
  refine bLen64_ok ha fun L h1 h2 h3 h4 => ?_; conv => whnf
  obtain ⟨h5, h6⟩ := h3 ha0
  have e : IntKind.i64.wrap (64 - (L : Int)) = ((64 - L : Nat) : Int) := by rw [wrap_i64 (by omega) (by omega)]; omega
  rw [e]
  refine RetX.same (hk (64 - L) (by omega) ?_ ?_)
  · have : 2 ^ L * 2 ^ (64 - L) = 2 ^ 64 := by rw [← Nat.pow_add]; congr 1; omega
    have h7 := Nat.mul_lt_mul_of_pos_right h2 (show 0 < 2 ^ (64 - L) from Nat.pow_pos (by decide))
    rw [this] at h7
    exact h7
  · have : 2 ^ (L - 1) * 2 ^ (64 - L) = 2 ^ 63 := by rw [← Nat.pow_add]; congr 1; omega
    have h7 := Nat.mul_le_mul_right (2 ^ (64 - L)) h6
    rw [this] at h7
    exact h7
set_option maxRecDepth 100000 in
set_option maxHeartbeats 4000000 in
theorem nLz64_ok (ha : a < 18446744073709551616) (ha0 : a ≠ 0) (hk : ∀ s : Nat, s < 64 → a * 2 ^ s < 18446744073709551616 → 9223372036854775808 ≤ a * 2 ^ s → K (.int .i64 s) h) : CallX Hval.prog 373 [.int .u64 a] h K := by
  refine CallX.of_xf T_ok Hval.func373 rfl (by kernel_rfl) (Nat.le_of_ble_eq_true rfl) ?_; conv => whnf
  refine bLz64_ok ha ha0 fun s h1 h2 h3 => ?_; conv => whnf
  exact RetX.same (hk s h1 h2 h3)
set_option maxRecDepth 100000 in
set_option maxHeartbeats 4000000 in
theorem nLen64_ok (ha : a < 18446744073709551616) (hk : ∀ L : Nat, L ≤ 64 → a < 2 ^ L → (a ≠ 0 → 1 ≤ L ∧ 2 ^ (L - 1) ≤ a) → (a = 0 → L = 0) → K (.int .i64 L) h) : CallX Hval.prog 238 [.int .u64 a] h K := by
  refine CallX.of_xf T_ok Hval.func238 rfl (by kernel_rfl) (Nat.le_of_ble_eq_true rfl) ?_; conv => whnf
  refine bLen64_ok ha fun L h1 h2 h3 h4 => ?_; conv => whnf
  exact RetX.same (hk L h1 h2 h3 h4)
end
end Go.Proofs.YgvalwGreat.X
