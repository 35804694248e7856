import Derived.Test.YgvalwGreatE14
set_option linter.unusedVariables false
set_option linter.unusedSimpArgs false
namespace Go.Proofs.YgvalwGreat.X
open Go

/-- The trial digit: what is known of it on the way. -/
structure Tri (b v1 v0 u u1 q r : Nat) : Prop where
  eq : q * v1 + r = u
  lt : q < b
  up : u * b + u1 < (q + 1) * (v1 * b + v0) ∨ q + 1 = b
theorem Tri.expand {b v1 v0 u u1 q r : Nat} (d : Tri b v1 v0 u u1 q r) : q * (v1 * b + v0) + r * b = u * b + q * v0 := by
  have := d.eq
  subst this
  grind
theorem Tri.done {b v1 v0 u u1 q r : Nat} (d : Tri b v1 v0 u u1 q r) (hc : q * v0 ≤ r * b + u1) : q * (v1 * b + v0) ≤ u * b + u1 := by
  have hx := d.expand
  generalize q * (v1 * b + v0) = t1 at *
  generalize r * b = t2 at *
  generalize u * b = t3 at *
  generalize q * v0 = t4 at *
  omega
theorem Tri.over {b v1 v0 u u1 q r : Nat} (d : Tri b v1 v0 u u1 q r) (hv0 : v0 < b) (hr : b ≤ r) : q * (v1 * b + v0) ≤ u * b + u1 := by
  refine d.done ?_
  have h1 : q * v0 ≤ b * b := Nat.mul_le_mul (Nat.le_of_lt d.lt) (Nat.le_of_lt hv0)
  have h2 : b * b ≤ r * b := Nat.mul_le_mul_right _ hr
  omega
theorem Tri.next {b v1 v0 u u1 q r : Nat} (d : Tri b v1 v0 u u1 q r) (hc : r * b + u1 < q * v0) : Tri b v1 v0 u u1 (q - 1) (r + v1) ∧ 1 ≤ q := by
  have hx := d.expand
  have h1 : u * b + u1 < q * (v1 * b + v0) := by
    generalize q * (v1 * b + v0) = t1 at *
    generalize r * b = t2 at *
    generalize u * b = t3 at *
    generalize q * v0 = t4 at *
    omega
  have hq : 1 ≤ q := by
    rcases Nat.eq_zero_or_pos q with h | h
    · subst h; rw [Nat.zero_mul] at hc; omega
    · exact h
  obtain ⟨p, rfl⟩ : ∃ p, q = p + 1 := ⟨q - 1, by omega⟩
  have hlt := d.lt
  refine ⟨⟨?_, by omega, .inl ?_⟩, hq⟩
  · have := d.eq
    rw [Nat.add_mul, Nat.one_mul] at this
    simp only [Nat.add_sub_cancel]
    omega
  · simp only [Nat.add_sub_cancel]; exact h1
theorem Tri.start {b v1 v0 hi mid u1 : Nat} (hv1 : hi < v1) (hmid : mid < b) (hu1 : u1 < b) : Tri b v1 v0 (hi * b + mid) u1 ((hi * b + mid) / v1) ((hi * b + mid) % v1) := by
  have hp : 0 < v1 := by omega
  have e : (hi * b + mid) / v1 * v1 + (hi * b + mid) % v1 = hi * b + mid := by rw [Nat.mul_comm]; exact Nat.div_add_mod _ v1
  have hr := Nat.mod_lt (hi * b + mid) hp
  refine ⟨e, (Nat.div_lt_iff_lt_mul hp).2 ?_, .inl ?_⟩
  · have := Nat.mul_le_mul_right b (show hi + 1 ≤ v1 from hv1)
    rw [Nat.add_mul, Nat.one_mul, Nat.mul_comm v1] at this
    omega
  · generalize (hi * b + mid) / v1 = q at *
    generalize (hi * b + mid) % v1 = r at *
    generalize hi * b + mid = u at *
    have h1 : (r + 1) * b ≤ v1 * b := Nat.mul_le_mul_right b hr
    have h2 : u * b = q * v1 * b + r * b := by rw [← e, Nat.add_mul]
    have h3 : (q + 1) * (v1 * b + v0) = q * v1 * b + q * v0 + v1 * b + v0 := by grind
    rw [h3, h2]
    rw [Nat.add_mul, Nat.one_mul] at h1
    generalize q * v1 * b = t1 at *
    generalize r * b = t2 at *
    generalize v1 * b = t3 at *
    generalize q * v0 = t4 at *
    omega
theorem Tri.top {b v1 v0 mid u1 : Nat} (hb : 0 < b) : Tri b v1 v0 (v1 * b + mid) u1 (b - 1) (mid + v1) := by
  obtain ⟨p, rfl⟩ : ∃ p, b = p + 1 := ⟨b - 1, by omega⟩
  refine ⟨?_, by omega, .inr (by omega)⟩
  simp only [Nat.add_sub_cancel]
  rw [Nat.mul_add, Nat.mul_one, Nat.mul_comm p]
  omega
end Go.Proofs.YgvalwGreat.X
