import Derived.Test.YgvalwGreatF10
set_option linter.unusedVariables false
set_option linter.unusedSimpArgs false
namespace Go.Proofs.YgvalwGreat.X
open Go

theorem pow_split (i : Nat) : (2 : Int) ^ i = 256 ^ (i / 8) * 2 ^ (i % 8) := by
  have : (256 : Int) = 2 ^ 8 := by decide
  rw [this, ← Int.pow_mul, ← Int.pow_add]; congr 1; omega

theorem dv_set {l : List Int} {j : Nat} {d : Int} (hj : j < l.length) : dv (l.set j d) = dv l + (d - l.getD j 0) * 256 ^ j := by
  have key : ∀ k, pd (l.set j d) k = pd l k + if j < k then (d - l.getD j 0) * 256 ^ j else 0 := by
    intro k
    induction k with
    | zero => simp [pd]
    | succ k ih =>
      rw [pd, pd, ih]
      by_cases hkj : k = j
      · subst hkj
        rw [getD_set_same hj, if_neg (by omega), if_pos (by omega)]
        grind
      · rw [getD_set_other hkj]
        by_cases h1 : j < k
        · rw [if_pos h1, if_pos (by omega)]; omega
        · rw [if_neg h1, if_neg (by omega)]; omega
  rw [← pd_dv _ (i := l.length) (by simp), key, if_pos hj, pd_dv l (Nat.le_refl _)]

/-- The digit of a multiple of a power of two. -/
theorem digit_mult {q : List Int} (hb : isB q) {i : Nat} {Q : Int} (h : dv q = Q * 2 ^ (i + 1)) : ∃ k, 0 ≤ k ∧ q.getD (i / 8) 0 = k * 2 ^ (i % 8 + 1) := by
  have h1 := dv_digit hb (i / 8)
  have hg := hb.get (i / 8)
  have h8 : i % 8 < 8 := Nat.mod_lt _ (by decide)
  have hp : (0 : Int) < 256 ^ (i / 8) := Int.pow_pos (by decide)
  rw [h, Int.pow_succ, pow_split i] at h1
  have e : Q * (256 ^ (i / 8) * 2 ^ (i % 8) * 2) = (Q * 2 ^ (i % 8 + 1)) * 256 ^ (i / 8) := by rw [Int.pow_succ]; grind
  rw [e, Int.mul_ediv_cancel _ (by omega)] at h1
  rw [← h1]
  generalize i % 8 = r at h8
  refine ⟨Q * 2 ^ (r + 1) % 256 / 2 ^ (r + 1), Int.ediv_nonneg (Int.emod_nonneg _ (by decide)) (Int.le_of_lt (Int.pow_pos (by decide))), ?_⟩
  rcases (by omega : r = 0 ∨ r = 1 ∨ r = 2 ∨ r = 3 ∨ r = 4 ∨ r = 5 ∨ r = 6 ∨ r = 7) with e | e | e | e | e | e | e | e <;> subst e <;> simp <;> omega

theorem or_bit {a : Int} {r : Nat} (ha : 0 ≤ a) : (((a * 2 ^ (r + 1)).toNat ||| ((2 : Int) ^ r).toNat : Nat) : Int) = a * 2 ^ (r + 1) + 2 ^ r := by
  obtain ⟨a, rfl⟩ := Int.eq_ofNat_of_zero_le ha
  have e1 : (((a : Int) * 2 ^ (r + 1))).toNat = a * 2 ^ (r + 1) := by
    have : ((a : Int) * 2 ^ (r + 1)) = ((a * 2 ^ (r + 1) : Nat) : Int) := by simp
    rw [this, Int.toNat_natCast]
  have e2 : ((2 : Int) ^ r).toNat = 2 ^ r := by
    have : ((2 : Int) ^ r) = ((2 ^ r : Nat) : Int) := by simp
    rw [this, Int.toNat_natCast]
  rw [e1, e2, or_add (Nat.pow_lt_pow_right (by decide) (by omega))]
  simp

theorem bit_val {l : List Int} (hb : isB l) (i : Nat) : dv l / 2 ^ i % 2 = l.getD (i / 8) 0 / 2 ^ (i % 8) % 2 := by
  have h1 := dv_digit hb (i / 8)
  rw [pow_split i, ← Int.ediv_ediv_of_nonneg (Int.le_of_lt (Int.pow_pos (by decide))), ← h1]
  generalize dv l / 256 ^ (i / 8) = y
  have h8 : i % 8 < 8 := Nat.mod_lt _ (by decide)
  generalize i % 8 = r at h8
  rcases (by omega : r = 0 ∨ r = 1 ∨ r = 2 ∨ r = 3 ∨ r = 4 ∨ r = 5 ∨ r = 6 ∨ r = 7) with e | e | e | e | e | e | e | e <;> subst e <;> simp <;> omega

theorem halve (x : Int) (i : Nat) : x / 2 ^ i = 2 * (x / 2 ^ (i + 1)) + x / 2 ^ i % 2 := by
  rw [Int.pow_succ, ← Int.ediv_ediv_of_nonneg (Int.le_of_lt (Int.pow_pos (by decide)))]
  omega
end Go.Proofs.YgvalwGreat.X
