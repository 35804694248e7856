import Derived.Test.YgvalwGreatF16
set_option linter.unusedVariables false
set_option linter.unusedSimpArgs false
namespace Go.Proofs.YgvalwGreat.X
open Go

theorem getD_le {n : Nat} {x : Int} {j : Nat} (hj : j < n) : (le n x).getD j 0 = x / 256 ^ j % 256 := by
  induction n generalizing x j with
  | zero => omega
  | succ n ih =>
    cases j with
    | zero => simp [le]
    | succ j =>
      simp only [le, List.getD_cons_succ]
      rw [ih (by omega), Int.pow_succ, Int.mul_comm (256 ^ j) 256, ← Int.ediv_ediv_of_nonneg (by decide)]

theorem dv_of_digits {l : List Int} {x : Int} (h0 : 0 ≤ x) (h1 : x < 256 ^ l.length) (hd : ∀ j, j < l.length → l.getD j 0 = x / 256 ^ j % 256) : dv l = x := by
  have : l = le l.length x := dv_ext (by rw [le_length]) fun j hj => by rw [hd j hj, getD_le hj]
  rw [this, dv_le h0 h1]

/-- The bit operations on whole numbers. -/
def bitOp (o : Nat) (a b : Int) : Int :=
  if o = 22 then ((a.toNat &&& b.toNat : Nat) : Int) else if o = 23 then ((a.toNat ||| b.toNat : Nat) : Int) else if o = 24 then ((a.toNat ^^^ b.toNat : Nat) : Int) else W - 1 - a

theorem digN (a : Nat) (j : Nat) : ((a : Int) / 256 ^ j % 256) = ((a >>> (8 * j) % 2 ^ 8 : Nat) : Int) := by
  rw [Nat.shiftRight_eq_div_pow, Nat.pow_mul]
  simp
theorem toNat_dig {a : Int} (ha : 0 ≤ a) (j : Nat) : (a / 256 ^ j % 256).toNat = a.toNat >>> (8 * j) % 2 ^ 8 := by
  obtain ⟨a, rfl⟩ := Int.eq_ofNat_of_zero_le ha
  rw [digN, Int.toNat_natCast]; rfl

theorem and_dig {a b : Int} (ha : 0 ≤ a) (hb : 0 ≤ b) (j : Nat) : (((a / 256 ^ j % 256).toNat &&& (b / 256 ^ j % 256).toNat : Nat) : Int) = ((a.toNat &&& b.toNat : Nat) : Int) / 256 ^ j % 256 := by
  rw [toNat_dig ha, toNat_dig hb, digN, Nat.shiftRight_and_distrib, Nat.and_mod_two_pow]
theorem or_dig {a b : Int} (ha : 0 ≤ a) (hb : 0 ≤ b) (j : Nat) : (((a / 256 ^ j % 256).toNat ||| (b / 256 ^ j % 256).toNat : Nat) : Int) = ((a.toNat ||| b.toNat : Nat) : Int) / 256 ^ j % 256 := by
  rw [toNat_dig ha, toNat_dig hb, digN, Nat.shiftRight_or_distrib, Nat.or_mod_two_pow]
theorem xor_dig {a b : Int} (ha : 0 ≤ a) (hb : 0 ≤ b) (j : Nat) : (((a / 256 ^ j % 256).toNat ^^^ (b / 256 ^ j % 256).toNat : Nat) : Int) = ((a.toNat ^^^ b.toNat : Nat) : Int) / 256 ^ j % 256 := by
  rw [toNat_dig ha, toNat_dig hb, digN, Nat.shiftRight_xor_distrib, Nat.xor_mod_two_pow]
end Go.Proofs.YgvalwGreat.X
