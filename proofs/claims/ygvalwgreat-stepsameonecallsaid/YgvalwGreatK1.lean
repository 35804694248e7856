import Derived.Test.YgvalwGreatG5
set_option linter.unusedVariables false
set_option linter.unusedSimpArgs false
namespace Go.Proofs.YgvalwGreat.X
open Go

/-! ### Keccak on lanes -/
def rotl (x n : Nat) : Nat := (x <<< n ||| x >>> (64 - n)) % 2 ^ 64
theorem rotl_lt (x n : Nat) : rotl x n < 2 ^ 64 := Nat.mod_lt _ (by decide)
theorem rotl_bit {x n z : Nat} (hx : x < 2 ^ 64) (hn : n < 64) (hz : z < 64) : (rotl x n).testBit z = x.testBit ((z + 64 - n) % 64) := by
  unfold rotl
  rw [Nat.testBit_mod_two_pow, Nat.testBit_or, Nat.testBit_shiftLeft, Nat.testBit_shiftRight, decide_eq_true hz, Bool.true_and]
  by_cases h : n ≤ z
  · have h1 : x.testBit (64 - n + z) = false := Nat.testBit_lt_two_pow (Nat.lt_of_lt_of_le hx (Nat.pow_le_pow_right (by decide) (by omega)))
    rw [h1, decide_eq_true h, Bool.true_and, Bool.or_false]
    congr 1; omega
  · rw [decide_eq_false h, Bool.false_and, Bool.false_or]
    congr 1; omega
def cL (L : Nat → Nat) (x : Nat) : Nat := L x ^^^ L (x + 5) ^^^ L (x + 10) ^^^ L (x + 15) ^^^ L (x + 20)
def dL (L : Nat → Nat) (x : Nat) : Nat := cL L ((x + 4) % 5) ^^^ rotl (cL L ((x + 1) % 5)) 1
def thL (L : Nat → Nat) (i : Nat) : Nat := L i ^^^ dL L (i % 5)
def rhL (L : Nat → Nat) (i : Nat) : Nat := rotl (L i) (offN (i % 5) (i / 5) % 64)
def piL (L : Nat → Nat) (i : Nat) : Nat := L (5 * (i % 5) + (i % 5 + 3 * (i / 5)) % 5)
def ntL (x : Nat) : Nat := x ^^^ (2 ^ 64 - 1)
def chL (L : Nat → Nat) (i : Nat) : Nat := L i ^^^ (ntL (L (5 * (i / 5) + (i % 5 + 1) % 5)) &&& L (5 * (i / 5) + (i % 5 + 2) % 5))
def ioL (c : Nat) (L : Nat → Nat) (i : Nat) : Nat := if i = 0 then L 0 ^^^ c else L i
def prL : Nat → (Nat → Nat) → Nat → Nat
  | 0, L => L
  | n + 1, L => ioL (constN n) (chL (piL (rhL (thL (prL n L)))))
def lay (L : Nat → Nat) : Nat → Bool := fun j => (L (5 * (j / 64 % 5) + j / 320)).testBit (j % 64)
def EqB (g g' : Nat → Bool) : Prop := ∀ j, j < 1600 → g j = g' j
def Ln (L : Nat → Nat) : Prop := ∀ i, i < 25 → L i < 2 ^ 64
theorem xorlt {a b : Nat} (ha : a < 2 ^ 64) (hb : b < 2 ^ 64) : a ^^^ b < 2 ^ 64 := Nat.xor_lt_two_pow ha hb
theorem cL_lt {L : Nat → Nat} (h : Ln L) {x : Nat} (hx : x < 5) : cL L x < 2 ^ 64 := xorlt (xorlt (xorlt (xorlt (h _ (by omega)) (h _ (by omega))) (h _ (by omega))) (h _ (by omega))) (h _ (by omega))
theorem dL_lt {L : Nat → Nat} (h : Ln L) (x : Nat) : dL L x < 2 ^ 64 := xorlt (cL_lt h (by omega)) (rotl_lt _ _)
theorem thL_ln {L : Nat → Nat} (h : Ln L) : Ln (thL L) := fun i hi => xorlt (h i hi) (dL_lt h _)
theorem rhL_ln (L : Nat → Nat) : Ln (rhL L) := fun i _ => rotl_lt _ _
theorem piL_ln {L : Nat → Nat} (h : Ln L) : Ln (piL L) := fun i hi => h _ (by omega)
theorem ntL_lt {x : Nat} (h : x < 2 ^ 64) : ntL x < 2 ^ 64 := xorlt h (by decide)
theorem chL_ln {L : Nat → Nat} (h : Ln L) : Ln (chL L) := fun i hi => xorlt (h i hi) (Nat.and_lt_two_pow _ (h _ (by omega)))
theorem ioL_ln {c : Nat} (hc : c < 2 ^ 64) {L : Nat → Nat} (h : Ln L) : Ln (ioL c L) := fun i hi => by
  unfold ioL; split
  · exact xorlt (h 0 (by omega)) hc
  · exact h i hi
theorem lay_at {L : Nat → Nat} {x y z : Nat} (hy : y < 5) (hz : z < 64) : lay L (320 * x + 64 * y + z) = (L (5 * y + x)).testBit z := by
  unfold lay
  rw [show (320 * x + 64 * y + z) / 64 % 5 = y by omega, show (320 * x + 64 * y + z) / 320 = x by omega, show (320 * x + 64 * y + z) % 64 = z by omega]
theorem j_split {j : Nat} (hj : j < 1600) : ∃ x y z, x < 5 ∧ y < 5 ∧ z < 64 ∧ j = 320 * x + 64 * y + z := ⟨j / 320, j / 64 % 5, j % 64, by omega, by omega, by omega, by omega⟩
theorem col_lay {g : Nat → Bool} {L : Nat → Nat} (h : EqB g (lay L)) {x z : Nat} (hx : x < 5) (hz : z < 64) : colP g x z 5 = (cL L x).testBit z := by
  have e : ∀ n, n < 5 → g (320 * x + 64 * n + z) = (L (5 * n + x)).testBit z := fun n hn => by rw [h _ (by omega), lay_at hn hz]
  simp only [colP, cL, Nat.testBit_xor]
  rw [e 0 (by omega), e 1 (by omega), e 2 (by omega), e 3 (by omega), e 4 (by omega)]
  rw [show 5 * 0 + x = x by omega, show 5 * 1 + x = x + 5 by omega, show 5 * 2 + x = x + 10 by omega, show 5 * 3 + x = x + 15 by omega, show 5 * 4 + x = x + 20 by omega]
  cases (L x).testBit z <;> rfl
theorem theta_lay {g : Nat → Bool} {L : Nat → Nat} (h : EqB g (lay L)) (hL : Ln L) : EqB (thetaB g) (lay (thL L)) := fun j hj => by
  obtain ⟨x, y, z, hx, hy, hz, rfl⟩ := j_split hj
  unfold thetaB
  rw [show (320 * x + 64 * y + z) / 320 = x by omega, show (320 * x + 64 * y + z) % 64 = z by omega, h _ hj, lay_at hy hz, lay_at hy hz, col_lay h (by omega) hz, col_lay h (by omega) (by omega)]
  unfold thL dL
  rw [show (5 * y + x) % 5 = x by omega, Nat.testBit_xor, Nat.testBit_xor, rotl_bit (cL_lt hL (by omega)) (by omega) hz, show (z + 64 - 1) % 64 = (z + 63) % 64 by omega]
theorem rho_lay {g : Nat → Bool} {L : Nat → Nat} (h : EqB g (lay L)) (hL : Ln L) : EqB (rhoB g) (lay (rhL L)) := fun j hj => by
  obtain ⟨x, y, z, hx, hy, hz, rfl⟩ := j_split hj
  unfold rhoB
  rw [show (320 * x + 64 * y + z) / 320 = x by omega, show (320 * x + 64 * y + z) % 64 = z by omega, show (320 * x + 64 * y + z) / 64 = 5 * x + y by omega, show (5 * x + y) % 5 = y by omega, lay_at hy hz]
  unfold rhL
  rw [show (5 * y + x) % 5 = x by omega, show (5 * y + x) / 5 = y by omega]
  have ho : offN x y % 64 < 64 := Nat.mod_lt _ (by decide)
  generalize offN x y % 64 = o at ho
  rw [rotl_bit (hL _ (by omega)) ho hz]
  have := lay_at (L := L) (x := x) hy (show (z + 64 - o) % 64 < 64 by omega)
  rw [← this, show 64 * (5 * x + y) + (z + 64 - o) % 64 = 320 * x + 64 * y + (z + 64 - o) % 64 by omega, h _ (by omega)]
theorem pi_lay {g : Nat → Bool} {L : Nat → Nat} (h : EqB g (lay L)) : EqB (piB g) (lay (piL L)) := fun j hj => by
  obtain ⟨x, y, z, hx, hy, hz, rfl⟩ := j_split hj
  unfold piB
  rw [show (320 * x + 64 * y + z) / 320 = x by omega, show (320 * x + 64 * y + z) % 64 = z by omega, show (320 * x + 64 * y + z) / 64 % 5 = y by omega, h _ (by omega), lay_at (by omega) hz, lay_at hy hz]
  unfold piL
  rw [show (5 * y + x) % 5 = x by omega, show (5 * y + x) / 5 = y by omega]
theorem nt_bit {x z : Nat} (hz : z < 64) : (ntL x).testBit z = !x.testBit z := by
  unfold ntL
  rw [Nat.testBit_xor, Nat.testBit_two_pow_sub_one, decide_eq_true hz, Bool.xor_true]
theorem chi_lay {g : Nat → Bool} {L : Nat → Nat} (h : EqB g (lay L)) : EqB (chiB g) (lay (chL L)) := fun j hj => by
  obtain ⟨x, y, z, hx, hy, hz, rfl⟩ := j_split hj
  unfold chiB
  rw [show (320 * x + 64 * y + z) / 320 = x by omega, show (320 * x + 64 * y + z) % 320 = 64 * y + z by omega, h _ hj, lay_at hy hz, lay_at hy hz]
  have e : ∀ k, 320 * ((x + k) % 5) + (64 * y + z) = 320 * ((x + k) % 5) + 64 * y + z := fun k => by omega
  rw [e, e, h _ (by omega), h _ (by omega), lay_at hy hz, lay_at hy hz]
  unfold chL
  rw [show (5 * y + x) % 5 = x by omega, show (5 * y + x) / 5 = y by omega, Nat.testBit_xor, Nat.testBit_and, nt_bit hz]
  cases (L (5 * y + x)).testBit z <;> cases (L (5 * y + (x + 1) % 5)).testBit z <;> cases (L (5 * y + (x + 2) % 5)).testBit z <;> rfl
theorem iota_lay {g : Nat → Bool} {L : Nat → Nat} (c : Nat) (h : EqB g (lay L)) : EqB (iotaB c g) (lay (ioL c L)) := fun j hj => by
  obtain ⟨x, y, z, hx, hy, hz, rfl⟩ := j_split hj
  unfold iotaB
  rw [h _ hj, lay_at hy hz, lay_at hy hz]
  unfold ioL
  by_cases h0 : 5 * y + x = 0
  · have : x = 0 := by omega
    have : y = 0 := by omega
    subst x y
    rw [if_pos (by omega), if_pos rfl, Nat.testBit_xor, show 320 * 0 + 64 * 0 + z = z by omega]
  · rw [if_neg (by omega), if_neg h0]
theorem prL_ln {L : Nat → Nat} (h : Ln L) (n : Nat) : Ln (prL n L) := by
  induction n with
  | zero => exact h
  | succ n ih => exact ioL_ln (constN_lt n) (chL_ln (piL_ln (rhL_ln _)))
theorem perm_lay {g : Nat → Bool} {L : Nat → Nat} (h : EqB g (lay L)) (hL : Ln L) (n : Nat) : EqB (permB n g) (lay (prL n L)) := by
  induction n with
  | zero => exact h
  | succ n ih => exact iota_lay _ (chi_lay (pi_lay (rho_lay (theta_lay ih (prL_ln hL n)) (thL_ln (prL_ln hL n)))))
/-- The lanes of a state of bits. -/
def Flat (s : Nat → Bool) (L : Nat → Nat) : Prop := ∀ i, i < 1600 → s i = (L (i / 64)).testBit (i % 64)
theorem kF_lanes {s : Nat → Bool} {L : Nat → Nat} (h : Flat s L) (hL : Ln L) : Flat (kF s) (prL 24 L) := fun i hi => by
  have h1 : EqB (layB s) (lay L) := fun j hj => by
    unfold layB lay
    rw [h _ (by omega), show (64 * (5 * (j / 64 % 5) + j / 320) + j % 64) / 64 = 5 * (j / 64 % 5) + j / 320 by omega, show (64 * (5 * (j / 64 % 5) + j / 320) + j % 64) % 64 = j % 64 by omega]
  unfold kF
  rw [perm_lay h1 hL 24 _ (by omega), lay_at (by omega) (by omega)]
  congr 2; omega
/-- Absorbing whole blocks. -/
def blkB (s p : Nat → Bool) (m : Nat) : Nat → Bool := fun i => if i < 1088 then (s i != p (1088 * m + i)) else s i
theorem absB_succ (p : Nat → Bool) (n : Nat) : absB p (n + 1) = if n % 1088 = 1087 then kF (updB (absB p n) (n % 1088) (absB p n (n % 1088) != p n)) else updB (absB p n) (n % 1088) (absB p n (n % 1088) != p n) := rfl
theorem abs_part {p : Nat → Bool} {m r : Nat} (hr : r < 1088) : absB p (1088 * m + r) = fun i => if i < r then (absB p (1088 * m) i != p (1088 * m + i)) else absB p (1088 * m) i := by
  induction r with
  | zero => funext i; rw [if_neg (by omega)]; rfl
  | succ r ih =>
    rw [← Nat.add_assoc]
    rw [absB_succ, if_neg (by omega), ih (by omega), show (1088 * m + r) % 1088 = r by omega]
    funext i
    unfold updB
    dsimp only
    by_cases h1 : i = r
    · subst h1; rw [if_pos rfl, if_neg (by omega), if_pos (by omega)]
    · rw [if_neg h1]
      by_cases h2 : i < r
      · rw [if_pos h2, if_pos (by omega)]
      · rw [if_neg h2, if_neg (by omega)]
theorem abs_block (p : Nat → Bool) (m : Nat) : absB p (1088 * (m + 1)) = kF (blkB (absB p (1088 * m)) p m) := by
  rw [show 1088 * (m + 1) = 1088 * m + 1087 + 1 by omega]
  rw [absB_succ, if_pos (by omega), abs_part (by omega), show (1088 * m + 1087) % 1088 = 1087 by omega]
  congr 1
  funext i
  unfold updB blkB
  dsimp only
  by_cases h1 : i = 1087
  · subst h1; rw [if_pos rfl, if_neg (by omega), if_pos (by omega)]
  · rw [if_neg h1]
    by_cases h2 : i < 1087
    · rw [if_pos h2, if_pos (by omega)]
    · rw [if_neg h2, if_neg (by omega)]
end Go.Proofs.YgvalwGreat.X
