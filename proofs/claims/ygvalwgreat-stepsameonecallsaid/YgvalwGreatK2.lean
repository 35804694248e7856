import Derived.Test.YgvalwGreatK1
set_option linter.unusedVariables false
set_option linter.unusedSimpArgs false
namespace Go.Proofs.YgvalwGreat.X
open Go

theorem dv_bit {l : List Int} (hB : isB l) (k : Nat) {r : Nat} (hr : r < 8) : (dv l).toNat.testBit (8 * k + r) = (l.getD k 0).toNat.testBit r := by
  induction l generalizing k with
  | nil => simp [dv]
  | cons d l ih =>
    have h1 := hB d (List.mem_cons_self ..)
    have h2 := dv_nonneg fun x hx => hB x (List.mem_cons_of_mem d hx)
    have e : (dv (d :: l)).toNat = 2 ^ 8 * (dv l).toNat + d.toNat := by simp only [dv]; omega
    rw [e, Nat.testBit_two_pow_mul_add _ (by omega)]
    cases k with
    | zero => rw [if_pos (by omega), Nat.mul_zero, Nat.zero_add]; rfl
    | succ k =>
      rw [if_neg (by omega), show 8 * (k + 1) + r - 8 = 8 * k + r by omega, ih (fun x hx => hB x (List.mem_cons_of_mem d hx))]; rfl
theorem bv_bit {l : List Int} (hB : isB l) {q : Nat} (hq : q < l.length) {r : Nat} (hr : r < 8) : (bv l).toNat.testBit (8 * (l.length - 1 - q) + r) = (l.getD q 0).toNat.testBit r := by
  unfold bv
  rw [dv_bit (isB_rev hB) _ hr, getD_rev (by omega)]
  congr 3; omega
/-- The bytes of a lane in the other order. -/
def tuA (x : Nat) : Nat := (x >>> 8 &&& 71777214294589695) ||| ((x &&& 71777214294589695) <<< 8) % 2 ^ 64
def tuB (x : Nat) : Nat := (x >>> 16 &&& 281470681808895) ||| ((x &&& 281470681808895) <<< 16) % 2 ^ 64
def tuC (x : Nat) : Nat := x >>> 32 ||| (x <<< 32) % 2 ^ 64
def tuN (x : Nat) : Nat := tuC (tuB (tuA x))
theorem shr_lt' {x k : Nat} (h : x < 2 ^ 64) : x >>> k < 2 ^ 64 := Nat.lt_of_le_of_lt (Nat.shiftRight_le x k) h
theorem tuA_lt {x : Nat} (_h : x < 2 ^ 64) : tuA x < 2 ^ 64 := Nat.or_lt_two_pow (Nat.and_lt_two_pow _ (by decide)) (Nat.mod_lt _ (by decide))
theorem tuB_lt {x : Nat} (_h : x < 2 ^ 64) : tuB x < 2 ^ 64 := Nat.or_lt_two_pow (Nat.and_lt_two_pow _ (by decide)) (Nat.mod_lt _ (by decide))
theorem tuC_lt {x : Nat} (h : x < 2 ^ 64) : tuC x < 2 ^ 64 := Nat.or_lt_two_pow (shr_lt' h) (Nat.mod_lt _ (by decide))
theorem tuN_lt {x : Nat} (h : x < 2 ^ 64) : tuN x < 2 ^ 64 := tuC_lt (tuB_lt (tuA_lt h))
theorem maskA : ∀ z : Fin 64, Nat.testBit 71777214294589695 z.val = decide (z.val / 8 % 2 = 0) := by decide
theorem maskB : ∀ z : Fin 64, Nat.testBit 281470681808895 z.val = decide (z.val / 16 % 2 = 0) := by decide
theorem tuA_bit {x z : Nat} (hz : z < 64) : (tuA x).testBit z = x.testBit (if z / 8 % 2 = 0 then z + 8 else z - 8) := by
  unfold tuA
  rw [Nat.testBit_or, Nat.testBit_and, Nat.testBit_shiftRight, Nat.testBit_mod_two_pow, Nat.testBit_shiftLeft, Nat.testBit_and, decide_eq_true hz, maskA ⟨z, hz⟩]
  dsimp only
  split <;> rename_i h
  · rw [decide_eq_true h, Bool.and_true, Nat.add_comm 8 z]
    by_cases h2 : z ≥ 8
    · rw [maskA ⟨z - 8, by omega⟩, decide_eq_false (show ¬ ((z - 8) / 8 % 2 = 0) by omega)]; simp
    · rw [decide_eq_false h2]; simp
  · rw [decide_eq_false h, Bool.and_false, decide_eq_true (show z ≥ 8 by omega), maskA ⟨z - 8, by omega⟩, decide_eq_true (show (z - 8) / 8 % 2 = 0 by omega)]; simp
theorem tuB_bit {x z : Nat} (hz : z < 64) : (tuB x).testBit z = x.testBit (if z / 16 % 2 = 0 then z + 16 else z - 16) := by
  unfold tuB
  rw [Nat.testBit_or, Nat.testBit_and, Nat.testBit_shiftRight, Nat.testBit_mod_two_pow, Nat.testBit_shiftLeft, Nat.testBit_and, decide_eq_true hz, maskB ⟨z, hz⟩]
  dsimp only
  split <;> rename_i h
  · rw [decide_eq_true h, Bool.and_true, Nat.add_comm 16 z]
    by_cases h2 : z ≥ 16
    · rw [maskB ⟨z - 16, by omega⟩, decide_eq_false (show ¬ ((z - 16) / 16 % 2 = 0) by omega)]; simp
    · rw [decide_eq_false h2]; simp
  · rw [decide_eq_false h, Bool.and_false, decide_eq_true (show z ≥ 16 by omega), maskB ⟨z - 16, by omega⟩, decide_eq_true (show (z - 16) / 16 % 2 = 0 by omega)]; simp
theorem tuC_bit {x z : Nat} (hx : x < 2 ^ 64) (hz : z < 64) : (tuC x).testBit z = x.testBit (if z < 32 then z + 32 else z - 32) := by
  unfold tuC
  rw [Nat.testBit_or, Nat.testBit_shiftRight, Nat.testBit_mod_two_pow, Nat.testBit_shiftLeft, decide_eq_true hz]
  split <;> rename_i h
  · rw [decide_eq_false (show ¬ z ≥ 32 by omega), Nat.add_comm 32 z]; simp
  · rw [decide_eq_true (show z ≥ 32 by omega), Nat.testBit_lt_two_pow (x := x) (i := 32 + z) (Nat.lt_of_lt_of_le hx (Nat.pow_le_pow_right (by decide) (by omega)))]; simp
theorem tuN_bit {x z : Nat} (hx : x < 2 ^ 64) (hz : z < 64) : (tuN x).testBit z = x.testBit (8 * (7 - z / 8) + z % 8) := by
  unfold tuN
  have h1 : (if z < 32 then z + 32 else z - 32) < 64 := by split <;> omega
  rw [tuC_bit (tuB_lt (tuA_lt hx)) hz, tuB_bit h1]
  generalize he : (if z < 32 then z + 32 else z - 32) = y at h1
  have h2 : (if y / 16 % 2 = 0 then y + 16 else y - 16) < 64 := by split <;> omega
  rw [tuA_bit h2]
  generalize he2 : (if y / 16 % 2 = 0 then y + 16 else y - 16) = u at h2
  congr 1
  split at he <;> split at he2 <;> split <;> omega
/-- The lane that eight bytes make. -/
def laneI (l : List Int) : Nat := tuN (bv l).toNat
theorem bv_lt8 {l : List Int} (hB : isB l) (hl : l.length = 8) : 0 ≤ bv l ∧ (bv l).toNat < 2 ^ 64 := by
  have h1 := bv_lt hB
  rw [hl] at h1
  have h2 : 0 ≤ bv l := dv_nonneg (isB_rev hB)
  have h3 : (256 : Int) ^ 8 = 18446744073709551616 := by decide
  rw [h3] at h1
  exact ⟨h2, by rw [show (2 : Nat) ^ 64 = 18446744073709551616 from rfl]; omega⟩
theorem lane_bit {l : List Int} (hB : isB l) (hl : l.length = 8) {z : Nat} (hz : z < 64) : (laneI l).testBit z = (l.getD (z / 8) 0).toNat.testBit (z % 8) := by
  unfold laneI
  rw [tuN_bit (bv_lt8 hB hl).2 hz, ← bv_bit hB (q := z / 8) (by omega) (by omega), hl]
theorem lane_lt {l : List Int} (hB : isB l) (hl : l.length = 8) : laneI l < 2 ^ 64 := tuN_lt (bv_lt8 hB hl).2
/-- One block laid on the lanes. -/
def xorL (L : Nat → Nat) (l : List Int) : Nat → Nat := fun i => if i < 17 then L i ^^^ laneI ((l.drop (8 * i)).take 8) else L i
theorem part8 {l : List Int} (hl : l.length = 136) {i : Nat} (hi : i < 17) : ((l.drop (8 * i)).take 8).length = 8 := by simp; omega
theorem isB_part {l : List Int} (hB : isB l) (a b : Nat) : isB ((l.drop a).take b) := fun d hd => hB d (List.mem_of_mem_drop (List.mem_of_mem_take hd))
theorem xorL_ln {L : Nat → Nat} (h : Ln L) {l : List Int} (hB : isB l) (hl : l.length = 136) : Ln (xorL L l) := fun i hi => by
  unfold xorL; split
  · exact xorlt (h i hi) (lane_lt (isB_part hB _ _) (part8 hl (by omega)))
  · exact h i hi
theorem blk_lanes {s p : Nat → Bool} {L : Nat → Nat} {m : Nat} {l : List Int} (h : Flat s L) (hB : isB l) (hl : l.length = 136) (hp : ∀ j, j < 1088 → p (1088 * m + j) = (l.getD (j / 8) 0).toNat.testBit (j % 8)) : Flat (blkB s p m) (xorL L l) := fun i hi => by
  unfold blkB xorL
  by_cases h1 : i < 1088
  · have h2 : i / 64 < 17 := by omega
    rw [if_pos h1, if_pos h2, h i hi, hp i h1, Nat.testBit_xor, lane_bit (isB_part hB _ _) (part8 hl h2) (by omega)]
    have e : ((l.drop (8 * (i / 64))).take 8).getD (i % 64 / 8) 0 = l.getD (i / 8) 0 := by
      rw [List.getD_eq_getElem?_getD, List.getElem?_take_of_lt (by omega), List.getElem?_drop, show 8 * (i / 64) + i % 64 / 8 = i / 8 by omega, ← List.getD_eq_getElem?_getD]
    rw [e, show i % 64 % 8 = i % 8 by omega]
  · rw [if_neg h1, if_neg (by omega), h i hi]
/-- The lanes after m whole blocks. -/
def lnS (blk : Nat → List Int) : Nat → Nat → Nat
  | 0 => fun _ => 0
  | m + 1 => prL 24 (xorL (lnS blk m) (blk m))
theorem lnS_ok {p : Nat → Bool} {blk : Nat → List Int} {n : Nat} (hb : ∀ m, m < n → isB (blk m) ∧ (blk m).length = 136 ∧ ∀ j, j < 1088 → p (1088 * m + j) = ((blk m).getD (j / 8) 0).toNat.testBit (j % 8)) : Flat (absB p (1088 * n)) (lnS blk n) ∧ Ln (lnS blk n) := by
  induction n with
  | zero => exact ⟨fun i _ => by simp [absB, lnS], fun i _ => by simp [lnS]⟩
  | succ n ih =>
    obtain ⟨h1, h2⟩ := ih fun m hm => hb m (by omega)
    obtain ⟨b1, b2, b3⟩ := hb n (by omega)
    rw [abs_block]
    exact ⟨kF_lanes (blk_lanes h1 b1 b2 b3) (xorL_ln h2 b1 b2), prL_ln (xorL_ln h2 b1 b2) 24⟩
/-- The blocks of a message. -/
def lastI (l : List Int) : List Int := (l ++ 1 :: List.replicate (135 - l.length) 0).set 135 (if l.length = 135 then 129 else 128)
def kblkI (l : List Int) (m : Nat) : List Int := if m < l.length / 136 then (l.drop (136 * m)).take 136 else lastI (l.drop (136 * m))
theorem last_len {l : List Int} (h : l.length < 136) : (lastI l).length = 136 := by unfold lastI; simp; omega
theorem last_get {l : List Int} (h : l.length < 136) {j : Nat} (hj : j < 136) : (lastI l).getD j 0 = if j = 135 then (if l.length = 135 then 129 else 128) else if j < l.length then l.getD j 0 else if j = l.length then 1 else 0 := by
  unfold lastI
  rw [List.getD_eq_getElem?_getD]
  by_cases h1 : j = 135
  · rw [if_pos h1, h1, List.getElem?_set_self (by simp; omega)]; rfl
  · rw [if_neg h1, List.getElem?_set_ne (Ne.symm h1)]
    by_cases h2 : j < l.length
    · rw [if_pos h2, List.getElem?_append_left h2, ← List.getD_eq_getElem?_getD]
    · rw [if_neg h2, List.getElem?_append_right (by omega)]
      by_cases h3 : j = l.length
      · rw [if_pos h3, h3, Nat.sub_self]; rfl
      · rw [if_neg h3]
        obtain ⟨k, hk⟩ : ∃ k, j - l.length = k + 1 := ⟨j - l.length - 1, by omega⟩
        rw [hk, List.getElem?_cons_succ, List.getElem?_replicate, if_pos (by omega)]; rfl
theorem last_isB {l : List Int} (hB : isB l) (h : l.length < 136) : isB (lastI l) := fun d hd => by
  obtain ⟨j, hj, rfl⟩ := List.getElem_of_mem hd
  rw [last_len h] at hj
  have e := last_get h hj
  rw [List.getD_eq_getElem?_getD, List.getElem?_eq_getElem (by rw [last_len h]; exact hj)] at e
  rw [show (lastI l)[j] = (some (lastI l)[j]).getD 0 from rfl, e]
  split
  · split <;> omega
  split
  · rename_i h2
    rw [List.getD_eq_getElem?_getD, List.getElem?_eq_getElem h2]
    exact hB _ (List.getElem_mem h2)
  split <;> omega
theorem blk_ok {l : List Int} (hB : isB l) {m : Nat} (hm : m < l.length / 136 + 1) : isB (kblkI l m) ∧ (kblkI l m).length = 136 ∧ ∀ j, j < 1088 → padB l (1088 * m + j) = ((kblkI l m).getD (j / 8) 0).toNat.testBit (j % 8) := by
  unfold kblkI
  by_cases h1 : m < l.length / 136
  · rw [if_pos h1]
    refine ⟨isB_part hB _ _, by simp; omega, fun j hj => ?_⟩
    unfold padB
    rw [if_pos (by omega), List.getD_eq_getElem?_getD (l := List.take _ _), List.getElem?_take_of_lt (by omega), List.getElem?_drop, ← List.getD_eq_getElem?_getD, show (1088 * m + j) / 8 = 136 * m + j / 8 by omega, show (1088 * m + j) % 8 = j % 8 by omega]
  · rw [if_neg h1]
    have hm2 : m = l.length / 136 := by omega
    have hd : (l.drop (136 * m)).length < 136 := by rw [List.length_drop]; omega
    have hdl : (l.drop (136 * m)).length = l.length - 136 * m := List.length_drop ..
    refine ⟨last_isB (fun d hd => hB d (List.mem_of_mem_drop hd)) hd, last_len hd, fun j hj => ?_⟩
    rw [last_get hd (by omega)]
    have hg : (l.drop (136 * m)).getD (j / 8) 0 = l.getD (136 * m + j / 8) 0 := by rw [List.getD_eq_getElem?_getD, List.getElem?_drop, ← List.getD_eq_getElem?_getD]
    have hpl : padL l.length = 1088 * (m + 1) := by unfold padL; omega
    unfold padB
    rw [hpl, hdl, hg]
    have hj8 : ∃ r, r < 8 ∧ j % 8 = r := ⟨j % 8, by omega, rfl⟩
    by_cases h2 : 1088 * m + j < 8 * l.length
    · rw [if_pos h2, if_neg (by omega), if_pos (by omega), show (1088 * m + j) / 8 = 136 * m + j / 8 by omega, show (1088 * m + j) % 8 = j % 8 by omega]
    · rw [if_neg h2]
      obtain ⟨r, hr, hjr⟩ := hj8
      rw [hjr]
      by_cases h3 : j / 8 = 135
      · rw [if_pos h3]
        by_cases h4 : l.length - 136 * m = 135
        · rw [if_pos h4]
          have : ∀ r : Fin 8, (129 : Int).toNat.testBit r.val = decide (r.val = 0 ∨ r.val = 7) := by decide
          rw [this ⟨r, hr⟩]
          exact decide_eq_decide.2 ⟨fun h => by dsimp only; omega, fun h => by dsimp only at h; omega⟩
        · rw [if_neg h4]
          have : ∀ r : Fin 8, (128 : Int).toNat.testBit r.val = decide (r.val = 7) := by decide
          rw [this ⟨r, hr⟩]
          exact decide_eq_decide.2 ⟨fun h => by dsimp only; omega, fun h => by dsimp only at h; omega⟩
      · rw [if_neg h3, if_neg (by omega)]
        by_cases h4 : j / 8 = l.length - 136 * m
        · rw [if_pos h4]
          have : ∀ r : Fin 8, (1 : Int).toNat.testBit r.val = decide (r.val = 0) := by decide
          rw [this ⟨r, hr⟩]
          exact decide_eq_decide.2 ⟨fun h => by dsimp only; omega, fun h => by dsimp only at h; omega⟩
        · rw [if_neg h4]
          rw [decide_eq_false (by omega)]; simp
theorem byB_bit (s : Nat → Bool) (j k r : Nat) : (byB s j k).testBit r = (decide (r < k) && s (8 * j + r)) := by
  induction k with
  | zero => simp [byB]
  | succ k ih =>
    unfold byB
    split <;> rename_i h
    · rw [Nat.testBit_or, ih, Nat.testBit_two_pow]
      by_cases hr : r = k
      · subst hr; rw [h]; simp
      · have h2 : decide (r < k + 1) = decide (r < k) := decide_eq_decide.2 (by omega)
        rw [h2, decide_eq_false (Ne.symm hr)]; simp
    · rw [ih]
      by_cases hr : r = k
      · subst hr; rw [Bool.eq_false_iff.2 h]; simp
      · have h2 : decide (r < k + 1) = decide (r < k) := decide_eq_decide.2 (by omega)
        rw [h2]
theorem byte_eq {a b : Int} (ha : 0 ≤ a ∧ a < 256) (hb : 0 ≤ b ∧ b < 256) (h : ∀ r, r < 8 → a.toNat.testBit r = b.toNat.testBit r) : a = b := by
  have : a.toNat = b.toNat := Nat.eq_of_testBit_eq fun r => by
    by_cases hr : r < 8
    · exact h r hr
    · have hp : 2 ^ 8 ≤ 2 ^ r := Nat.pow_le_pow_right (by decide) (by omega)
      rw [Nat.testBit_lt_two_pow (by omega), Nat.testBit_lt_two_pow (by omega)]
  omega
theorem be8_bit {x : Nat} (hx : x < 2 ^ 64) {q : Nat} (hq : q < 8) {r : Nat} (hr : r < 8) : ((be 8 (tuN x)).getD q 0).toNat.testBit r = x.testBit (8 * q + r) := by
  have h1 := bv_bit (isB_be 8 (tuN x : Int)) (q := q) (by rw [be_length]; exact hq) hr
  have hl := tuN_lt hx
  rw [be_length, bv_be (by omega) (by have : (256 : Int) ^ 8 = 18446744073709551616 := by decide
                                      rw [this]; rw [show (2 : Nat) ^ 64 = 18446744073709551616 from rfl] at hl; omega), Int.toNat_natCast, tuN_bit hx (by omega)] at h1
  rw [← h1]
  congr 1; omega
theorem out_lanes {s : Nat → Bool} {L : Nat → Nat} (h : Flat s L) (hL : Ln L) : outB s = be 8 (tuN (L 0)) ++ (be 8 (tuN (L 1)) ++ (be 8 (tuN (L 2)) ++ be 8 (tuN (L 3)))) := by
  have hlen : (be 8 (tuN (L 0)) ++ (be 8 (tuN (L 1)) ++ (be 8 (tuN (L 2)) ++ be 8 (tuN (L 3))))).length = 32 := by simp [be_length]
  have hget : ∀ j, j < 32 → (be 8 (tuN (L 0)) ++ (be 8 (tuN (L 1)) ++ (be 8 (tuN (L 2)) ++ be 8 (tuN (L 3))))).getD j 0 = (be 8 (tuN (L (j / 8)))).getD (j % 8) 0 := fun j hj => by
    have hlb : ∀ x : Int, (be 8 x).length = 8 := fun x => be_length 8 x
    rw [List.getD_eq_getElem?_getD, List.getD_eq_getElem?_getD]
    by_cases h1 : j < 8
    · rw [List.getElem?_append_left (by rw [hlb]; exact h1), show j / 8 = 0 by omega, show j % 8 = j by omega]
    rw [List.getElem?_append_right (by rw [hlb]; omega), hlb]
    by_cases h2 : j < 16
    · rw [List.getElem?_append_left (by rw [hlb]; omega), show j / 8 = 1 by omega, show j % 8 = j - 8 by omega]
    rw [List.getElem?_append_right (by rw [hlb]; omega), hlb]
    by_cases h3 : j < 24
    · rw [List.getElem?_append_left (by rw [hlb]; omega), show j / 8 = 2 by omega, show j % 8 = j - 8 - 8 by omega]
    rw [List.getElem?_append_right (by rw [hlb]; omega), hlb, show j / 8 = 3 by omega, show j % 8 = j - 8 - 8 - 8 by omega]
  refine List.ext_getElem (by rw [outB_len, hlen]) fun j h1 h2 => ?_
  rw [outB_len] at h1
  have e2 := hget j h1
  rw [List.getD_eq_getElem?_getD, List.getElem?_eq_getElem h2] at e2
  rw [show (be 8 (tuN (L 0)) ++ (be 8 (tuN (L 1)) ++ (be 8 (tuN (L 2)) ++ be 8 (tuN (L 3)))))[j] = (some ((be 8 (tuN (L 0)) ++ (be 8 (tuN (L 1)) ++ (be 8 (tuN (L 2)) ++ be 8 (tuN (L 3)))))[j])).getD 0 from rfl, e2]
  have hm : (be 8 (tuN (L (j / 8)))).getD (j % 8) 0 ∈ be 8 (tuN (L (j / 8)) : Int) := by
    rw [List.getD_eq_getElem?_getD, List.getElem?_eq_getElem (by rw [be_length]; omega)]; exact List.getElem_mem _
  refine byte_eq (outB_isB s _ (List.getElem_mem _)) (isB_be _ _ _ hm) fun r hr => ?_
  rw [be8_bit (hL _ (by omega)) (by omega) hr]
  have e : ∀ hh : j < (outB s).length, (outB s)[j]'hh = ((byB s j 8 : Nat) : Int) := fun _ => by simp [outB]
  rw [e, Int.toNat_natCast, byB_bit, decide_eq_true hr, Bool.true_and, h _ (by omega)]
  congr 2 <;> omega
/-- Keccak-256 by lanes. -/
theorem kSum_lanes {l : List Int} (hB : isB l) : kSum l = be 8 (tuN (lnS (kblkI l) (l.length / 136 + 1) 0)) ++ (be 8 (tuN (lnS (kblkI l) (l.length / 136 + 1) 1)) ++ (be 8 (tuN (lnS (kblkI l) (l.length / 136 + 1) 2)) ++ be 8 (tuN (lnS (kblkI l) (l.length / 136 + 1) 3)))) := by
  have h := lnS_ok (p := padB l) (blk := kblkI l) (n := l.length / 136 + 1) fun m hm => blk_ok hB hm
  unfold kSum
  rw [show padL l.length = 1088 * (l.length / 136 + 1) by unfold padL; omega]
  exact out_lanes h.1 h.2
end Go.Proofs.YgvalwGreat.X
