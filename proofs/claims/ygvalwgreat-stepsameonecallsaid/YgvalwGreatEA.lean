import Derived.Test.YgvalwGreatE22
set_option linter.unusedVariables false
set_option linter.unusedSimpArgs false
namespace Go.Proofs.YgvalwGreat.X
open Go

theorem lv_eq_zero {l : List Int} (hL : isL l) (h : lv l = 0) : ∀ i, l.getD i 0 = 0 := by
  induction l with
  | nil => intro i; simp
  | cons d l ih =>
    obtain ⟨⟨h0, h1⟩, hl⟩ := hL.cons
    have hb := (lv_bd hl).1
    rw [lv] at h
    intro i
    cases i with
    | zero => simp; omega
    | succ i => simp only [List.getD_cons_succ]; exact ih hl (by omega) i
theorem limbs_zero {l : List Int} {n : Nat} (hL : isL l) (hn : n ≤ l.length) (h : lv l < 18446744073709551616 ^ n) : ∀ i, n ≤ i → l.getD i 0 = 0 := by
  have e : l = l.take n ++ l.drop n := (List.take_append_drop n l).symm
  have hd : isL (l.drop n) := fun x hx => hL x (List.mem_of_mem_drop hx)
  have t := (lv_bd (l := l.take n) fun x hx => hL x (List.mem_of_mem_take hx)).1
  have h2 : lv l = lv (l.take n) + 18446744073709551616 ^ n * lv (l.drop n) := by
    rw [show lv l = lv (l.take n ++ l.drop n) from congrArg lv e, lv_append, List.length_take, Nat.min_eq_left hn]
  have hz : lv (l.drop n) = 0 := by
    have h3 := (lv_bd hd).1
    rcases Int.lt_or_eq_of_le h3 with h4 | h4
    · have := Int.mul_le_mul_of_nonneg_left (show (1 : Int) ≤ lv (l.drop n) by omega) (show (0 : Int) ≤ 18446744073709551616 ^ n from Int.le_of_lt (Int.pow_pos (by decide)))
      omega
    · exact h4.symm
  intro i hi
  have := lv_eq_zero hd hz (i - n)
  rw [List.getD_eq_getElem?_getD, List.getElem?_drop, ← List.getD_eq_getElem?_getD, show n + (i - n) = i by omega] at this
  exact this
theorem lv_take_le {l : List Int} (hL : isL l) (n : Nat) : lv (l.take n) ≤ lv l := by
  by_cases hn : n ≤ l.length
  · have e : l = l.take n ++ l.drop n := (List.take_append_drop n l).symm
    have h2 : lv l = lv (l.take n) + 18446744073709551616 ^ n * lv (l.drop n) := by
      rw [show lv l = lv (l.take n ++ l.drop n) from congrArg lv e, lv_append, List.length_take, Nat.min_eq_left hn]
    have h3 := (lv_bd (l := l.drop n) fun x hx => hL x (List.mem_of_mem_drop hx)).1
    have := Int.mul_nonneg (show (0 : Int) ≤ 18446744073709551616 ^ n from Int.le_of_lt (Int.pow_pos (by decide))) h3
    omega
  · rw [List.take_of_length_le (by omega)]; exact Int.le_refl _
theorem lv_drop {l : List Int} {n : Nat} (hn : n ≤ l.length) : lv l = lv (l.take n) + 18446744073709551616 ^ n * lv (l.drop n) := by
  have e : l = l.take n ++ l.drop n := (List.take_append_drop n l).symm
  rw [show lv l = lv (l.take n ++ l.drop n) from congrArg lv e, lv_append, List.length_take, Nat.min_eq_left hn]
theorem top_limb {l : List Int} {n : Nat} {c : Int} (hL : isL l) (hn : n + 1 ≤ l.length) (hz : ∀ i, n + 1 ≤ i → l.getD i 0 = 0) (hc : c * 18446744073709551616 ^ n ≤ lv l) : c ≤ l.getD n 0 := by
  have e1 := lv_drop (l := l) (n := n + 1) hn
  rw [lv_zeros (l := l.drop (n + 1)) fun i => by rw [List.getD_eq_getElem?_getD, List.getElem?_drop, ← List.getD_eq_getElem?_getD]; exact hz _ (by omega), lv_take_succ (by omega)] at e1
  have t := lv_bd (l := l.take n) fun x hx => hL x (List.mem_of_mem_take hx)
  rw [List.length_take, Nat.min_eq_left (by omega)] at t
  refine Int.not_lt.1 fun hgt => ?_
  have := Int.mul_le_mul_of_nonneg_right (show l.getD n 0 + 1 ≤ c by omega) (show (0 : Int) ≤ 18446744073709551616 ^ n from Int.le_of_lt (Int.pow_pos (by decide)))
  rw [Int.add_mul, Int.one_mul, Int.mul_comm (l.getD n 0)] at this
  omega
theorem lv_set {l : List Int} {k : Nat} {v : Int} (hk : k < l.length) : lv (l.set k v) = lv l + 18446744073709551616 ^ k * (v - l.getD k 0) := by
  have e1 := lv_drop (l := l) (n := k) (by omega)
  have e2 := lv_drop (l := l.set k v) (n := k) (by simp; omega)
  have d1 : l.drop k = l.getD k 0 :: l.drop (k + 1) := by
    rw [List.drop_eq_getElem_cons hk, List.getD_eq_getElem?_getD, List.getElem?_eq_getElem hk]; rfl
  have d2 : (l.set k v).drop k = v :: l.drop (k + 1) := by
    rw [List.drop_set, if_neg (by omega), Nat.sub_self, d1]; rfl
  rw [e2, e1, d1, d2, lv, lv, List.take_set_of_le (Nat.le_refl _)]
  generalize (18446744073709551616 : Int) ^ k = P
  grind
theorem powB_mono {a b : Nat} (h : a ≤ b) : (18446744073709551616 : Int) ^ a ≤ 18446744073709551616 ^ b := by
  obtain ⟨c, rfl⟩ : ∃ c, b = a + c := ⟨b - a, by omega⟩
  rw [Int.pow_add]
  have h1 : (0 : Int) < 18446744073709551616 ^ a := Int.pow_pos (by decide)
  have h2 : (0 : Int) < 18446744073709551616 ^ c := Int.pow_pos (by decide)
  have := Int.mul_le_mul_of_nonneg_left (show (1 : Int) ≤ 18446744073709551616 ^ c by omega) (Int.le_of_lt h1)
  omega
theorem div_prep {s n top bt : Nat} {l lB : List Int} (hs : s < 64) (hl : l.length = 8) (hL : isL l) (hlB : lB.length = 4) (hLB : isL lB) (hUB : Used lB n) (hBb : lv lB < 18446744073709551616 ^ n) (hn2 : 2 ≤ n) (hbt : lB.getD (n - 1) 0 = bt) (hs2 : bt * 2 ^ s < 18446744073709551616) (hs3 : 9223372036854775808 ≤ bt * 2 ^ s) (hUl : Used l top) (htop : lv l < 18446744073709551616 ^ top) (htn : n ≤ top) :
    isL (shU s 0 (l ++ [0])) ∧ lv (shU s 0 (l ++ [0])) = lv l * 2 ^ s ∧ isL (shU s 0 lB) ∧ lv (shU s 0 lB) = lv lB * 2 ^ s ∧ (Used (shU s 0 lB) n ∧ 9223372036854775808 ≤ (shU s 0 lB).getD (n - 1) 0 ∧ lv (shU s 0 lB) < 18446744073709551616 ^ n) ∧ ((∀ i, top + 1 ≤ i → (shU s 0 (l ++ [0])).getD i 0 = 0) ∧ lv (((shU s 0 (l ++ [0])).drop (top - n + 1)).take n) < lv (shU s 0 lB)) := by
  have h2s : (2 : Int) ^ s ≤ 9223372036854775808 := by
    have : 2 ^ s ≤ 2 ^ 63 := Nat.pow_le_pow_right (by decide) (by omega)
    have := Int.ofNat_le.2 this
    simpa using this
  have h2p : (0 : Int) < 2 ^ s := Int.pow_pos (by decide)
  have hL9 : isL (l ++ [0]) := isL_snoc hL ⟨by decide, by decide⟩
  obtain ⟨u1, e1, he1, u2⟩ := shU_ok hs hL9 (c := 0) (Nat.pow_pos (by decide))
  obtain ⟨v1, e2, he2, v2⟩ := shU_ok hs hLB (c := 0) (Nat.pow_pos (by decide))
  have l9 : lv (l ++ [0]) = lv l := by rw [lv_snoc]; simp
  have hB1 := hUB.bd hLB
  have hBlow := hB1.2 (by omega)
  have lU0 := (lv_bd u1).1
  have lV0 := (lv_bd v1).1
  have ll0 := (lv_bd hL).1
  have hle := hUB.le
  have htl := hUl.le
  -- the dividend
  have hU : lv (shU s 0 (l ++ [0])) = lv l * 2 ^ s := by
    have hlt : lv l * 2 ^ s < 18446744073709551616 ^ 9 := by
      have h8 := (lv_bd hL).2
      rw [hl] at h8
      have h1 : lv l * 2 ^ s ≤ lv l * 9223372036854775808 := Int.mul_le_mul_of_nonneg_left h2s ll0
      have e9 : (18446744073709551616 : Int) ^ 9 = 18446744073709551616 ^ 8 * 18446744073709551616 := Int.pow_succ ..
      rw [e9]
      generalize (18446744073709551616 : Int) ^ 8 = P at *
      omega
    rw [l9] at u2
    have hl9 : (l ++ [0]).length = 9 := by simp [hl]
    rw [hl9] at u2
    have he0 : e1 = 0 := by
      rcases Nat.eq_zero_or_pos e1 with hh | hh
      · exact hh
      · have := Int.mul_le_mul_of_nonneg_left (show (1 : Int) ≤ (e1 : Int) by omega) (show (0 : Int) ≤ 18446744073709551616 ^ 9 from by decide)
        generalize (18446744073709551616 : Int) ^ 9 = P at *
        generalize P * (e1 : Int) = t at *
        omega
    subst he0
    have : (18446744073709551616 : Int) ^ 9 * ((0 : Nat) : Int) = 0 := by simp
    omega
  -- the divisor
  have hP : (0 : Int) < 18446744073709551616 ^ (n - 1) := Int.pow_pos (by decide)
  have hpow : (18446744073709551616 : Int) ^ n = 18446744073709551616 ^ (n - 1) * 18446744073709551616 := by rw [← Int.pow_succ]; congr 1; omega
  have hBt : lv lB = lv (lB.take (n - 1)) + 18446744073709551616 ^ (n - 1) * bt := by
    rw [hUB.lv, ← hbt, ← lv_take_succ (by omega), show n - 1 + 1 = n by omega]
  have tB := lv_bd (l := lB.take (n - 1)) fun x hx => hLB x (List.mem_of_mem_take hx)
  rw [List.length_take, Nat.min_eq_left (by omega)] at tB
  have hb1 : ((bt : Int) + 1) * 2 ^ s ≤ 18446744073709551616 := by
    have hp : 2 ^ (64 - s) * 2 ^ s = 18446744073709551616 := by rw [← Nat.pow_add, show (64 - s) + s = 64 by omega]
    have hbl : bt < 2 ^ (64 - s) := by
      refine Nat.lt_of_mul_lt_mul_right (a := 2 ^ s) ?_
      rw [hp]; exact hs2
    have := Nat.mul_le_mul_right (2 ^ s) hbl
    rw [hp] at this
    have := Int.ofNat_le.2 this
    simpa using this
  have hb2 : (9223372036854775808 : Int) ≤ bt * 2 ^ s := by
    have := Int.ofNat_le.2 hs3
    simpa using this
  have hVu : lv lB * 2 ^ s < 18446744073709551616 ^ n := by
    have h1 : (lv lB + 1) * 2 ^ s ≤ (18446744073709551616 ^ (n - 1) * ((bt : Int) + 1)) * 2 ^ s := Int.mul_le_mul_of_nonneg_right (by rw [Int.mul_add, Int.mul_one]; omega) (by omega)
    have h3 : (18446744073709551616 : Int) ^ (n - 1) * (((bt : Int) + 1) * 2 ^ s) ≤ 18446744073709551616 ^ (n - 1) * 18446744073709551616 := Int.mul_le_mul_of_nonneg_left hb1 (by omega)
    rw [Int.mul_assoc] at h1
    rw [Int.add_mul, Int.one_mul] at h1
    rw [hpow]
    omega
  have hVl : 9223372036854775808 * 18446744073709551616 ^ (n - 1) ≤ lv lB * 2 ^ s := by
    have h1 : (18446744073709551616 ^ (n - 1) * (bt : Int)) * 2 ^ s ≤ lv lB * 2 ^ s := Int.mul_le_mul_of_nonneg_right (by omega) (by omega)
    have h3 : (18446744073709551616 : Int) ^ (n - 1) * 9223372036854775808 ≤ 18446744073709551616 ^ (n - 1) * ((bt : Int) * 2 ^ s) := Int.mul_le_mul_of_nonneg_left hb2 (by omega)
    rw [Int.mul_assoc] at h1
    omega
  have hV : lv (shU s 0 lB) = lv lB * 2 ^ s := by
    rw [hlB] at v2
    have h4 : (18446744073709551616 : Int) ^ n ≤ 18446744073709551616 ^ 4 := powB_mono (by omega)
    have he0 : e2 = 0 := by
      rcases Nat.eq_zero_or_pos e2 with hh | hh
      · exact hh
      · have := Int.mul_le_mul_of_nonneg_left (show (1 : Int) ≤ (e2 : Int) by omega) (show (0 : Int) ≤ 18446744073709551616 ^ 4 from by decide)
        generalize (18446744073709551616 : Int) ^ 4 = P at *
        generalize P * (e2 : Int) = t at *
        omega
    subst he0
    have : (18446744073709551616 : Int) ^ 4 * ((0 : Nat) : Int) = 0 := by simp
    omega
  have hVlen : (shU s 0 lB).length = 4 := by rw [shU_len, hlB]
  have hUlen : (shU s 0 (l ++ [0])).length = 9 := by rw [shU_len]; simp [hl]
  have hVz := limbs_zero (n := n) v1 (by omega) (by rw [hV]; exact hVu)
  have hVt : 9223372036854775808 ≤ (shU s 0 lB).getD (n - 1) 0 := top_limb v1 (by omega) (fun i hi => hVz i (by omega)) (by rw [hV]; exact hVl)
  refine ⟨u1, hU, v1, hV, ⟨⟨by omega, hVz, fun _ => by omega⟩, hVt, by rw [hV]; exact hVu⟩, ?_, ?_⟩
  · refine limbs_zero u1 (by omega) ?_
    rw [hU, Int.pow_succ]
    have h1 : lv l * 2 ^ s ≤ lv l * 9223372036854775808 := Int.mul_le_mul_of_nonneg_left h2s ll0
    generalize (18446744073709551616 : Int) ^ top = P at *
    omega
  · have hk1 := lv_drop (l := shU s 0 (l ++ [0])) (n := top - n + 1) (by omega)
    have hdL : isL ((shU s 0 (l ++ [0])).drop (top - n + 1)) := fun x hx => u1 x (List.mem_of_mem_drop hx)
    refine Int.lt_of_le_of_lt (lv_take_le hdL n) ?_
    have t1 := (lv_bd (l := (shU s 0 (l ++ [0])).take (top - n + 1)) fun x hx => u1 x (List.mem_of_mem_take hx)).1
    have ht : (18446744073709551616 : Int) ^ top = 18446744073709551616 ^ (top - n + 1) * 18446744073709551616 ^ (n - 1) := by rw [← Int.pow_add]; congr 1; omega
    have hQ : (0 : Int) < 18446744073709551616 ^ (top - n + 1) := Int.pow_pos (by decide)
    have h5 : (lv l + 1) * 2 ^ s ≤ 18446744073709551616 ^ top * 2 ^ s := Int.mul_le_mul_of_nonneg_right (by omega) (by omega)
    rw [Int.add_mul, Int.one_mul, ht, Int.mul_assoc] at h5
    have h6 : (18446744073709551616 : Int) ^ (n - 1) * 2 ^ s ≤ lv lB * 2 ^ s := Int.mul_le_mul_of_nonneg_right hBlow (by omega)
    rw [hU] at hk1
    rw [hV]
    refine Int.lt_of_lt_of_le (Int.lt_of_mul_lt_mul_left (a := 18446744073709551616 ^ (top - n + 1)) (c := 18446744073709551616 ^ (n - 1) * 2 ^ s) ?_ (by omega)) h6
    omega
/-- One round, on the whole numbers. -/
theorem div_round {lu lV X l' : List Int} {n k q : Nat} {N : Int} (hLu : isL lu) (hlu : lu.length = 9) (hXl : X.length = 8) (hLl : isL l') (hl' : l'.length = n + 1) (hk : k + n ≤ 8) (hn1 : 1 ≤ n) (hV : lv lV < 18446744073709551616 ^ n) (hVt : lv (lV.take n) = lv lV) (hX0 : X.getD k 0 = 0) (hN : N = lv X * lv lV + lv lu) (hz : ∀ i, k + n + 1 ≤ i → lu.getD i 0 = 0)
    (e : lv ((lu.drop k).take (n + 1)) = q * lv (lV.take n) + lv l') (hlt : lv l' < lv (lV.take n)) :
    let lu' := lu.take k ++ (l' ++ lu.drop (k + n + 1))
    isL lu' ∧ lu'.length = 9 ∧ N = lv (X.set k q) * lv lV + lv lu' ∧ (∀ i, k + n ≤ i → lu'.getD i 0 = 0) ∧ lv ((lu'.drop k).take n) < lv lV := by
  intro lu'
  rw [hVt] at e hlt
  have hLt : isL (lu.take k) := fun x hx => hLu x (List.mem_of_mem_take hx)
  have hLd : isL (lu.drop (k + n + 1)) := fun x hx => hLu x (List.mem_of_mem_drop hx)
  have htk : (lu.take k).length = k := by simp; omega
  have hz' := limbs_zero (n := n) hLl (by omega) (by omega)
  have hdr : lu'.drop k = l' ++ lu.drop (k + n + 1) := by
    show (lu.take k ++ (l' ++ lu.drop (k + n + 1))).drop k = _
    rw [List.drop_append_of_le_length (by omega), List.drop_of_length_le (by omega), List.nil_append]
  refine ⟨hLt.append (hLl.append hLd), ?_, ?_, ?_, ?_⟩
  · show (lu.take k ++ (l' ++ lu.drop (k + n + 1))).length = 9
    rw [List.length_append, List.length_append, htk, hl', List.length_drop, hlu]; omega
  · have e1 := lv_drop (l := lu) (n := k) (by omega)
    have e2 := lv_drop (l := lu.drop k) (n := n + 1) (by simp; omega)
    rw [List.drop_drop, show k + (n + 1) = k + n + 1 by omega] at e2
    have e3 : lv lu' = lv (lu.take k) + 18446744073709551616 ^ k * (lv l' + 18446744073709551616 ^ (n + 1) * lv (lu.drop (k + n + 1))) := by
      show lv (lu.take k ++ (l' ++ lu.drop (k + n + 1))) = _
      rw [lv_append, lv_append, htk, hl']
    rw [lv_set (l := X) (k := k) (by omega), hX0, e3, hN, e1, e2, e]
    generalize (18446744073709551616 : Int) ^ k = P
    generalize (18446744073709551616 : Int) ^ (n + 1) * lv (lu.drop (k + n + 1)) = R
    generalize lv lV = V
    generalize lv l' = M
    generalize lv X = XX
    generalize lv (lu.take k) = T
    clear e1 e2 e3 hz hz' hdr hLt hLd hLl hLu hN e hlt hV hVt
    grind
  · intro i hi
    by_cases hi2 : k + n + 1 ≤ i
    · show (lu.take k ++ (l' ++ lu.drop (k + n + 1))).getD i 0 = 0
      rw [List.getD_eq_getElem?_getD, List.getElem?_append_right (by omega), htk, List.getElem?_append_right (by omega), hl', List.getElem?_drop, ← List.getD_eq_getElem?_getD]
      exact hz _ (by omega)
    · have hie : i = k + n := by omega
      subst hie
      show (lu.take k ++ (l' ++ lu.drop (k + n + 1))).getD (k + n) 0 = 0
      rw [List.getD_eq_getElem?_getD, List.getElem?_append_right (by omega), htk, Nat.add_sub_cancel_left, List.getElem?_append_left (by omega), ← List.getD_eq_getElem?_getD]
      exact hz' n (Nat.le_refl _)
  · rw [hdr, List.take_append_of_le_length (by omega)]
    exact Int.lt_of_le_of_lt (lv_take_le hLl n) hlt
theorem div_end {L X V R Lu : Int} {s e : Nat} (he : e < 2 ^ s) (hN : L * 2 ^ s = X * (V * 2 ^ s) + Lu) (hR : Lu = R * 2 ^ s + e) (hlt : Lu < V * 2 ^ s) : L = X * V + R ∧ R < V := by
  have hp : (0 : Int) < 2 ^ s := Int.pow_pos (by decide)
  have he' : (e : Int) < 2 ^ s := by
    have := Int.ofNat_lt.2 he
    simpa using this
  generalize (2 : Int) ^ s = P at *
  have h1 : P * (L - X * V - R) = e := by
    have : L * P = X * (V * P) + (R * P + e) := by rw [← hR]; exact hN
    grind
  have h0 : L - X * V - R = 0 := by
    rcases Int.lt_trichotomy (L - X * V - R) 0 with hh | hh | hh
    · have := Int.mul_le_mul_of_nonneg_left (show L - X * V - R ≤ -1 by omega) (Int.le_of_lt hp)
      rw [h1] at this
      omega
    · exact hh
    · have := Int.mul_le_mul_of_nonneg_left (show 1 ≤ L - X * V - R by omega) (Int.le_of_lt hp)
      rw [h1] at this
      omega
  rw [h0, Int.mul_zero] at h1
  refine ⟨by omega, ?_⟩
  have h2 : R * P < V * P := by omega
  exact Int.lt_of_mul_lt_mul_right h2 (Int.le_of_lt hp)
end Go.Proofs.YgvalwGreat.X
