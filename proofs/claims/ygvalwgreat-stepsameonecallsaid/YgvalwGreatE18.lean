import Derived.Test.YgvalwGreatE17
set_option linter.unusedVariables false
set_option linter.unusedSimpArgs false
namespace Go.Proofs.YgvalwGreat.X
open Go

theorem lv_top2 {l : List Int} {n : Nat} (hn : l.length = n + 2) : lv l = lv (l.take n) + 18446744073709551616 ^ n * (l.getD n 0 + 18446744073709551616 * l.getD (n + 1) 0) := by
  have e : l = l.take (n + 1 + 1) := (List.take_of_length_le (by omega)).symm
  rw [show lv l = lv (l.take (n + 1 + 1)) from congrArg lv e, lv_take_succ (by omega), lv_take_succ (by omega), Int.pow_succ]
  generalize (18446744073709551616 : Int) ^ n = P
  grind
theorem lv_top3 {l : List Int} {n : Nat} (hn : l.length = n + 3) : lv l = lv (l.take n) + 18446744073709551616 ^ n * (l.getD n 0 + 18446744073709551616 * l.getD (n + 1) 0 + 18446744073709551616 * 18446744073709551616 * l.getD (n + 2) 0) := by
  have e : l = l.take (n + 1 + 1 + 1) := (List.take_of_length_le (by omega)).symm
  rw [show lv l = lv (l.take (n + 1 + 1 + 1)) from congrArg lv e, lv_take_succ (by omega), lv_take_succ (by omega), lv_take_succ (by omega)]
  simp only [Int.pow_succ]
  generalize (18446744073709551616 : Int) ^ n = P
  generalize lv (l.take n) = a
  generalize l.getD n 0 = x0
  generalize l.getD (n + 1) 0 = x1
  generalize l.getD (n + 2) 0 = x2
  clear e hn
  grind
/-- Knuth's bounds on the trial digit. -/
theorem knuth {B P V Uu y N q vl ul : Int} (hB : 0 < B) (hP : 0 < P) (hV : V = vl + P * y) (hU : Uu = ul + P * N) (hvl : 0 ≤ vl ∧ vl < P) (hul : 0 ≤ ul ∧ ul < P) (hy : B ≤ y) (hq0 : 0 ≤ q) (hqB : q < B) (hUV : Uu < V * B) (h1 : q * y ≤ N) (h2 : N < (q + 1) * y ∨ q + 1 = B) : (q - 1) * V ≤ Uu ∧ Uu < (q + 1) * V := by
  have hqv : q * vl ≤ B * P := Int.mul_le_mul (by omega) (by omega) hvl.1 (by omega)
  have hBP : B * P ≤ y * P := Int.mul_le_mul_of_nonneg_right hy (by omega)
  constructor
  · have h3 : P * (q * y) ≤ P * N := Int.mul_le_mul_of_nonneg_left h1 (by omega)
    have e : (q - 1) * V = P * (q * y) + q * vl - V := by rw [hV]; grind
    have e2 : V = vl + y * P := by rw [hV, Int.mul_comm]
    omega
  · rcases h2 with h2 | h2
    · have h3 : P * (N + 1) ≤ P * ((q + 1) * y) := Int.mul_le_mul_of_nonneg_left (by omega) (by omega)
      have h4 : 0 ≤ (q + 1) * vl := Int.mul_nonneg (by omega) hvl.1
      have e : (q + 1) * V = (q + 1) * vl + P * ((q + 1) * y) := by rw [hV]; grind
      rw [Int.mul_add, Int.mul_one] at h3
      omega
    · rw [h2, Int.mul_comm]; exact hUV
theorem ldV_lim {h : Hp} {m : Nat} {pre post : List Value} {l : List Int} {t : TypeId} (hb : h m = some (pre ++ (ul l ++ post), t)) (j : Nat) {o : Nat} {v : Int} (ho : o = pre.length + j) (hj : j < l.length) (hv : l.getD j 0 = v) : ldV false 1 h m o = some (.int .u64 v) := by
  subst ho; rw [← hv]; exact ldV_blk hb (ul_get hj)
section
variable {h : Hp} {K : Value → Hp → Prop} {preU postU preV postV : List Value} {lu lV : List Int} {mu mv n capu capv : Nat} {tu tv : TypeId}
set_option maxRecDepth 100000 in
set_option maxHeartbeats 4000000 in
theorem round_ok (hu : h mu = some (preU ++ (ul lu ++ postU), tu)) (hv : h mv = some (preV ++ (ul lV ++ postV), tv)) (hne : mu ≠ mv) (hLu : isL lu) (hLv : isL lV) (hnu : lu.length = n + 3) (hnv : lV.length = n + 2) (hn : n < 2 ^ 20) (htop : 9223372036854775808 ≤ lV.getD (n + 1) 0) (hUV : lv lu < lv lV * 18446744073709551616)
    (hk : ∀ (q : Nat) (l' : List Int) (f : Int) (bk : Bool), q < 18446744073709551616 → l'.length = n + 3 → isL l' → lv lu = q * lv lV + lv l' → lv l' < lv lV → K (.tuple #[.int .u64 q, .int .u8 f, .bool bk]) (hput h mu (preU ++ (ul l' ++ postU), tu))) :
    CallX Hval.prog 386 [.slice (some ⟨mu, preU.length, none⟩) (n + 3) capu, .slice (some ⟨mv, preV.length, none⟩) (n + 2) capv] h K := by
  refine CallX.of_xf T_ok Hval.func386 rfl (by kernel_rfl) (Nat.le_of_ble_eq_true rfl) ?_; conv => whnf
  have e1 : IntKind.i64.wrap (((n + 2 : Nat) : Int) - 1) = ((n + 1 : Nat) : Int) := by rw [wrap_i64 (by omega) (by omega)]; omega
  have e2 : IntKind.i64.wrap (((n + 2 : Nat) : Int) - 2) = ((n : Nat) : Int) := by rw [wrap_i64 (by omega) (by omega)]; omega
  obtain ⟨high, hhigh⟩ := Int.eq_ofNat_of_zero_le (hLu.get (n + 2)).1
  obtain ⟨mid, hmid⟩ := Int.eq_ofNat_of_zero_le (hLu.get (n + 1)).1
  obtain ⟨low, hlow⟩ := Int.eq_ofNat_of_zero_le (hLu.get n).1
  obtain ⟨top, htp⟩ := Int.eq_ofNat_of_zero_le (hLv.get (n + 1)).1
  obtain ⟨nxt, hnx⟩ := Int.eq_ofNat_of_zero_le (hLv.get n).1
  have b1 := (hLu.get (n + 2)).2; have b2 := (hLu.get (n + 1)).2; have b3 := (hLu.get n).2; have b4 := (hLv.get (n + 1)).2; have b5 := (hLv.get n).2
  have dV := lv_top2 hnv
  have dU := lv_top3 hnu
  have tV := lv_bd (l := lV.take n) fun x hx => hLv x (List.mem_of_mem_take hx)
  have tU := lv_bd (l := lu.take n) fun x hx => hLu x (List.mem_of_mem_take hx)
  rw [List.length_take, Nat.min_eq_left (by omega)] at tV tU
  rw [hhigh, hmid, hlow] at dU
  rw [htp, hnx] at dV
  rw [hhigh] at b1; rw [hmid] at b2; rw [hlow] at b3; rw [htp] at b4 htop; rw [hnx] at b5
  have hP : (0 : Int) < 18446744073709551616 ^ n := Int.pow_pos (by decide)
  have hht : high ≤ top := by
    have h1 : (18446744073709551616 : Int) ^ n * (18446744073709551616 * 18446744073709551616 * (high : Int)) < 18446744073709551616 ^ n * (18446744073709551616 * 18446744073709551616 * ((top : Int) + 1)) := by
      generalize (18446744073709551616 : Int) ^ n = P at *
      have h2 : 0 ≤ P * ((low : Int) + 18446744073709551616 * mid) := Int.mul_nonneg (by omega) (by omega)
      have h3 : P * ((nxt : Int) + 1) ≤ P * 18446744073709551616 := Int.mul_le_mul_of_nonneg_left (by omega) (by omega)
      generalize lv lu = Lu at *
      generalize lv lV = LV at *
      generalize lv (lu.take n) = a1 at *
      generalize lv (lV.take n) = a2 at *
      have e1 : P * ((low : Int) + 18446744073709551616 * mid + 18446744073709551616 * 18446744073709551616 * high) = P * ((low : Int) + 18446744073709551616 * mid) + P * (18446744073709551616 * 18446744073709551616 * high) := by rw [Int.mul_add]
      have e2 : P * ((nxt : Int) + 18446744073709551616 * top) = P * nxt + 18446744073709551616 * (P * top) := by grind
      have e3 : P * (18446744073709551616 * 18446744073709551616 * ((top : Int) + 1)) = 18446744073709551616 * (18446744073709551616 * (P * top)) + 18446744073709551616 * (P * 18446744073709551616) := by grind
      rw [e3]
      rw [e1] at dU
      rw [e2] at dV
      rw [Int.mul_add, Int.mul_one] at h3
      generalize P * (18446744073709551616 * 18446744073709551616 * (high : Int)) = t1 at *
      generalize P * ((low : Int) + 18446744073709551616 * mid) = t2 at *
      generalize P * (nxt : Int) = t3 at *
      generalize P * (top : Int) = t4 at *
      generalize P * (18446744073709551616 : Int) = t5 at *
      clear e1 e2 e3 hk hu hv hLu hLv
      omega
    have h4 := Int.lt_of_mul_lt_mul_left h1 (by omega)
    omega
  have hlu := fun j (hj : j < n + 3) => (show j < lu.length by omega)
  refine DrawX.go T_ok hM Hval.func386 (tb := dr386) rfl (by kernel_rfl) ?_; conv => whnf
  refine IdxX.at (by omega) (by omega) ?_; conv => whnf
  refine LoadX.lim hu (n + 2) (by rw [Int.toNat_natCast, show (24, y24).snd.size = 1 from rfl, Nat.mul_one]) (by omega) ?_; conv => whnf
  rw [e1]
  refine IdxX.at (by omega) (by omega) ?_; conv => whnf
  refine LoadX.lim hu (n + 1) (by rw [Int.toNat_natCast, show (24, y24).snd.size = 1 from rfl, Nat.mul_one]) (by omega) ?_; conv => whnf
  rw [e2]
  refine IdxX.at (by omega) (by omega) ?_; conv => whnf
  refine LoadX.lim hu n (by rw [Int.toNat_natCast, show (24, y24).snd.size = 1 from rfl, Nat.mul_one]) (by omega) ?_; conv => whnf
  rw [e1]
  refine IdxX.at (by omega) (by omega) ?_; conv => whnf
  refine LoadX.lim hv (n + 1) (by rw [Int.toNat_natCast, show (24, y24).snd.size = 1 from rfl, Nat.mul_one]) (by omega) ?_; conv => whnf
  rw [e2]
  refine IdxX.at (by omega) (by omega) ?_; conv => whnf
  refine LoadX.lim hv n (by rw [Int.toNat_natCast, show (24, y24).snd.size = 1 from rfl, Nat.mul_one]) (by omega) ?_; conv => whnf
  rw [hhigh, hmid, hlow, htp, hnx]
  refine trial_ok hht (by omega) (by omega) (by omega) (by omega) (by omega) fun q f hqB hq1 hq2 => ?_; conv => whnf
  repeat (refine Ob.mk (by first | exact ldV_lim hu (n + 2) (by rw [Int.toNat_natCast, show (24, y24).snd.size = 1 from rfl, Nat.mul_one]) (by omega) hhigh | exact ldV_lim hu (n + 1) (by rw [Int.toNat_natCast, show (24, y24).snd.size = 1 from rfl, Nat.mul_one]) (by omega) hmid | exact ldV_lim hu n (by rw [Int.toNat_natCast, show (24, y24).snd.size = 1 from rfl, Nat.mul_one]) (by omega) hlow | exact ldV_lim hv (n + 1) (by rw [Int.toNat_natCast, show (24, y24).snd.size = 1 from rfl, Nat.mul_one]) (by omega) htp | exact ldV_lim hv n (by rw [Int.toNat_natCast, show (24, y24).snd.size = 1 from rfl, Nat.mul_one]) (by omega) hnx) ?_; conv => whnf)
  have KN := knuth (B := 18446744073709551616) (P := 18446744073709551616 ^ n) (V := lv lV) (Uu := lv lu) (y := (top : Int) * 18446744073709551616 + nxt) (N := ((high : Int) * 18446744073709551616 + mid) * 18446744073709551616 + low) (q := q) (by decide) hP
    (by rw [dV]; congr 2; omega) (by rw [dU]; congr 2; omega) tV tU (by omega) (by omega) (by omega) hUV (by have := Int.ofNat_le.2 hq1; simp only [Int.natCast_mul, Int.natCast_add] at this; exact this) (by rcases hq2 with hh | hh; exact .inl (by have := Int.ofNat_lt.2 hh; simp only [Int.natCast_mul, Int.natCast_add] at this; exact this); exact .inr (by omega))
  have hVB := lv_bd hLv
  rw [hnv] at hVB
  clear dU dV tU tV hq1 hq2 hht hUV
  refine takeTimes_ok (n := n + 2) hu hv hne hLu hLv (by omega) hnv (by omega) ⟨by omega, by omega⟩ fun l' b hl' hLl' hb01 eT => ?_; conv => whnf
  have hl'B := lv_bd hLl'
  rw [hl'] at hl'B
  have hne2 : mv ≠ mu := Ne.symm hne
  rcases hb01 with hb0 | hb0
  · subst hb0
    repeat (first | (refine CondX.tt ?_; conv => whnf) | (refine CondX.ff ?_; conv => whnf))
    refine RetX.same (hk q l' f false hqB (by omega) hLl' ?_ ?_)
    · rw [Int.zero_mul, Int.add_zero] at eT; omega
    · have := KN.2
      rw [Int.add_mul, Int.one_mul] at this
      rw [Int.zero_mul, Int.add_zero] at eT; omega
  · subst hb0
    repeat (first | (refine CondX.tt ?_; conv => whnf) | (refine CondX.ff ?_; conv => whnf))
    have hu2 := hput_same h mu (preU ++ (ul l' ++ postU), tu)
    have hv2 : hput h mu (preU ++ (ul l' ++ postU), tu) mv = some (preV ++ (ul lV ++ postV), tv) := by rw [hput_ne hne2]; exact hv
    refine putBack_ok (n := n + 2) hu2 hv2 hne hLl' hLv hl' hnv (by omega) fun l2 b2 hl2 hLl2 hb2 eP => ?_; conv => whnf
    have hl2B := lv_bd hLl2
    rw [hl2] at hl2B
    rw [hput_hput]
    rw [Int.one_mul] at eT
    have K1 := KN.1
    have K2 := KN.2
    rw [Int.sub_mul, Int.one_mul] at K1
    have hqpos : 1 ≤ q := by
      rcases Nat.eq_zero_or_pos q with h0 | h0
      · subst h0
        have hU0 := (lv_bd hLu).1
        rw [show (((0 : Nat) : Int)) * lv lV = 0 from Int.zero_mul _] at eT
        omega
      · exact h0
    have eD : IntKind.u64.wrap (((q : Nat) : Int) - 1) = ((q - 1 : Nat) : Int) := by rw [wrap_u64']; omega
    rw [eD]
    have hb2e : b2 = 1 := by
      rcases hb2 with hh | hh
      · subst hh
        rw [Int.zero_mul] at eP
        generalize (18446744073709551616 : Int) ^ (n + 2 + 1) = BB at *
        generalize (q : Int) * lv lV = t at *
        omega
      · exact hh
    subst hb2e
    rw [Int.one_mul] at eP
    have eq1 : ((q - 1 : Nat) : Int) * lv lV = (q : Int) * lv lV - lv lV := by
      rw [show ((q - 1 : Nat) : Int) = (q : Int) - 1 by omega, Int.sub_mul, Int.one_mul]
    refine RetX.same (hk (q - 1) l2 f true (by omega) (by omega) hLl2 ?_ ?_)
    · rw [eq1]
      generalize (18446744073709551616 : Int) ^ (n + 2 + 1) = BB at *
      generalize (q : Int) * lv lV = t at *
      omega
    · generalize (18446744073709551616 : Int) ^ (n + 2 + 1) = BB at *
      generalize (q : Int) * lv lV = t at *
      omega
end
end Go.Proofs.YgvalwGreat.X
