import Derived.Test.YgvalwGreatE4
set_option linter.unusedVariables false
set_option linter.unusedSimpArgs false
namespace Go.Proofs.YgvalwGreat.X
open Go

section
variable {h : Hp} {K : Value → Hp → Prop} {a b : Nat} {x y : Int}

theorem mul64_rel (hx0 : 0 ≤ x) (hx1 : x < 18446744073709551616) (hy0 : 0 ≤ y) (hy1 : y < 18446744073709551616)
    (hk : ∀ p q : Int, 0 ≤ p → p < 18446744073709551616 → 0 ≤ q → q < 18446744073709551616 → p * 18446744073709551616 + q = x * y → K (.tuple #[.int .u64 p, .int .u64 q]) h) : CallX Hval.prog 152 [.int .u64 x, .int .u64 y] h K := by
  obtain ⟨a, rfl⟩ := Int.eq_ofNat_of_zero_le hx0
  obtain ⟨b, rfl⟩ := Int.eq_ofNat_of_zero_le hy0
  have hz : a * b / 18446744073709551616 < 18446744073709551616 := by
    have := Nat.mul_lt_mul'' (show a < 18446744073709551616 by omega) (show b < 18446744073709551616 by omega)
    exact Nat.div_lt_of_lt_mul (by omega)
  refine nMul64_ok (by omega) (by omega) (hk _ _ (by omega) (by omega) (by omega) (by omega) ?_)
  rw [← Int.natCast_mul]
  omega
theorem add64_rel {c : Int} (hx0 : 0 ≤ x) (hx1 : x < 18446744073709551616) (hy0 : 0 ≤ y) (hy1 : y < 18446744073709551616) (hc0 : 0 ≤ c) (hc1 : c ≤ 1)
    (hk : ∀ s d : Int, 0 ≤ s → s < 18446744073709551616 → 0 ≤ d → d ≤ 1 → d * 18446744073709551616 + s = x + y + c → K (.tuple #[.int .u64 s, .int .u64 d]) h) : CallX Hval.prog 153 [.int .u64 x, .int .u64 y, .int .u64 c] h K :=
  add64_ok hx0 hy0 hc0 hc1 (hk _ _ (by omega) (by omega) (by omega) (by omega) (by omega))
theorem sub64_rel {c : Int} (hx0 : 0 ≤ x) (hx1 : x < 18446744073709551616) (hy0 : 0 ≤ y) (hy1 : y < 18446744073709551616) (hc0 : 0 ≤ c) (hc1 : c ≤ 1)
    (hk : ∀ s d : Int, 0 ≤ s → s < 18446744073709551616 → 0 ≤ d → d ≤ 1 → s - d * 18446744073709551616 = x - y - c → K (.tuple #[.int .u64 s, .int .u64 d]) h) : CallX Hval.prog 226 [.int .u64 x, .int .u64 y, .int .u64 c] h K := by
  refine sub64_ok hx0 hy0 hy1 hc0 hc1 (hk _ _ (by omega) (by omega) (bor_01 _ _).1 (bor_01 _ _).2 ?_)
  unfold bor; split <;> omega
/-- The limbs of a word, as variables. -/
theorem limbs (hx0 : 0 ≤ x) (hx : x < W) : ∃ a0 a1 a2 a3 : Int, U a0 ∧ U a1 ∧ U a2 ∧ U a3 ∧ wv a0 a1 a2 a3 = x ∧ wc x = [.int .u64 a0, .int .u64 a1, .int .u64 a2, .int .u64 a3] :=
  ⟨_, _, _, _, U_mod _, U_mod _, U_mod _, U_mod _, wc_wv hx0 hx, rfl⟩
theorem mul_expand (a0 a1 a2 a3 b0 b1 b2 b3 : Int) : wv a0 a1 a2 a3 * wv b0 b1 b2 b3 = a0 * b0 + 18446744073709551616 * (a0 * b1 + a1 * b0) + 340282366920938463463374607431768211456 * (a0 * b2 + a1 * b1 + a2 * b0) + 6277101735386680763835789423207666416102355444464034512896 * (a0 * b3 + a1 * b2 + a2 * b1 + a3 * b0) + 115792089237316195423570985008687907853269984665640564039457584007913129639936 * (a1 * b3 + a2 * b2 + a3 * b1 + 18446744073709551616 * (a2 * b3 + a3 * b2) + 340282366920938463463374607431768211456 * (a3 * b3)) := by
  unfold wv; grind
set_option maxHeartbeats 8000000 in
set_option maxRecDepth 100000 in
set_option maxHeartbeats 4000000 in
theorem eMul_ok (hx0 : 0 ≤ x) (hx : x < W) (hy0 : 0 ≤ y) (hy : y < W) (hk : K (.agg (wc (x * y % W)).toArray) h) : CallX Hval.prog 71 [.agg (wc x).toArray, .agg (wc y).toArray] h K := by
  obtain ⟨a0, a1, a2, a3, ⟨ua0, va0⟩, ⟨ua1, va1⟩, ⟨ua2, va2⟩, ⟨ua3, va3⟩, ex, ewx⟩ := limbs hx0 hx
  obtain ⟨b0, b1, b2, b3, ⟨ub0, vb0⟩, ⟨ub1, vb1⟩, ⟨ub2, vb2⟩, ⟨ub3, vb3⟩, ey, ewy⟩ := limbs hy0 hy
  rw [ewx, ewy]
  clear hx hy
  refine CallX.of_xf T_ok Hval.func71 rfl (by kernel_rfl) (Nat.le_of_ble_eq_true rfl) ?_; conv => whnf
  refine BoxX.mk fun n1 hn1 => ?_; conv => whnf
  repeat' (first
    | (refine Ob.mk (by first | decide | exact ⟨rfl, rfl⟩ | ((repeat (refine (ldV_ne (by omega)).trans ?_)); exact (ldV_same _ _ _ _ _ _ _).trans rfl)) ?_; conv => whnf)
    | (refine BoxX.on fun n hn hbd => ?_; conv => whnf)
    | (refine LoadX.of _ (by (repeat (refine (ldV_ne (by omega)).trans ?_)); exact (ldV_same _ _ _ _ _ _ _).trans rfl) ?_; conv => whnf)
    | ((first | (refine mul64_rel (by omega) (by omega) (by omega) (by omega) ?_; intro _ _ _ _ _ _ _) | (refine add64_rel (by omega) (by omega) (by omega) (by omega) (by omega) (by omega) ?_; intro _ _ _ _ _ _ _)); conv => whnf)
    | (refine StoreX.same (Nat.le_of_ble_eq_true rfl) ?_; conv => whnf)
    | (refine StoreX.at (by (repeat (refine (hput_ne (by omega)).trans ?_)); exact hput_same ..) (Nat.le_of_ble_eq_true rfl) ?_; conv => whnf))
  refine RetX.drop (h' := h) (by intro b x hb; have hlt := hn1 b x hb; (repeat (rw [hput_ne (by omega)])); exact hb) ?_
  have exy : x * y = a0 * b0 + 18446744073709551616 * (a0 * b1 + a1 * b0) + 340282366920938463463374607431768211456 * (a0 * b2 + a1 * b1 + a2 * b0) + 6277101735386680763835789423207666416102355444464034512896 * (a0 * b3 + a1 * b2 + a2 * b1 + a3 * b0) + W * (a1 * b3 + a2 * b2 + a3 * b1 + 18446744073709551616 * (a2 * b3 + a3 * b2) + 340282366920938463463374607431768211456 * (a3 * b3)) := by
    rw [← ex, ← ey, W_val]; exact mul_expand ..
  simp only [wrap_u64', Int.emod_add_emod, Int.add_emod_emod, Int.emod_emod]
  refine cast (congrArg (fun v => K v h) (congrArg (fun l : List Value => Value.agg l.toArray) (wc_eq (v := x * y % W) (by unfold U; omega) (by unfold U; omega) (by unfold U; omega) (by unfold U; omega) ?_)).symm) hk
  rw [exy, Int.add_mul_emod_self_left]
  clear exy hk ex ey ewx ewy
  generalize a0 * b0 = p00 at *
  generalize a0 * b1 = p01 at *
  generalize a1 * b0 = p10 at *
  generalize a0 * b2 = p02 at *
  generalize a1 * b1 = p11 at *
  generalize a2 * b0 = p20 at *
  generalize a0 * b3 = p03 at *
  generalize a1 * b2 = p12 at *
  generalize a2 * b1 = p21 at *
  generalize a3 * b0 = p30 at *
  unfold wv
  rw [W_val]
  omega
end
end Go.Proofs.YgvalwGreat.X
