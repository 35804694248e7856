import Derived.Test.YgvalwGreatE7
set_option linter.unusedVariables false
set_option linter.unusedSimpArgs false
namespace Go.Proofs.YgvalwGreat.X
open Go

section
variable {h : Hp} {K : Value → Hp → Prop} {a b : Nat} {x y : Int}

theorem shl1 {q : Int} : IntKind.u64.wrap (q * 2 ^ min (Int.toNat 1) IntKind.u64.bits) = 2 * q % 18446744073709551616 := by
  rw [wrap_u64', show (2 : Int) ^ min (Int.toNat 1) IntKind.u64.bits = 2 from rfl]; omega
theorem shr63 {q : Int} (h : 0 ≤ q) : q.fdiv (2 ^ min (Int.toNat 63) IntKind.u64.bits) = q / 9223372036854775808 := by
  rw [show (2 : Int) ^ min (Int.toNat 63) IntKind.u64.bits = 9223372036854775808 from rfl]
  exact Int.fdiv_eq_ediv_of_nonneg _ (by decide)
theorem or1 {m c : Int} (hm : 0 ≤ m) (hc0 : 0 ≤ c) (hc1 : c ≤ 1) : IntKind.u64.wrap ((BitVec.ofInt IntKind.u64.bits (2 * m % 18446744073709551616) ||| BitVec.ofInt IntKind.u64.bits c).toNat : Int) = 2 * m % 18446744073709551616 + c := by
  obtain ⟨m, rfl⟩ := Int.eq_ofNat_of_zero_le hm
  obtain ⟨c, rfl⟩ := Int.eq_ofNat_of_zero_le hc0
  have e : (2 * (m : Int) % 18446744073709551616) = ((2 * (m % 9223372036854775808) : Nat) : Int) := by omega
  rw [e, or64 (show 2 * (m % 9223372036854775808) < 2 ^ 64 by omega) (show c < 2 ^ 64 by omega)]
  have := Nat.two_pow_add_eq_or_of_lt (i := 1) (b := c) (show c < 2 ^ 1 by omega) (m % 9223372036854775808)
  rw [Nat.pow_one] at this
  rw [← this]
  omega

set_option maxHeartbeats 8000000 in
set_option maxRecDepth 100000 in
set_option maxHeartbeats 4000000 in
theorem eSquare_ok (hx0 : 0 ≤ x) (hx : x < W) (hk : K (.agg (wc (x * x % W)).toArray) h) : CallX Hval.prog 353 [.agg (wc x).toArray] h K := by
  obtain ⟨a0, a1, a2, a3, ⟨ua0, va0⟩, ⟨ua1, va1⟩, ⟨ua2, va2⟩, ⟨ua3, va3⟩, ex, ewx⟩ := limbs hx0 hx
  rw [ewx]
  clear hx
  refine CallX.of_xf T_ok Hval.func353 rfl (by kernel_rfl) (Nat.le_of_ble_eq_true rfl) ?_; conv => whnf
  refine BoxX.mk fun n1 hn1 => ?_; conv => whnf
  repeat' (first
    | (refine Ob.mk (by first | decide | exact ⟨rfl, rfl⟩ | ((repeat (refine (ldV_ne (by omega)).trans ?_)); exact (ldV_same _ _ _ _ _ _ _).trans rfl)) ?_; conv => whnf)
    | (refine BoxX.on fun n hn hbd => ?_; conv => whnf)
    | (refine LoadX.of _ (by (repeat (refine (ldV_ne (by omega)).trans ?_)); exact (ldV_same _ _ _ _ _ _ _).trans rfl) ?_; conv => whnf)
    | (fail; conv => whnf)
    | (refine StoreX.same (Nat.le_of_ble_eq_true rfl) ?_; conv => whnf)
    | (refine StoreX.at (by (repeat (refine (hput_ne (by omega)).trans ?_)); exact hput_same ..) (Nat.le_of_ble_eq_true rfl) ?_; conv => whnf))
  refine mul64_rel ua0 va0 ua1 va1 fun hi1 lo1 hA0 hA1 lA0 lA1 eA => ?_; conv => whnf
  repeat' (first
    | (refine Ob.mk (by first | decide | exact ⟨rfl, rfl⟩ | ((repeat (refine (ldV_ne (by omega)).trans ?_)); exact (ldV_same _ _ _ _ _ _ _).trans rfl)) ?_; conv => whnf)
    | (refine BoxX.on fun n hn hbd => ?_; conv => whnf)
    | (refine LoadX.of _ (by (repeat (refine (ldV_ne (by omega)).trans ?_)); exact (ldV_same _ _ _ _ _ _ _).trans rfl) ?_; conv => whnf)
    | (fail; conv => whnf)
    | (refine StoreX.same (Nat.le_of_ble_eq_true rfl) ?_; conv => whnf)
    | (refine StoreX.at (by (repeat (refine (hput_ne (by omega)).trans ?_)); exact hput_same ..) (Nat.le_of_ble_eq_true rfl) ?_; conv => whnf))
  refine mul64_rel ua0 va0 ua2 va2 fun hi2 lo2 hB0 hB1 lB0 lB1 eB => ?_; conv => whnf
  repeat' (first
    | (refine Ob.mk (by first | decide | exact ⟨rfl, rfl⟩ | ((repeat (refine (ldV_ne (by omega)).trans ?_)); exact (ldV_same _ _ _ _ _ _ _).trans rfl)) ?_; conv => whnf)
    | (refine BoxX.on fun n hn hbd => ?_; conv => whnf)
    | (refine LoadX.of _ (by (repeat (refine (ldV_ne (by omega)).trans ?_)); exact (ldV_same _ _ _ _ _ _ _).trans rfl) ?_; conv => whnf)
    | (fail; conv => whnf)
    | (refine StoreX.same (Nat.le_of_ble_eq_true rfl) ?_; conv => whnf)
    | (refine StoreX.at (by (repeat (refine (hput_ne (by omega)).trans ?_)); exact hput_same ..) (Nat.le_of_ble_eq_true rfl) ?_; conv => whnf))
  refine add64_rel hA0 hA1 lB0 lB1 (by omega) (by omega) fun m2 c hm0 hm1 hc0 hc1 eC => ?_; conv => whnf
  repeat' (first
    | (refine Ob.mk (by first | decide | exact ⟨rfl, rfl⟩ | ((repeat (refine (ldV_ne (by omega)).trans ?_)); exact (ldV_same _ _ _ _ _ _ _).trans rfl)) ?_; conv => whnf)
    | (refine BoxX.on fun n hn hbd => ?_; conv => whnf)
    | (refine LoadX.of _ (by (repeat (refine (ldV_ne (by omega)).trans ?_)); exact (ldV_same _ _ _ _ _ _ _).trans rfl) ?_; conv => whnf)
    | (fail; conv => whnf)
    | (refine StoreX.same (Nat.le_of_ble_eq_true rfl) ?_; conv => whnf)
    | (refine StoreX.at (by (repeat (refine (hput_ne (by omega)).trans ?_)); exact hput_same ..) (Nat.le_of_ble_eq_true rfl) ?_; conv => whnf))
  refine mul64_rel ua0 va0 ua0 va0 fun hi0 p0 hD0 hD1 lD0 lD1 eD => ?_; conv => whnf
  repeat' (first
    | (refine Ob.mk (by first | decide | exact ⟨rfl, rfl⟩ | ((repeat (refine (ldV_ne (by omega)).trans ?_)); exact (ldV_same _ _ _ _ _ _ _).trans rfl)) ?_; conv => whnf)
    | (refine BoxX.on fun n hn hbd => ?_; conv => whnf)
    | (refine LoadX.of _ (by (repeat (refine (ldV_ne (by omega)).trans ?_)); exact (ldV_same _ _ _ _ _ _ _).trans rfl) ?_; conv => whnf)
    | (fail; conv => whnf)
    | (refine StoreX.same (Nat.le_of_ble_eq_true rfl) ?_; conv => whnf)
    | (refine StoreX.at (by (repeat (refine (hput_ne (by omega)).trans ?_)); exact hput_same ..) (Nat.le_of_ble_eq_true rfl) ?_; conv => whnf))
  refine mul64_rel ua1 va1 ua1 va1 fun hi3 lo3 hE0 hE1 lE0 lE1 eE => ?_; conv => whnf
  repeat' (first
    | (refine Ob.mk (by first | decide | exact ⟨rfl, rfl⟩ | ((repeat (refine (ldV_ne (by omega)).trans ?_)); exact (ldV_same _ _ _ _ _ _ _).trans rfl)) ?_; conv => whnf)
    | (refine BoxX.on fun n hn hbd => ?_; conv => whnf)
    | (refine LoadX.of _ (by (repeat (refine (ldV_ne (by omega)).trans ?_)); exact (ldV_same _ _ _ _ _ _ _).trans rfl) ?_; conv => whnf)
    | (fail; conv => whnf)
    | (refine StoreX.same (Nat.le_of_ble_eq_true rfl) ?_; conv => whnf)
    | (refine StoreX.at (by (repeat (refine (hput_ne (by omega)).trans ?_)); exact hput_same ..) (Nat.le_of_ble_eq_true rfl) ?_; conv => whnf))
  rw [shl1]
  refine add64_rel hD0 hD1 (by omega) (by omega) (by omega) (by omega) fun p1 c1 hF0 hF1 lF0 lF1 eF => ?_; conv => whnf
  repeat (refine Ob.mk (by first | decide | omega) ?_; conv => whnf)
  rw [shl1, shr63 lA0, or1 hm0 (show 0 ≤ lo1 / 9223372036854775808 by omega) (by omega)]
  refine add64_rel lE0 lE1 (by omega) (by omega) (by omega) (by omega) fun p2 c2 hG0 hG1 lG0 lG1 eG => ?_; conv => whnf
  repeat' (first
    | (refine Ob.mk (by first | decide | exact ⟨rfl, rfl⟩ | ((repeat (refine (ldV_ne (by omega)).trans ?_)); exact (ldV_same _ _ _ _ _ _ _).trans rfl)) ?_; conv => whnf)
    | (refine BoxX.on fun n hn hbd => ?_; conv => whnf)
    | (refine LoadX.of _ (by (repeat (refine (ldV_ne (by omega)).trans ?_)); exact (ldV_same _ _ _ _ _ _ _).trans rfl) ?_; conv => whnf)
    | (fail; conv => whnf)
    | (refine StoreX.same (Nat.le_of_ble_eq_true rfl) ?_; conv => whnf)
    | (refine StoreX.at (by (repeat (refine (hput_ne (by omega)).trans ?_)); exact hput_same ..) (Nat.le_of_ble_eq_true rfl) ?_; conv => whnf))
  rw [shl1, shr63 hm0]
  refine RetX.drop (h' := h) (by intro b x hb; have hlt := hn1 b x hb; (repeat (rw [hput_ne (by omega)])); exact hb) ?_
  have hM3 : ∃ m3 : Int, 0 ≤ m3 ∧ m3 < 18446744073709551616 ∧ IntKind.u64.wrap (IntKind.u64.wrap (IntKind.u64.wrap (hi2 + IntKind.u64.wrap (a0 * a3)) + IntKind.u64.wrap (a1 * a2)) + c) = m3 ∧ m3 = (hi2 + a0 * a3 + a1 * a2 + c) % 18446744073709551616 := by
    simp only [wrap_u64', Int.emod_add_emod, Int.add_emod_emod]
    exact ⟨_, by omega, by omega, rfl, rfl⟩
  obtain ⟨m3, h30, h31, e3, e3'⟩ := hM3
  rw [e3, or1 h30 (show 0 ≤ m2 / 9223372036854775808 by omega) (by omega)]
  simp only [wrap_u64', Int.emod_add_emod, Int.add_emod_emod]
  have exx : x * x = a0 * a0 + 18446744073709551616 * (a0 * a1 + a1 * a0) + 340282366920938463463374607431768211456 * (a0 * a2 + a1 * a1 + a2 * a0) + 6277101735386680763835789423207666416102355444464034512896 * (a0 * a3 + a1 * a2 + a2 * a1 + a3 * a0) + W * (a1 * a3 + a2 * a2 + a3 * a1 + 18446744073709551616 * (a2 * a3 + a3 * a2) + 340282366920938463463374607431768211456 * (a3 * a3)) := by
    rw [← ex, W_val]; exact mul_expand ..
  refine cast (congrArg (fun v => K v h) (congrArg (fun l : List Value => Value.agg l.toArray) (wc_eq (v := x * x % W) ⟨by assumption, by assumption⟩ ⟨by assumption, by assumption⟩ ⟨by assumption, by assumption⟩ (U_mod _) ?_)).symm) hk
  rw [exx, Int.add_mul_emod_self_left, Int.mul_comm a1 a0, Int.mul_comm a2 a0, Int.mul_comm a2 a1, Int.mul_comm a3 a0]
  clear exx hk ex ewx e3
  generalize a0 * a0 = p00 at *
  generalize a0 * a1 = p01 at *
  generalize a0 * a2 = p02 at *
  generalize a1 * a1 = p11 at *
  generalize a0 * a3 = p03 at *
  generalize a1 * a2 = p12 at *
  unfold wv
  rw [W_val]
  omega
end
end Go.Proofs.YgvalwGreat.X
