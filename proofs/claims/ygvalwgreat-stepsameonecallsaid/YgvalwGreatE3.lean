import Derived.Test.YgvalwGreatE2
import Derived.Test.YgvalwGreatG3
set_option linter.unusedVariables false
set_option linter.unusedSimpArgs false
namespace Go.Proofs.YgvalwGreat.X
open Go

/-- Limb i of a number. -/
def lmN (n i : Nat) : Nat := n >>> (64 * i) % 2 ^ 64
theorem lmN_lt (n i : Nat) : lmN n i < 2 ^ 64 := Nat.mod_lt _ (by decide)
theorem wcN (n : Nat) : wc n = [.int .u64 (lmN n 0), .int .u64 (lmN n 1), .int .u64 (lmN n 2), .int .u64 (lmN n 3)] := by
  unfold wc lmN
  simp only [Nat.shiftRight_eq_div_pow]
  have e0 : ((n / 2 ^ (64 * 0) % 2 ^ 64 : Nat) : Int) = (n : Int) % 18446744073709551616 := by
    show ((n / 1 % 18446744073709551616 : Nat) : Int) = _; omega
  have e1 : ((n / 2 ^ (64 * 1) % 2 ^ 64 : Nat) : Int) = (n : Int) / 18446744073709551616 % 18446744073709551616 := by
    show ((n / 18446744073709551616 % 18446744073709551616 : Nat) : Int) = _; omega
  have e2 : ((n / 2 ^ (64 * 2) % 2 ^ 64 : Nat) : Int) = (n : Int) / 340282366920938463463374607431768211456 % 18446744073709551616 := by
    show ((n / 340282366920938463463374607431768211456 % 18446744073709551616 : Nat) : Int) = _; omega
  have e3 : ((n / 2 ^ (64 * 3) % 2 ^ 64 : Nat) : Int) = (n : Int) / 6277101735386680763835789423207666416102355444464034512896 % 18446744073709551616 := by
    show ((n / 6277101735386680763835789423207666416102355444464034512896 % 18446744073709551616 : Nat) : Int) = _; omega
  rw [e0, e1, e2, e3]
theorem lmN_and (a b i : Nat) : lmN a i &&& lmN b i = lmN (a &&& b) i := by unfold lmN; rw [Nat.shiftRight_and_distrib, Nat.and_mod_two_pow]
theorem lmN_or (a b i : Nat) : lmN a i ||| lmN b i = lmN (a ||| b) i := by unfold lmN; rw [Nat.shiftRight_or_distrib, Nat.or_mod_two_pow]
theorem lmN_xor (a b i : Nat) : lmN a i ^^^ lmN b i = lmN (a ^^^ b) i := by unfold lmN; rw [Nat.shiftRight_xor_distrib, Nat.xor_mod_two_pow]
theorem lmN_wv {n : Nat} (h : (n : Int) < W) : (n : Int) = wv (lmN n 0) (lmN n 1) (lmN n 2) (lmN n 3) := by
  have := wc_wv (v := n) (by omega) h
  have hw := wcN n
  unfold wc at hw
  simp only [List.cons.injEq, Value.int.injEq, true_and, and_true] at hw
  rw [hw.1, hw.2.1, hw.2.2.1, hw.2.2.2] at this
  exact this.symm
theorem not64 {a : Nat} (ha : a < 2 ^ 64) : IntKind.u64.wrap ((BitVec.ofInt IntKind.u64.bits (if IntKind.u64.signed = true then -1 else IntKind.u64.max) ^^^ BitVec.ofInt IntKind.u64.bits (a : Int)).toNat : Int) = ((2 ^ 64 - 1 - a : Nat) : Int) := by
  have e : BitVec.ofInt IntKind.u64.bits (if IntKind.u64.signed = true then -1 else IntKind.u64.max) = BitVec.allOnes 64 := rfl
  have e2 := ofInt64 ha
  rw [e]
  show IntKind.u64.wrap (((BitVec.allOnes 64 ^^^ BitVec.ofInt 64 (a : Int)).toNat : Nat) : Int) = _
  rw [BitVec.allOnes_xor, BitVec.toNat_not]
  have e3 : (BitVec.ofInt 64 (a : Int)).toNat = a := e2
  rw [e3, wrapN64 (by omega)]
section
variable {h : Hp} {K : Value → Hp → Prop} {a b : Nat}

set_option maxRecDepth 100000 in
set_option maxHeartbeats 4000000 in
theorem eAnd_ok (hk : K (.agg (wc ((a &&& b : Nat) : Int)).toArray) h) : CallX Hval.prog 267 [.agg (wc a).toArray, .agg (wc b).toArray] h K := by
  rw [wcN a, wcN b]; rw [wcN] at hk
  refine CallX.of_xf T_ok Hval.func267 rfl (by kernel_rfl) (Nat.le_of_ble_eq_true rfl) ?_; conv => whnf
  refine BoxX.mk fun n1 hn1 => ?_; conv => whnf
  repeat' (first
    | (refine Ob.mk (by first | decide | exact ⟨rfl, rfl⟩ | ((repeat (refine (ldV_ne (by omega)).trans ?_)); exact (ldV_same _ _ _ _ _ _ _).trans rfl)) ?_; conv => whnf)
    | (refine BoxX.on fun n hn hbd => ?_; conv => whnf)
    | (refine LoadX.of _ (by (repeat (refine (ldV_ne (by omega)).trans ?_)); exact (ldV_same _ _ _ _ _ _ _).trans rfl) ?_; conv => whnf)
    | (fail; conv => whnf)
    | (refine StoreX.same (Nat.le_of_ble_eq_true rfl) ?_; conv => whnf)
    | (refine StoreX.at (by (repeat (refine (hput_ne (by omega)).trans ?_)); exact hput_same ..) (Nat.le_of_ble_eq_true rfl) ?_; conv => whnf))
  refine RetX.drop (h' := h) (by intro b x hb; have hlt := hn1 b x hb; (repeat (rw [hput_ne (by omega)])); exact hb) ?_
  rw [and64 (lmN_lt _ _) (lmN_lt _ _), and64 (lmN_lt _ _) (lmN_lt _ _), and64 (lmN_lt _ _) (lmN_lt _ _), and64 (lmN_lt _ _) (lmN_lt _ _), lmN_and, lmN_and, lmN_and, lmN_and]
  exact hk
set_option maxRecDepth 100000 in
set_option maxHeartbeats 4000000 in
theorem eOr_ok (hk : K (.agg (wc ((a ||| b : Nat) : Int)).toArray) h) : CallX Hval.prog 268 [.agg (wc a).toArray, .agg (wc b).toArray] h K := by
  rw [wcN a, wcN b]; rw [wcN] at hk
  refine CallX.of_xf T_ok Hval.func268 rfl (by kernel_rfl) (Nat.le_of_ble_eq_true rfl) ?_; conv => whnf
  refine BoxX.mk fun n1 hn1 => ?_; conv => whnf
  repeat' (first
    | (refine Ob.mk (by first | decide | exact ⟨rfl, rfl⟩ | ((repeat (refine (ldV_ne (by omega)).trans ?_)); exact (ldV_same _ _ _ _ _ _ _).trans rfl)) ?_; conv => whnf)
    | (refine BoxX.on fun n hn hbd => ?_; conv => whnf)
    | (refine LoadX.of _ (by (repeat (refine (ldV_ne (by omega)).trans ?_)); exact (ldV_same _ _ _ _ _ _ _).trans rfl) ?_; conv => whnf)
    | (fail; conv => whnf)
    | (refine StoreX.same (Nat.le_of_ble_eq_true rfl) ?_; conv => whnf)
    | (refine StoreX.at (by (repeat (refine (hput_ne (by omega)).trans ?_)); exact hput_same ..) (Nat.le_of_ble_eq_true rfl) ?_; conv => whnf))
  refine RetX.drop (h' := h) (by intro b x hb; have hlt := hn1 b x hb; (repeat (rw [hput_ne (by omega)])); exact hb) ?_
  rw [or64 (lmN_lt _ _) (lmN_lt _ _), or64 (lmN_lt _ _) (lmN_lt _ _), or64 (lmN_lt _ _) (lmN_lt _ _), or64 (lmN_lt _ _) (lmN_lt _ _), lmN_or, lmN_or, lmN_or, lmN_or]
  exact hk
set_option maxRecDepth 100000 in
set_option maxHeartbeats 4000000 in
theorem eXor_ok (hk : K (.agg (wc ((a ^^^ b : Nat) : Int)).toArray) h) : CallX Hval.prog 269 [.agg (wc a).toArray, .agg (wc b).toArray] h K := by
  rw [wcN a, wcN b]; rw [wcN] at hk
  refine CallX.of_xf T_ok Hval.func269 rfl (by kernel_rfl) (Nat.le_of_ble_eq_true rfl) ?_; conv => whnf
  refine BoxX.mk fun n1 hn1 => ?_; conv => whnf
  repeat' (first
    | (refine Ob.mk (by first | decide | exact ⟨rfl, rfl⟩ | ((repeat (refine (ldV_ne (by omega)).trans ?_)); exact (ldV_same _ _ _ _ _ _ _).trans rfl)) ?_; conv => whnf)
    | (refine BoxX.on fun n hn hbd => ?_; conv => whnf)
    | (refine LoadX.of _ (by (repeat (refine (ldV_ne (by omega)).trans ?_)); exact (ldV_same _ _ _ _ _ _ _).trans rfl) ?_; conv => whnf)
    | (fail; conv => whnf)
    | (refine StoreX.same (Nat.le_of_ble_eq_true rfl) ?_; conv => whnf)
    | (refine StoreX.at (by (repeat (refine (hput_ne (by omega)).trans ?_)); exact hput_same ..) (Nat.le_of_ble_eq_true rfl) ?_; conv => whnf))
  refine RetX.drop (h' := h) (by intro b x hb; have hlt := hn1 b x hb; (repeat (rw [hput_ne (by omega)])); exact hb) ?_
  rw [xor64 (lmN_lt _ _) (lmN_lt _ _), xor64 (lmN_lt _ _) (lmN_lt _ _), xor64 (lmN_lt _ _) (lmN_lt _ _), xor64 (lmN_lt _ _) (lmN_lt _ _), lmN_xor, lmN_xor, lmN_xor, lmN_xor]
  exact hk
set_option maxRecDepth 100000 in
set_option maxHeartbeats 4000000 in
theorem eNot_ok (ha : (a : Int) < W) (hk : K (.agg (wc (W - 1 - a)).toArray) h) : CallX Hval.prog 270 [.agg (wc a).toArray] h K := by
  have hl := lmN_wv ha
  rw [wcN a]
  refine CallX.of_xf T_ok Hval.func270 rfl (by kernel_rfl) (Nat.le_of_ble_eq_true rfl) ?_; conv => whnf
  refine BoxX.mk fun n1 hn1 => ?_; conv => whnf
  repeat' (first
    | (refine Ob.mk (by first | decide | exact ⟨rfl, rfl⟩ | ((repeat (refine (ldV_ne (by omega)).trans ?_)); exact (ldV_same _ _ _ _ _ _ _).trans rfl)) ?_; conv => whnf)
    | (refine BoxX.on fun n hn hbd => ?_; conv => whnf)
    | (refine LoadX.of _ (by (repeat (refine (ldV_ne (by omega)).trans ?_)); exact (ldV_same _ _ _ _ _ _ _).trans rfl) ?_; conv => whnf)
    | (fail; conv => whnf)
    | (refine StoreX.same (Nat.le_of_ble_eq_true rfl) ?_; conv => whnf)
    | (refine StoreX.at (by (repeat (refine (hput_ne (by omega)).trans ?_)); exact hput_same ..) (Nat.le_of_ble_eq_true rfl) ?_; conv => whnf))
  refine RetX.drop (h' := h) (by intro b x hb; have hlt := hn1 b x hb; (repeat (rw [hput_ne (by omega)])); exact hb) ?_
  rw [not64 (lmN_lt _ _), not64 (lmN_lt _ _), not64 (lmN_lt _ _), not64 (lmN_lt _ _)]
  have l0 := lmN_lt a 0; have l1 := lmN_lt a 1; have l2 := lmN_lt a 2; have l3 := lmN_lt a 3
  unfold wv at hl
  refine cast (congrArg (fun v => K v h) (congrArg (fun l : List Value => Value.agg l.toArray) (wc_eq (by unfold U; omega) (by unfold U; omega) (by unfold U; omega) (by unfold U; omega) ?_)).symm) hk
  unfold wv
  rw [W_val]
  omega
set_option maxRecDepth 100000 in
set_option maxHeartbeats 4000000 in
theorem eIsZero_ok (ha : (a : Int) < W) (hk : K (.bool (decide (a = 0))) h) : CallX Hval.prog 232 [.agg (wc a).toArray] h K := by
  have hl := lmN_wv ha
  rw [wcN a]
  refine CallX.of_xf T_ok Hval.func232 rfl (by kernel_rfl) (Nat.le_of_ble_eq_true rfl) ?_; conv => whnf
  refine BoxX.mk fun n1 hn1 => ?_; conv => whnf
  repeat' (first
    | (refine Ob.mk (by first | decide | exact ⟨rfl, rfl⟩ | ((repeat (refine (ldV_ne (by omega)).trans ?_)); exact (ldV_same _ _ _ _ _ _ _).trans rfl)) ?_; conv => whnf)
    | (refine BoxX.on fun n hn hbd => ?_; conv => whnf)
    | (refine LoadX.of _ (by (repeat (refine (ldV_ne (by omega)).trans ?_)); exact (ldV_same _ _ _ _ _ _ _).trans rfl) ?_; conv => whnf)
    | (fail; conv => whnf)
    | (refine StoreX.same (Nat.le_of_ble_eq_true rfl) ?_; conv => whnf)
    | (refine StoreX.at (by (repeat (refine (hput_ne (by omega)).trans ?_)); exact hput_same ..) (Nat.le_of_ble_eq_true rfl) ?_; conv => whnf))
  refine RetX.drop (h' := h) (by intro b x hb; have hlt := hn1 b x hb; (repeat (rw [hput_ne (by omega)])); exact hb) ?_
  rw [or64 (lmN_lt _ _) (lmN_lt _ _), or64 (Nat.or_lt_two_pow (lmN_lt _ _) (lmN_lt _ _)) (lmN_lt _ _), or64 (Nat.or_lt_two_pow (Nat.or_lt_two_pow (lmN_lt _ _) (lmN_lt _ _)) (lmN_lt _ _)) (lmN_lt _ _)]
  refine cast (congrArg (fun v => K v h) ?_) hk
  congr 1
  rw [Bool.eq_iff_iff]
  simp only [decide_eq_true_eq, beq_iff_eq]
  unfold wv at hl
  constructor
  · intro h0; subst h0; rfl
  · intro h0
    have h1 : ((lmN a 0 ||| lmN a 1) ||| lmN a 2) ||| lmN a 3 = 0 := by omega
    simp only [Nat.or_eq_zero_iff] at h1
    omega
set_option maxRecDepth 100000 in
set_option maxHeartbeats 4000000 in
theorem eU64_ok (ha : (a : Int) < W) (hk : K (.tuple #[.int .u64 (if (a : Int) < 18446744073709551616 then (a : Int) else 0), .bool (decide ((a : Int) < 18446744073709551616))]) h) : CallX Hval.prog 283 [.agg (wc a).toArray] h K := by
  have hl := lmN_wv ha
  rw [wcN a]
  refine CallX.of_xf T_ok Hval.func283 rfl (by kernel_rfl) (Nat.le_of_ble_eq_true rfl) ?_; conv => whnf
  refine BoxX.mk fun n1 hn1 => ?_; conv => whnf
  repeat' (first
    | (refine Ob.mk (by first | decide | exact ⟨rfl, rfl⟩ | ((repeat (refine (ldV_ne (by omega)).trans ?_)); exact (ldV_same _ _ _ _ _ _ _).trans rfl)) ?_; conv => whnf)
    | (refine BoxX.on fun n hn hbd => ?_; conv => whnf)
    | (refine LoadX.of _ (by (repeat (refine (ldV_ne (by omega)).trans ?_)); exact (ldV_same _ _ _ _ _ _ _).trans rfl) ?_; conv => whnf)
    | (fail; conv => whnf)
    | (refine StoreX.same (Nat.le_of_ble_eq_true rfl) ?_; conv => whnf)
    | (refine StoreX.at (by (repeat (refine (hput_ne (by omega)).trans ?_)); exact hput_same ..) (Nat.le_of_ble_eq_true rfl) ?_; conv => whnf))
  rw [or64 (lmN_lt _ _) (lmN_lt _ _), or64 (Nat.or_lt_two_pow (lmN_lt _ _) (lmN_lt _ _)) (lmN_lt _ _)]
  have l0 := lmN_lt a 0; have l1 := lmN_lt a 1; have l2 := lmN_lt a 2; have l3 := lmN_lt a 3
  unfold wv at hl
  refine CondX.neI (fun hq => ?_) (fun hq => ?_) <;> conv => whnf
  · have hn : ¬ ((a : Int) < 18446744073709551616) := fun hc => hq (by
      have h1 : lmN a 1 = 0 ∧ lmN a 2 = 0 ∧ lmN a 3 = 0 := by omega
      rw [h1.1, h1.2.1, h1.2.2]; rfl)
    refine RetX.drop (h' := h) (by intro b x hb; have hlt := hn1 b x hb; (repeat (rw [hput_ne (by omega)])); exact hb) ?_
    rw [if_neg hn, decide_eq_false hn] at hk
    exact hk
  · have h1 : (lmN a 1 ||| lmN a 2) ||| lmN a 3 = 0 := by omega
    simp only [Nat.or_eq_zero_iff] at h1
    have hy : (a : Int) < 18446744073709551616 := by omega
    repeat' (first
      | (refine Ob.mk (by first | decide | exact ⟨rfl, rfl⟩ | ((repeat (refine (ldV_ne (by omega)).trans ?_)); exact (ldV_same _ _ _ _ _ _ _).trans rfl)) ?_; conv => whnf)
      | (refine BoxX.on fun n hn hbd => ?_; conv => whnf)
      | (refine LoadX.of _ (by (repeat (refine (ldV_ne (by omega)).trans ?_)); exact (ldV_same _ _ _ _ _ _ _).trans rfl) ?_; conv => whnf)
      | (fail; conv => whnf)
      | (refine StoreX.same (Nat.le_of_ble_eq_true rfl) ?_; conv => whnf)
      | (refine StoreX.at (by (repeat (refine (hput_ne (by omega)).trans ?_)); exact hput_same ..) (Nat.le_of_ble_eq_true rfl) ?_; conv => whnf))
    refine RetX.drop (h' := h) (by intro b x hb; have hlt := hn1 b x hb; (repeat (rw [hput_ne (by omega)])); exact hb) ?_
    rw [if_pos hy, decide_eq_true hy, show (a : Int) = (lmN a 0 : Int) by omega] at hk
    exact hk
set_option maxRecDepth 100000 in
set_option maxHeartbeats 4000000 in
theorem eBelow_ok {y : Int} (ha : (a : Int) < W) (hy0 : 0 ≤ y) (hy : y < 18446744073709551616) (hk : K (.tuple #[.int .u64 (if (a : Int) < 18446744073709551616 then (a : Int) else 0), .bool (decide ((a : Int) < y))]) h) : CallX Hval.prog 354 [.agg (wc a).toArray, .int .u64 y] h K := by
  refine CallX.of_xf T_ok Hval.func354 rfl (by kernel_rfl) (Nat.le_of_ble_eq_true rfl) ?_; conv => whnf
  refine BoxX.mk fun n1 hn1 => ?_; conv => whnf
  refine LoadX.of _ ((ldV_same _ _ _ _ _ _ _).trans rfl) ?_; conv => whnf
  refine eU64_ok (a := a) ha ?_; conv => whnf
  refine CondX.decI (fun hq => ?_) (fun hq => ?_) <;> conv => whnf
  · repeat (first | (refine CondX.tt ?_; conv => whnf) | (refine CondX.ff ?_; conv => whnf))
    refine RetX.drop (h' := h) (by intro b x hb; have hlt := hn1 b x hb; (repeat (rw [hput_ne (by omega)])); exact hb) ?_
    rw [if_pos hq] at hk ⊢
    exact hk
  · repeat (first | (refine CondX.tt ?_; conv => whnf) | (refine CondX.ff ?_; conv => whnf))
    refine RetX.drop (h' := h) (by intro b x hb; have hlt := hn1 b x hb; (repeat (rw [hput_ne (by omega)])); exact hb) ?_
    have : ¬ (a : Int) < y := by omega
    rw [decide_eq_false this] at hk
    exact hk
set_option maxRecDepth 100000 in
set_option maxHeartbeats 4000000 in
theorem eNegative_ok (ha : (a : Int) < W) (hk : K (.bool (bitI a 255)) h) : CallX Hval.prog 352 [.agg (wc a).toArray] h K := by
  have hl := lmN_wv ha
  rw [wcN a]
  refine CallX.of_xf T_ok Hval.func352 rfl (by kernel_rfl) (Nat.le_of_ble_eq_true rfl) ?_; conv => whnf
  refine BoxX.mk fun n1 hn1 => ?_; conv => whnf
  repeat' (first
    | (refine Ob.mk (by first | decide | exact ⟨rfl, rfl⟩ | ((repeat (refine (ldV_ne (by omega)).trans ?_)); exact (ldV_same _ _ _ _ _ _ _).trans rfl)) ?_; conv => whnf)
    | (refine BoxX.on fun n hn hbd => ?_; conv => whnf)
    | (refine LoadX.of _ (by (repeat (refine (ldV_ne (by omega)).trans ?_)); exact (ldV_same _ _ _ _ _ _ _).trans rfl) ?_; conv => whnf)
    | (fail; conv => whnf)
    | (refine StoreX.same (Nat.le_of_ble_eq_true rfl) ?_; conv => whnf)
    | (refine StoreX.at (by (repeat (refine (hput_ne (by omega)).trans ?_)); exact hput_same ..) (Nat.le_of_ble_eq_true rfl) ?_; conv => whnf))
  refine RetX.drop (h' := h) (by intro b x hb; have hlt := hn1 b x hb; (repeat (rw [hput_ne (by omega)])); exact hb) ?_
  have l0 := lmN_lt a 0; have l1 := lmN_lt a 1; have l2 := lmN_lt a 2; have l3 := lmN_lt a 3
  have e63 : ((lmN a 3 : Nat) : Int).fdiv (2 ^ min (Int.toNat 63) IntKind.u64.bits) = ((lmN a 3 >>> 63 : Nat) : Int) := shr64 (a := lmN a 3) (s := 63) (by decide)
  rw [e63, Nat.shiftRight_eq_div_pow]
  refine cast (congrArg (fun v => K v h) ?_) hk
  congr 1
  rw [Bool.eq_iff_iff]
  unfold bitI
  simp only [decide_eq_true_eq, bne_iff_ne, ne_eq]
  rw [show (2 : Int) ^ 255 = 57896044618658097711785492504343953926634992332820282019728792003956564819968 by decide, show (2 : Nat) ^ 63 = 9223372036854775808 by decide]
  unfold wv at hl
  rw [W_val] at ha
  omega
set_option maxRecDepth 100000 in
set_option maxHeartbeats 4000000 in
theorem eSigned_ok {t : Bool} (ha : (a : Int) < W) (hk : K (.agg (wc (signI a t)).toArray) h) : CallX Hval.prog 351 [.agg (wc a).toArray, .bool t] h K := by
  refine CallX.of_xf T_ok Hval.func351 rfl (by kernel_rfl) (Nat.le_of_ble_eq_true rfl) ?_; conv => whnf
  refine BoxX.mk fun n1 hn1 => ?_; conv => whnf
  refine BoxX.on fun n2 hn2 hbd => ?_; conv => whnf
  cases t with
  | true =>
    repeat (first | (refine CondX.tt ?_; conv => whnf) | (refine CondX.ff ?_; conv => whnf))
    repeat' (first
      | (refine Ob.mk (by first | decide | exact ⟨rfl, rfl⟩ | ((repeat (refine (ldV_ne (by omega)).trans ?_)); exact (ldV_same _ _ _ _ _ _ _).trans rfl)) ?_; conv => whnf)
      | (refine BoxX.on fun n hn hbd => ?_; conv => whnf)
      | (refine LoadX.of _ (by (repeat (refine (ldV_ne (by omega)).trans ?_)); exact (ldV_same _ _ _ _ _ _ _).trans rfl) ?_; conv => whnf)
      | (refine eSub_ok (x := 0) (y := a) (by decide) W_pos (by omega) ha ?_; conv => whnf)
      | (refine StoreX.same (Nat.le_of_ble_eq_true rfl) ?_; conv => whnf)
      | (refine StoreX.at (by (repeat (refine (hput_ne (by omega)).trans ?_)); exact hput_same ..) (Nat.le_of_ble_eq_true rfl) ?_; conv => whnf))
    refine RetX.drop (h' := h) (by intro b x hb; have hlt := hn1 b x hb; (repeat (rw [hput_ne (by omega)])); exact hb) ?_
    have e : signI a true = (0 - (a : Int)) % W := by
      unfold signI
      rw [if_pos rfl, W_val]
      omega
    rw [e] at hk
    exact hk
  | false =>
    repeat (first | (refine CondX.tt ?_; conv => whnf) | (refine CondX.ff ?_; conv => whnf))
    repeat' (first
      | (refine Ob.mk (by first | decide | exact ⟨rfl, rfl⟩ | ((repeat (refine (ldV_ne (by omega)).trans ?_)); exact (ldV_same _ _ _ _ _ _ _).trans rfl)) ?_; conv => whnf)
      | (refine BoxX.on fun n hn hbd => ?_; conv => whnf)
      | (refine LoadX.of _ (by (repeat (refine (ldV_ne (by omega)).trans ?_)); exact (ldV_same _ _ _ _ _ _ _).trans rfl) ?_; conv => whnf)
      | (fail; conv => whnf)
      | (refine StoreX.same (Nat.le_of_ble_eq_true rfl) ?_; conv => whnf)
      | (refine StoreX.at (by (repeat (refine (hput_ne (by omega)).trans ?_)); exact hput_same ..) (Nat.le_of_ble_eq_true rfl) ?_; conv => whnf))
    refine RetX.drop (h' := h) (by intro b x hb; have hlt := hn1 b x hb; (repeat (rw [hput_ne (by omega)])); exact hb) ?_
    exact hk
set_option maxRecDepth 100000 in
set_option maxHeartbeats 4000000 in
theorem eSlt_ok (ha : (a : Int) < W) (hb : (b : Int) < W) (hk : K (.bool (if bitI a 255 = bitI b 255 then decide ((a : Int) < b) else bitI a 255)) h) : CallX Hval.prog 264 [.agg (wc a).toArray, .agg (wc b).toArray] h K := by
  refine CallX.of_xf T_ok Hval.func264 rfl (by kernel_rfl) (Nat.le_of_ble_eq_true rfl) ?_; conv => whnf
  refine BoxX.mk fun n1 hn1 => ?_; conv => whnf
  refine BoxX.on fun n2 hn2 hbd => ?_; conv => whnf
  refine DrawX.go T_ok hM Hval.func264 (tb := dr264) rfl (by kernel_rfl) ?_; conv => whnf
  repeat' (first
    | (refine Ob.mk (by first | decide | exact ⟨rfl, rfl⟩ | ((repeat (refine (ldV_ne (by omega)).trans ?_)); exact (ldV_same _ _ _ _ _ _ _).trans rfl)) ?_; conv => whnf)
    | (refine BoxX.on fun n hn hbd => ?_; conv => whnf)
    | (refine LoadX.of _ (by (repeat (refine (ldV_ne (by omega)).trans ?_)); exact (ldV_same _ _ _ _ _ _ _).trans rfl) ?_; conv => whnf)
    | ((first | refine eNegative_ok (a := a) ha ?_ | refine eNegative_ok (a := b) hb ?_); conv => whnf)
    | (refine StoreX.same (Nat.le_of_ble_eq_true rfl) ?_; conv => whnf)
    | (refine StoreX.at (by (repeat (refine (hput_ne (by omega)).trans ?_)); exact hput_same ..) (Nat.le_of_ble_eq_true rfl) ?_; conv => whnf))
  cases hA : bitI a 255 <;> cases hB : bitI b 255 <;> rw [hA, hB] at hk
  · conv => whnf
    repeat (first | (refine CondX.tt ?_; conv => whnf) | (refine CondX.ff ?_; conv => whnf))
    repeat' (first
      | (refine Ob.mk (by first | decide | exact ⟨rfl, rfl⟩ | ((repeat (refine (ldV_ne (by omega)).trans ?_)); exact (ldV_same _ _ _ _ _ _ _).trans rfl)) ?_; conv => whnf)
      | (refine BoxX.on fun n hn hbd => ?_; conv => whnf)
      | (refine LoadX.of _ (by (repeat (refine (ldV_ne (by omega)).trans ?_)); exact (ldV_same _ _ _ _ _ _ _).trans rfl) ?_; conv => whnf)
      | (refine eLt_ok (x := a) (y := b) (by omega) ha (by omega) hb ?_; conv => whnf)
      | (refine StoreX.same (Nat.le_of_ble_eq_true rfl) ?_; conv => whnf)
      | (refine StoreX.at (by (repeat (refine (hput_ne (by omega)).trans ?_)); exact hput_same ..) (Nat.le_of_ble_eq_true rfl) ?_; conv => whnf))
    refine RetX.drop (h' := h) (by intro b x hb; have hlt := hn1 b x hb; (repeat (rw [hput_ne (by omega)])); exact hb) ?_
    exact hk
  · conv => whnf
    repeat (first | (refine CondX.tt ?_; conv => whnf) | (refine CondX.ff ?_; conv => whnf))
    repeat' (first
      | (refine Ob.mk (by first | decide | exact ⟨rfl, rfl⟩ | ((repeat (refine (ldV_ne (by omega)).trans ?_)); exact (ldV_same _ _ _ _ _ _ _).trans rfl)) ?_; conv => whnf)
      | (refine BoxX.on fun n hn hbd => ?_; conv => whnf)
      | (refine LoadX.of _ (by (repeat (refine (ldV_ne (by omega)).trans ?_)); exact (ldV_same _ _ _ _ _ _ _).trans rfl) ?_; conv => whnf)
      | (refine eNegative_ok (a := a) ha ?_; conv => whnf)
      | (refine StoreX.same (Nat.le_of_ble_eq_true rfl) ?_; conv => whnf)
      | (refine StoreX.at (by (repeat (refine (hput_ne (by omega)).trans ?_)); exact hput_same ..) (Nat.le_of_ble_eq_true rfl) ?_; conv => whnf))
    refine RetX.drop (h' := h) (by intro b x hb; have hlt := hn1 b x hb; (repeat (rw [hput_ne (by omega)])); exact hb) ?_
    rw [hA]; exact hk
  · conv => whnf
    repeat (first | (refine CondX.tt ?_; conv => whnf) | (refine CondX.ff ?_; conv => whnf))
    repeat' (first
      | (refine Ob.mk (by first | decide | exact ⟨rfl, rfl⟩ | ((repeat (refine (ldV_ne (by omega)).trans ?_)); exact (ldV_same _ _ _ _ _ _ _).trans rfl)) ?_; conv => whnf)
      | (refine BoxX.on fun n hn hbd => ?_; conv => whnf)
      | (refine LoadX.of _ (by (repeat (refine (ldV_ne (by omega)).trans ?_)); exact (ldV_same _ _ _ _ _ _ _).trans rfl) ?_; conv => whnf)
      | (refine eNegative_ok (a := a) ha ?_; conv => whnf)
      | (refine StoreX.same (Nat.le_of_ble_eq_true rfl) ?_; conv => whnf)
      | (refine StoreX.at (by (repeat (refine (hput_ne (by omega)).trans ?_)); exact hput_same ..) (Nat.le_of_ble_eq_true rfl) ?_; conv => whnf))
    refine RetX.drop (h' := h) (by intro b x hb; have hlt := hn1 b x hb; (repeat (rw [hput_ne (by omega)])); exact hb) ?_
    rw [hA]; exact hk
  · conv => whnf
    repeat (first | (refine CondX.tt ?_; conv => whnf) | (refine CondX.ff ?_; conv => whnf))
    repeat' (first
      | (refine Ob.mk (by first | decide | exact ⟨rfl, rfl⟩ | ((repeat (refine (ldV_ne (by omega)).trans ?_)); exact (ldV_same _ _ _ _ _ _ _).trans rfl)) ?_; conv => whnf)
      | (refine BoxX.on fun n hn hbd => ?_; conv => whnf)
      | (refine LoadX.of _ (by (repeat (refine (ldV_ne (by omega)).trans ?_)); exact (ldV_same _ _ _ _ _ _ _).trans rfl) ?_; conv => whnf)
      | (refine eLt_ok (x := a) (y := b) (by omega) ha (by omega) hb ?_; conv => whnf)
      | (refine StoreX.same (Nat.le_of_ble_eq_true rfl) ?_; conv => whnf)
      | (refine StoreX.at (by (repeat (refine (hput_ne (by omega)).trans ?_)); exact hput_same ..) (Nat.le_of_ble_eq_true rfl) ?_; conv => whnf))
    refine RetX.drop (h' := h) (by intro b x hb; have hlt := hn1 b x hb; (repeat (rw [hput_ne (by omega)])); exact hb) ?_
    exact hk
set_option maxRecDepth 100000 in
set_option maxHeartbeats 4000000 in
theorem eSgt_ok (ha : (a : Int) < W) (hb : (b : Int) < W) (hk : K (.bool (if bitI b 255 = bitI a 255 then decide ((b : Int) < a) else bitI b 255)) h) : CallX Hval.prog 265 [.agg (wc a).toArray, .agg (wc b).toArray] h K := by
  refine CallX.of_xf T_ok Hval.func265 rfl (by kernel_rfl) (Nat.le_of_ble_eq_true rfl) ?_; conv => whnf
  refine BoxX.mk fun n1 hn1 => ?_; conv => whnf
  repeat' (first
    | (refine Ob.mk (by first | decide | exact ⟨rfl, rfl⟩ | ((repeat (refine (ldV_ne (by omega)).trans ?_)); exact (ldV_same _ _ _ _ _ _ _).trans rfl)) ?_; conv => whnf)
    | (refine BoxX.on fun n hn hbd => ?_; conv => whnf)
    | (refine LoadX.of _ (by (repeat (refine (ldV_ne (by omega)).trans ?_)); exact (ldV_same _ _ _ _ _ _ _).trans rfl) ?_; conv => whnf)
    | (refine eSlt_ok (a := b) (b := a) hb ha ?_; conv => whnf)
    | (refine StoreX.same (Nat.le_of_ble_eq_true rfl) ?_; conv => whnf)
    | (refine StoreX.at (by (repeat (refine (hput_ne (by omega)).trans ?_)); exact hput_same ..) (Nat.le_of_ble_eq_true rfl) ?_; conv => whnf))
  refine RetX.drop (h' := h) (by intro b x hb; have hlt := hn1 b x hb; (repeat (rw [hput_ne (by omega)])); exact hb) ?_
  exact hk
set_option maxRecDepth 100000 in
set_option maxHeartbeats 4000000 in
theorem eFlag_ok {t : Bool} (hk : K (.agg (wc (flagI t)).toArray) h) : CallX Hval.prog 266 [.bool t] h K := by
  refine CallX.of_xf T_ok Hval.func266 rfl (by kernel_rfl) (Nat.le_of_ble_eq_true rfl) ?_; conv => whnf
  refine BoxX.mk fun n1 hn1 => ?_; conv => whnf
  cases t with
  | true =>
    repeat (first | (refine CondX.tt ?_; conv => whnf) | (refine CondX.ff ?_; conv => whnf))
    repeat' (first
      | (refine Ob.mk (by first | decide | exact ⟨rfl, rfl⟩ | ((repeat (refine (ldV_ne (by omega)).trans ?_)); exact (ldV_same _ _ _ _ _ _ _).trans rfl)) ?_; conv => whnf)
      | (refine BoxX.on fun n hn hbd => ?_; conv => whnf)
      | (refine LoadX.of _ (by (repeat (refine (ldV_ne (by omega)).trans ?_)); exact (ldV_same _ _ _ _ _ _ _).trans rfl) ?_; conv => whnf)
      | (fail; conv => whnf)
      | (refine StoreX.same (Nat.le_of_ble_eq_true rfl) ?_; conv => whnf)
      | (refine StoreX.at (by (repeat (refine (hput_ne (by omega)).trans ?_)); exact hput_same ..) (Nat.le_of_ble_eq_true rfl) ?_; conv => whnf))
    refine RetX.drop (h' := h) (by intro b x hb; have hlt := hn1 b x hb; (repeat (rw [hput_ne (by omega)])); exact hb) ?_
    exact hk
  | false =>
    repeat (first | (refine CondX.tt ?_; conv => whnf) | (refine CondX.ff ?_; conv => whnf))
    repeat' (first
      | (refine Ob.mk (by first | decide | exact ⟨rfl, rfl⟩ | ((repeat (refine (ldV_ne (by omega)).trans ?_)); exact (ldV_same _ _ _ _ _ _ _).trans rfl)) ?_; conv => whnf)
      | (refine BoxX.on fun n hn hbd => ?_; conv => whnf)
      | (refine LoadX.of _ (by (repeat (refine (ldV_ne (by omega)).trans ?_)); exact (ldV_same _ _ _ _ _ _ _).trans rfl) ?_; conv => whnf)
      | (fail; conv => whnf)
      | (refine StoreX.same (Nat.le_of_ble_eq_true rfl) ?_; conv => whnf)
      | (refine StoreX.at (by (repeat (refine (hput_ne (by omega)).trans ?_)); exact hput_same ..) (Nat.le_of_ble_eq_true rfl) ?_; conv => whnf))
    refine RetX.drop (h' := h) (by intro b x hb; have hlt := hn1 b x hb; (repeat (rw [hput_ne (by omega)])); exact hb) ?_
    exact hk
end
end Go.Proofs.YgvalwGreat.X
