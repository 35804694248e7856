import Derived.Test.YgvalwGreatE27
set_option linter.unusedVariables false
set_option linter.unusedSimpArgs false
namespace Go.Proofs.YgvalwGreat.X
open Go

theorem lmN_bit (n i j : Nat) : (lmN n i).testBit j = (decide (j < 64) && n.testBit (64 * i + j)) := by
  unfold lmN; rw [Nat.testBit_mod_two_pow, Nat.testBit_shiftRight]
theorem lmN_hi {n i : Nat} (h : n < 2 ^ (64 * i)) : lmN n i = 0 := by
  unfold lmN; rw [Nat.shiftRight_eq_div_pow, Nat.div_eq_of_lt h]
theorem lmN_shl {b s q r i : Nat} (hs : s = 64 * q + r) (hr : r < 64) (hi : q ≤ i) : lmN (b <<< s) i = (lmN b (i - q) * 2 ^ r % 18446744073709551616) ||| (if q < i then lmN b (i - q - 1) / 2 ^ (64 - r) else 0) := by
  rw [← Nat.shiftLeft_eq, ← Nat.shiftRight_eq_div_pow, show 18446744073709551616 = 2 ^ 64 from rfl]
  apply Nat.eq_of_testBit_eq
  intro j
  rw [lmN_bit, Nat.testBit_shiftLeft, Nat.testBit_or, Nat.testBit_mod_two_pow, Nat.testBit_shiftLeft, lmN_bit]
  by_cases hj : j < 64
  · by_cases hjr : r ≤ j
    · rw [decide_eq_true hj, decide_eq_true (show 64 * i + j ≥ s by omega), decide_eq_true (show j - r < 64 by omega), decide_eq_true (show j ≥ r by omega)]
      have e : 64 * i + j - s = 64 * (i - q) + (j - r) := by omega
      rw [e]
      by_cases hq : q < i
      · rw [if_pos hq, Nat.testBit_shiftRight, lmN_bit, decide_eq_false (show ¬ 64 - r + j < 64 by omega)]; simp
      · rw [if_neg hq]; simp
    · rw [decide_eq_true hj, decide_eq_false (show ¬ j ≥ r by omega)]
      by_cases hq : q < i
      · rw [if_pos hq, Nat.testBit_shiftRight, lmN_bit, decide_eq_true (show 64 - r + j < 64 by omega), decide_eq_true (show 64 * i + j ≥ s by omega)]
        have e : 64 * i + j - s = 64 * (i - q - 1) + (64 - r + j) := by omega
        rw [e]; simp
      · rw [if_neg hq, decide_eq_false (show ¬ 64 * i + j ≥ s by omega)]; simp
  · rw [decide_eq_false hj]
    by_cases hq : q < i
    · rw [if_pos hq, Nat.testBit_shiftRight, lmN_bit, decide_eq_false (show ¬ 64 - r + j < 64 by omega)]; simp
    · rw [if_neg hq]; simp
theorem lmN_shl0 {b s q r i : Nat} (hs : s = 64 * q + r) (hi : i < q) : lmN (b <<< s) i = 0 := by
  apply Nat.eq_of_testBit_eq
  intro j
  rw [lmN_bit, Nat.testBit_shiftLeft]
  by_cases hj : j < 64
  · rw [decide_eq_false (show ¬ 64 * i + j ≥ s by omega)]; simp
  · rw [decide_eq_false hj]; simp
theorem lmN_shr {b s q r i : Nat} (hs : s = 64 * q + r) (hr : r < 64) : lmN (b >>> s) i = (lmN b (i + q) / 2 ^ r) ||| (lmN b (i + q + 1) * 2 ^ (64 - r) % 18446744073709551616) := by
  rw [← Nat.shiftLeft_eq, ← Nat.shiftRight_eq_div_pow, show 18446744073709551616 = 2 ^ 64 from rfl]
  apply Nat.eq_of_testBit_eq
  intro j
  rw [lmN_bit, Nat.testBit_shiftRight, Nat.testBit_or, Nat.testBit_shiftRight, lmN_bit, Nat.testBit_mod_two_pow, Nat.testBit_shiftLeft, lmN_bit]
  by_cases hj : j < 64
  · by_cases hjr : j < 64 - r
    · rw [decide_eq_true (show r + j < 64 by omega), decide_eq_false (show ¬ j ≥ 64 - r by omega), decide_eq_true hj, show s + (64 * i + j) = 64 * (i + q) + (r + j) by omega]; simp
    · rw [decide_eq_false (show ¬ r + j < 64 by omega), decide_eq_true (show j ≥ 64 - r by omega), decide_eq_true hj, decide_eq_true (show j - (64 - r) < 64 by omega), show s + (64 * i + j) = 64 * (i + q + 1) + (j - (64 - r)) by omega]; simp
  · rw [decide_eq_false hj, decide_eq_false (show ¬ r + j < 64 by omega)]; simp
theorem wcL (n : Nat) : wc n = ul [(lmN n 0 : Int), lmN n 1, lmN n 2, lmN n 3] := wcN n
theorem lmN_W (n : Nat) (i : Nat) (hi : i < 4) : lmN (n % 2 ^ 256) i = lmN n i := by
  apply Nat.eq_of_testBit_eq
  intro j
  rw [lmN_bit, lmN_bit, Nat.testBit_mod_two_pow]
  by_cases hj : j < 64
  · rw [decide_eq_true (show 64 * i + j < 256 by omega)]; simp
  · rw [decide_eq_false hj]; simp
/-- Limbs below i are there, the rest is zero. -/
def upto (f : Nat → Nat) (z i : Nat) : List Int := [((if 0 < i then f 0 else z : Nat) : Int), ((if 1 < i then f 1 else z : Nat) : Int), ((if 2 < i then f 2 else z : Nat) : Int), ((if 3 < i then f 3 else z : Nat) : Int)]
theorem upto_set {f : Nat → Nat} {z i : Nat} {v : Int} (hi : i < 4) (hv : v = f i) : (upto f z i).set i v = upto f z (i + 1) := by
  subst hv
  match i, hi with
  | 0, _ => rfl
  | 1, _ => rfl
  | 2, _ => rfl
  | 3, _ => rfl
theorem upto_get {f : Nat → Nat} {z i k : Nat} (hi : k < 4) : (upto f z i).getD k 0 = ((if k < i then f k else z : Nat) : Int) := by
  match k, hi with
  | 0, _ => rfl
  | 1, _ => rfl
  | 2, _ => rfl
  | 3, _ => rfl
theorem limbsN_get (b : Nat) {k : Nat} (hk : k < 4) : ([(lmN b 0 : Int), lmN b 1, lmN b 2, lmN b 3] : List Int).getD k 0 = lmN b k := by
  match k, hk with
  | 0, _ => rfl
  | 1, _ => rfl
  | 2, _ => rfl
  | 3, _ => rfl
section
variable {h : Hp} {K : Value → Hp → Prop} {x y z : Int} {a b : Nat}
theorem LoadX.lim0 {l : List Int} {m o : Nat} {t : TypeId} {KK : Value → Prop} (hb : h m = some (ul l, t)) (j : Nat) (ho : o = j) (hj : j < l.length) (hk : KK (.int .u64 (l.getD j 0))) : LoadX false 1 h m o KK :=
  LoadX.lim (pre := []) (post := []) (by simpa using hb) j (by simpa using ho) hj hk
theorem StoreX.lim0 {l : List Int} {m o : Nat} {v : Int} {t : TypeId} {KK : Hp → Prop} (hb : h m = some (ul l, t)) (j : Nat) (ho : o = j) (hj : j < l.length) (hk : KK (hput h m (ul (l.set j v), t))) : StoreX h m o [.int .u64 v] KK :=
  StoreX.lim (pre := []) (post := []) (by simpa using hb) j (by simpa using ho) hj (by simpa using hk)

theorem byte_nat {b k t : Nat} (ht : t + 8 ≤ 64) : lmN b k / 2 ^ t &&& 255 = b / 2 ^ (64 * k + t) % 256 := by
  rw [show 255 = 2 ^ 8 - 1 from rfl, Nat.and_two_pow_sub_one_eq_mod, show 256 = 2 ^ 8 from rfl]
  apply Nat.eq_of_testBit_eq
  intro j
  rw [← Nat.shiftRight_eq_div_pow, ← Nat.shiftRight_eq_div_pow, Nat.testBit_mod_two_pow, Nat.testBit_mod_two_pow, Nat.testBit_shiftRight, Nat.testBit_shiftRight, lmN_bit]
  by_cases hj : j < 8
  · rw [decide_eq_true (show t + j < 64 by omega), show 64 * k + t + j = 64 * k + (t + j) by omega]; simp
  · rw [decide_eq_false hj]; simp
theorem tdiv_nat (a c : Nat) : ((a : Int)).tdiv c = ((a / c : Nat) : Int) := by
  rw [Int.tdiv_eq_ediv_of_nonneg (by omega)]; simp
theorem tmod_nat (a c : Nat) : ((a : Int)).tmod c = ((a % c : Nat) : Int) := by
  rw [Int.tmod_eq_emod_of_nonneg (by omega)]; simp
set_option maxRecDepth 100000 in
set_option maxHeartbeats 4000000 in
theorem eByte_ok (ha : (a : Int) < W) (hb : (b : Int) < W) (hk : K (.agg (wc (byteI a b)).toArray) h) : CallX Hval.prog 271 [.agg (wc a).toArray, .agg (wc b).toArray] h K := by
  rw [wcL b]
  refine CallX.of_xf T_ok Hval.func271 rfl (by kernel_rfl) (Nat.le_of_ble_eq_true rfl) ?_; conv => whnf
  refine BoxX.mk fun n1 hn1 => ?_; conv => whnf
  refine BoxX.on fun n2 hn2 hbd2 => ?_; conv => whnf
  refine BoxX.on fun n3 hn3 hbd3 => ?_; conv => whnf
  repeat' (first
    | (refine Ob.mk (by first | decide | exact ⟨rfl, rfl⟩ | ((repeat (refine (ldV_ne (by omega)).trans ?_)); exact (ldV_same _ _ _ _ _ _ _).trans rfl)) ?_; conv => whnf)
    | (refine BoxX.on fun n hn hbd => ?_; conv => whnf)
    | (refine LoadX.of _ (by (repeat (refine (ldV_ne (by omega)).trans ?_)); exact (ldV_same _ _ _ _ _ _ _).trans rfl) ?_; conv => whnf)
    | (refine eBelow_ok (a := a) ha (by omega) (by omega) ?_; conv => whnf)
    | (refine StoreX.same (Nat.le_of_ble_eq_true rfl) ?_; conv => whnf)
    | (refine StoreX.at (by (repeat (refine (hput_ne (by omega)).trans ?_)); exact hput_same ..) (Nat.le_of_ble_eq_true rfl) ?_; conv => whnf))
  by_cases hc : (a : Int) < 32
  · rw [decide_eq_true hc, if_pos (by omega)]
    repeat (first | (refine CondX.tt ?_; conv => whnf) | (refine CondX.ff ?_; conv => whnf))
    refine Ob.mk (by first | decide | omega) ?_; conv => whnf
    have e1 : IntKind.u64.wrap (3 - IntKind.u64.wrap ((a : Int).tdiv 8)) = ((3 - a / 8 : Nat) : Int) := by
      rw [wrap_u64', wrap_u64', show (8 : Int) = ((8 : Nat) : Int) from rfl, tdiv_nat]; omega
    have e2 : IntKind.u64.wrap (56 - IntKind.u64.wrap (8 * (a : Int).tmod 8)) = ((56 - 8 * (a % 8) : Nat) : Int) := by
      rw [wrap_u64', wrap_u64', show ((a : Int).tmod 8) = _ from tmod_nat a 8]; omega
    rw [e1]
    refine Ob.mk (by first | decide | omega) ?_; conv => whnf
    refine LoadX.lim0 (l := [(lmN b 0 : Int), lmN b 1, lmN b 2, lmN b 3]) (t := 75) (by rw [hput_ne (by omega), hput_same]) (3 - a / 8) (by simp [show y24.size = 1 from rfl]) (by show (3 - a / 8) < 4; omega) ?_; conv => whnf
    rw [limbsN_get b (by omega)]
    repeat (refine Ob.mk (by first | decide | omega) ?_; conv => whnf)
    rw [e2]
    repeat (refine Ob.mk (by first | decide | omega) ?_; conv => whnf)
    rw [shrN (by omega)]
    have hl := lmN_lt b (3 - a / 8)
    have hd := Nat.div_le_self (lmN b (3 - a / 8)) (2 ^ (56 - 8 * (a % 8)))
    have e3 : IntKind.u64.wrap ((BitVec.ofInt IntKind.u64.bits ((lmN b (3 - a / 8) / 2 ^ (56 - 8 * (a % 8)) : Nat) : Int) &&& BitVec.ofInt IntKind.u64.bits 255).toNat : Int) = byteI a b := by
      rw [show (255 : Int) = ((255 : Nat) : Int) from rfl, and64 (by omega) (by decide), byte_nat (by omega)]
      unfold byteI
      rw [if_pos hc, Int.toNat_natCast, show (64 * (3 - a / 8) + (56 - 8 * (a % 8))) = 8 * (31 - a) by omega, Nat.pow_mul]
      simp
    have b0 : 0 ≤ byteI a b ∧ byteI a b < 256 := by
      unfold byteI; split <;> omega
    rw [e3]
    repeat' (first
      | (refine Ob.mk (by first | decide | exact ⟨rfl, rfl⟩ | ((repeat (refine (ldV_ne (by omega)).trans ?_)); exact (ldV_same _ _ _ _ _ _ _).trans rfl)) ?_; conv => whnf)
      | (refine BoxX.on fun n hn hbd => ?_; conv => whnf)
      | (refine LoadX.of _ (by (repeat (refine (ldV_ne (by omega)).trans ?_)); exact (ldV_same _ _ _ _ _ _ _).trans rfl) ?_; conv => whnf)
      | (fail; conv => whnf)
      | (refine StoreX.same (Nat.le_of_ble_eq_true rfl) ?_; conv => whnf)
      | (refine StoreX.at (by (repeat (refine (hput_ne (by omega)).trans ?_)); exact hput_same ..) (Nat.le_of_ble_eq_true rfl) ?_; conv => whnf))
    refine RetX.drop (h' := h) (by intro b x hb; have hlt := hn1 b x hb; (repeat (rw [hput_ne (by omega)])); exact hb) ?_
    refine cast (congrArg (fun v => K v h) ?_) hk
    refine congrArg (fun l : List Value => Value.agg l.toArray) ?_
    refine (wc_eq (v := byteI a b) (l0 := byteI a b) (l1 := 0) (l2 := 0) (l3 := 0) (by unfold U; omega) (by unfold U; omega) (by unfold U; omega) (by unfold U; omega) (by unfold wv; omega)).symm.trans ?_
    rfl
  · rw [decide_eq_false hc]
    repeat (first | (refine CondX.tt ?_; conv => whnf) | (refine CondX.ff ?_; conv => whnf))
    repeat' (first
      | (refine Ob.mk (by first | decide | exact ⟨rfl, rfl⟩ | ((repeat (refine (ldV_ne (by omega)).trans ?_)); exact (ldV_same _ _ _ _ _ _ _).trans rfl)) ?_; conv => whnf)
      | (refine BoxX.on fun n hn hbd => ?_; conv => whnf)
      | (refine LoadX.of _ (by (repeat (refine (ldV_ne (by omega)).trans ?_)); exact (ldV_same _ _ _ _ _ _ _).trans rfl) ?_; conv => whnf)
      | (fail; conv => whnf)
      | (refine StoreX.same (Nat.le_of_ble_eq_true rfl) ?_; conv => whnf)
      | (refine StoreX.at (by (repeat (refine (hput_ne (by omega)).trans ?_)); exact hput_same ..) (Nat.le_of_ble_eq_true rfl) ?_; conv => whnf))
    refine RetX.drop (h' := h) (by intro b x hb; have hlt := hn1 b x hb; (repeat (rw [hput_ne (by omega)])); exact hb) ?_
    have e : byteI a b = 0 := by unfold byteI; rw [if_neg hc]
    rw [e] at hk
    exact hk
end
end Go.Proofs.YgvalwGreat.X
