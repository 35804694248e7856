import Derived.Test.YgvalwGreatE30
set_option linter.unusedVariables false
set_option linter.unusedSimpArgs false
namespace Go.Proofs.YgvalwGreat.X
open Go

def mixL (f g : Nat → Nat) (i : Nat) : List Int := [((if 0 < i then f 0 else g 0 : Nat) : Int), ((if 1 < i then f 1 else g 1 : Nat) : Int), ((if 2 < i then f 2 else g 2 : Nat) : Int), ((if 3 < i then f 3 else g 3 : Nat) : Int)]
theorem mixL_set {f g : Nat → Nat} {i : Nat} {v : Int} (hi : i < 4) (hv : v = f i) : (mixL f g i).set i v = mixL f g (i + 1) := by
  subst hv
  match i, hi with
  | 0, _ => rfl
  | 1, _ => rfl
  | 2, _ => rfl
  | 3, _ => rfl
theorem mixL_get {f g : Nat → Nat} {i k : Nat} (hi : k < 4) : (mixL f g i).getD k 0 = ((if k < i then f k else g k : Nat) : Int) := by
  match k, hi with
  | 0, _ => rfl
  | 1, _ => rfl
  | 2, _ => rfl
  | 3, _ => rfl
theorem mixL_start {f g : Nat → Nat} {q : Nat} (hz : ∀ k, k < q → f k = g k) : mixL f g q = [(g 0 : Int), g 1, g 2, g 3] := by
  unfold mixL
  have e : ∀ k, (if k < q then f k else g k) = g k := fun k => by split; exact hz k ‹_›; rfl
  rw [e, e, e, e]
/-- Sign extension of the low k bits to n bits. -/
def sxN (n k b : Nat) : Nat := 2 ^ k * (if b.testBit (k - 1) then 2 ^ (n - k) - 1 else 0) + b % 2 ^ k
theorem sxN_bit {n k b : Nat} (hk : k ≤ n) (j : Nat) : (sxN n k b).testBit j = if j < k then b.testBit j else (b.testBit (k - 1) && decide (j < n)) := by
  unfold sxN
  rw [Nat.testBit_two_pow_mul_add _ (Nat.mod_lt _ (Nat.pow_pos (by decide)))]
  split
  · rename_i h; rw [Nat.testBit_mod_two_pow, decide_eq_true h, Bool.true_and]
  · cases b.testBit (k - 1) with
    | true => rw [if_pos rfl, Nat.testBit_two_pow_sub_one, Bool.true_and]; congr 1; apply propext; omega
    | false => simp
theorem sxN_lt {n k b : Nat} (hk : k ≤ n) : sxN n k b < 2 ^ n := by
  apply Nat.lt_pow_two_of_testBit
  intro j hj
  rw [sxN_bit hk, if_neg (by omega), decide_eq_false (by omega), Bool.and_false]
theorem sxN_lo {b k i : Nat} (hk : k ≤ 256) (hi : 64 * i + 64 ≤ k) : lmN (sxN 256 k b) i = lmN b i := by
  apply Nat.eq_of_testBit_eq; intro j
  rw [lmN_bit, lmN_bit, sxN_bit hk]
  by_cases hj : j < 64
  · rw [if_pos (by omega)]
  · rw [decide_eq_false hj]; simp
theorem sxN_mid {b k i : Nat} (hk : k ≤ 256) (hi : 64 * i < k) (hi2 : k ≤ 64 * i + 64) : lmN (sxN 256 k b) i = sxN 64 (k - 64 * i) (lmN b i) := by
  apply Nat.eq_of_testBit_eq; intro j
  rw [lmN_bit, sxN_bit (by omega), sxN_bit (by omega), lmN_bit, lmN_bit]
  by_cases hj : j < 64
  · by_cases hk2 : j < k - 64 * i
    · rw [if_pos (by omega), if_pos hk2]
    · rw [if_neg (by omega), if_neg hk2, decide_eq_true (show k - 64 * i - 1 < 64 by omega), decide_eq_true (show 64 * i + j < 256 by omega), decide_eq_true hj, show 64 * i + (k - 64 * i - 1) = k - 1 by omega]; simp
  · rw [decide_eq_false hj, if_neg (by omega)]; simp
theorem sxN_hi {b k i : Nat} (hk : k ≤ 256) (hi : k ≤ 64 * i) (hi4 : i < 4) : lmN (sxN 256 k b) i = fill64 (b.testBit (k - 1)) := by
  apply Nat.eq_of_testBit_eq; intro j
  rw [lmN_bit, sxN_bit hk, fill64_bit]
  by_cases hj : j < 64
  · rw [if_neg (by omega), decide_eq_true hj, decide_eq_true (show 64 * i + j < 256 by omega)]; simp
  · rw [decide_eq_false hj]; simp
theorem bitI_nat (b i : Nat) : bitI b i = b.testBit i := by
  unfold bitI
  rw [Nat.testBit_eq_decide_div_mod_eq]
  congr 1
  apply propext
  have : (b : Int) / 2 ^ i % 2 = ((b / 2 ^ i % 2 : Nat) : Int) := by simp
  rw [this]
  omega
theorem sxN_val {a b : Nat} (ha : a < 31) (hb : b < 2 ^ 256) : ((sxN 256 (8 * a + 8) b : Nat) : Int) = sextI a b := by
  unfold sextI sxN
  have ha' : (a : Int) < 31 := by omega
  rw [if_pos ha', Int.toNat_natCast, bitI_nat, show 8 * a + 8 - 1 = 8 * a + 7 by omega, W_pow]
  cases b.testBit (8 * a + 7) with
  | true =>
    rw [if_pos rfl, if_pos rfl]
    have e : (2 : Nat) ^ 256 = 2 ^ (8 * a + 8) * 2 ^ (256 - (8 * a + 8)) := by rw [← Nat.pow_add, show 8 * a + 8 + (256 - (8 * a + 8)) = 256 by omega]
    have hp : 0 < 2 ^ (256 - (8 * a + 8)) := Nat.pow_pos (by decide)
    have e2 : ((2 ^ (256 - (8 * a + 8)) - 1 : Nat) : Int) = 2 ^ (256 - (8 * a + 8)) - 1 := by
      rw [Int.natCast_sub hp]; simp
    have e3 : (2 : Int) ^ 256 = 2 ^ (8 * a + 8) * 2 ^ (256 - (8 * a + 8)) := by exact_mod_cast e
    rw [Int.natCast_add, Int.natCast_mul, e2, e3, Int.natCast_emod, Int.natCast_pow]
    generalize (2 : Int) ^ (256 - (8 * a + 8)) = T
    have e4 : ((2 : Nat) : Int) ^ (8 * a + 8) = 2 ^ (8 * a + 8) := rfl
    rw [e4]
    generalize (2 : Int) ^ (8 * a + 8) = S
    grind
  | false =>
    rw [if_neg (by decide), if_neg (by decide)]
    simp
theorem sx64 {x s : Nat} (hx : x < 18446744073709551616) (hs : s < 64) : IntKind.u64.wrap ((IntKind.i64.wrap ((x * 2 ^ s % 18446744073709551616 : Nat) : Int)).fdiv (2 ^ min ((s : Int)).toNat IntKind.i64.bits)) = ((sxN 64 (64 - s) x : Nat) : Int) := by
  have hS : 0 < 2 ^ s := Nat.pow_pos (by decide)
  have hp : 2 ^ s * 2 ^ (64 - s) = 18446744073709551616 := by rw [← Nat.pow_add, show s + (64 - s) = 64 by omega]
  have hq : 2 ^ (64 - s) = 2 * 2 ^ (63 - s) := by rw [show 64 - s = (63 - s) + 1 by omega, Nat.pow_succ, Nat.mul_comm]
  have em : x * 2 ^ s % 18446744073709551616 = x % 2 ^ (64 - s) * 2 ^ s := by rw [← hp, Nat.mul_comm (2 ^ s), Nat.mul_mod_mul_right]
  have hr : x % 2 ^ (64 - s) < 2 ^ (64 - s) := Nat.mod_lt _ (Nat.pow_pos (by decide))
  rw [em, Int.toNat_natCast, show IntKind.i64.bits = 64 from rfl, Nat.min_eq_left (by omega), Int.fdiv_eq_ediv_of_nonneg _ (Int.le_of_lt (Int.pow_pos (by decide))), wrap_i64g, wrap_u64']
  unfold sxN
  have eb : x.testBit (64 - s - 1) = decide (2 ^ (63 - s) ≤ x % 2 ^ (64 - s)) := by
    have h1 : (x % 2 ^ (64 - s)).testBit (63 - s) = x.testBit (63 - s) := by rw [Nat.testBit_mod_two_pow, decide_eq_true (show 63 - s < 64 - s by omega), Bool.true_and]
    rw [show 64 - s - 1 = 63 - s by omega, ← h1, Nat.testBit_eq_decide_div_mod_eq]
    congr 1; apply propext
    generalize x % 2 ^ (64 - s) = y at *
    have hT : 0 < 2 ^ (63 - s) := Nat.pow_pos (by decide)
    constructor
    · intro h
      have : 0 < y / 2 ^ (63 - s) := by generalize y / 2 ^ (63 - s) = u at *; omega
      exact (Nat.div_pos_iff.1 this).2
    · intro h
      have h2 : y / 2 ^ (63 - s) < 2 := (Nat.div_lt_iff_lt_mul hT).2 (by rw [hq] at hr; exact hr)
      have : 0 < y / 2 ^ (63 - s) := Nat.div_pos h hT
      omega
  rw [eb, show 64 - (64 - s) = s by omega]
  have e2 : ((2 : Int) ^ s) = ((2 ^ s : Nat) : Int) := by simp
  rw [e2]
  have hT2 : 2 * (2 ^ s * 2 ^ (63 - s)) = 18446744073709551616 := by rw [← hp, hq]; exact Nat.mul_left_comm ..
  rw [hq] at *
  clear em eb e2
  generalize x % (2 * 2 ^ (63 - s)) = y at *
  generalize 2 ^ (63 - s) = T at *
  generalize 2 ^ s = S at *
  by_cases hy : T ≤ y
  · rw [decide_eq_true hy, if_pos rfl]
    obtain ⟨z, rfl⟩ : ∃ z, y = T + z := ⟨y - T, by omega⟩
    have hz : z < T := by omega
    have e1 : ((T + z) * S : Nat) = 9223372036854775808 + z * S := by
      rw [Nat.add_mul, Nat.mul_comm T]; omega
    have e3 : z * S < 9223372036854775808 := by
      have := Nat.mul_lt_mul_of_pos_right hz hS
      rw [Nat.mul_comm T] at this; omega
    have hST : S * T = 9223372036854775808 := by omega
    have hST' : (S : Int) * T = 9223372036854775808 := by rw [← Int.natCast_mul, hST]; rfl
    have e5 : ((z * S : Nat) : Int) - 9223372036854775808 = (S : Int) * ((z : Int) - T) := by
      rw [← hST', Int.natCast_mul]; grind
    rw [e1]
    have e4 : (((9223372036854775808 + z * S : Nat) : Int) + 9223372036854775808) % 18446744073709551616 - 9223372036854775808 = ((z * S : Nat) : Int) - 9223372036854775808 := by
      clear e1 e5
      generalize z * S = w at *
      omega
    rw [e4, e5, Int.mul_ediv_cancel_left _ (by omega)]
    have hT3 : T ≤ 9223372036854775808 := by
      have := Nat.le_mul_of_pos_left T hS; omega
    have e6 : 2 * T * (S - 1) + (T + z) = 18446744073709551616 - T + z := by
      obtain ⟨S', rfl⟩ : ∃ S', S = S' + 1 := ⟨S - 1, by omega⟩
      rw [Nat.add_sub_cancel]
      have : 2 * T * S' = 2 * (S' * T) := by rw [Nat.mul_assoc, Nat.mul_comm T]
      rw [this]
      rw [Nat.add_mul] at hT2
      omega
    rw [e6]
    omega
  · rw [decide_eq_false hy, if_neg (by decide), Nat.mul_zero, Nat.zero_add]
    have e3 : y * S < 9223372036854775808 := by
      have := Nat.mul_lt_mul_of_pos_right (show y < T by omega) hS
      rw [Nat.mul_comm T] at this; omega
    have hT3 : T ≤ 9223372036854775808 := by
      have := Nat.le_mul_of_pos_left T hS; omega
    have e4 : (((y * S : Nat) : Int) + 9223372036854775808) % 18446744073709551616 - 9223372036854775808 = ((y * S : Nat) : Int) := by
      generalize y * S = w at *
      omega
    rw [e4, Int.natCast_mul, Int.mul_ediv_cancel _ (by omega)]
    omega
theorem top64 {t : Nat} (ht : t < 18446744073709551616) : t.testBit 63 = decide (9223372036854775808 ≤ t) := by
  rw [Nat.testBit_eq_decide_div_mod_eq, show 2 ^ 63 = 9223372036854775808 from rfl]
  congr 1; apply propext; omega
theorem sar63 {t : Nat} (ht : t < 18446744073709551616) : IntKind.u64.wrap ((IntKind.i64.wrap (t : Int)).fdiv (2 ^ min (Int.toNat 63) IntKind.i64.bits)) = (fill64 (t.testBit 63) : Int) := by
  rw [show (2 : Int) ^ min (Int.toNat 63) IntKind.i64.bits = 9223372036854775808 by decide, Int.fdiv_eq_ediv_of_nonneg _ (by decide), wrap_i64g, wrap_u64', top64 ht]
  unfold fill64
  by_cases h63 : 9223372036854775808 ≤ t
  · rw [decide_eq_true h63, if_pos rfl]; omega
  · rw [decide_eq_false h63, if_neg (by decide)]; omega
section
variable {h : Hp} {K : Value → Hp → Prop} {x y z : Int} {a b : Nat} {f : Bool}

set_option maxRecDepth 100000 in
set_option maxHeartbeats 4000000 in
theorem eSignExtend_ok (ha : (a : Int) < W) (hb : (b : Int) < W) (hk : K (.agg (wc (sextI a b)).toArray) h) : CallX Hval.prog 261 [.agg (wc a).toArray, .agg (wc b).toArray] h K := by
  have hb' : b < 2 ^ 256 := by rw [W_pow] at hb; exact_mod_cast hb
  rw [wcL b]
  refine CallX.of_xf T_ok Hval.func261 rfl (by kernel_rfl) (Nat.le_of_ble_eq_true rfl) ?_; conv => whnf
  refine BoxX.mk fun n1 hn1 => ?_; conv => whnf
  refine BoxX.on fun n2 hn2 hbd2 => ?_; conv => whnf
  refine BoxX.on fun n3 hn3 hbd3 => ?_; conv => whnf
  repeat' (first
    | (refine Ob.mk (by first | decide | exact ⟨rfl, rfl⟩ | ((repeat (refine (ldV_ne (by omega)).trans ?_)); exact (ldV_same _ _ _ _ _ _ _).trans rfl)) ?_; conv => whnf)
    | (refine BoxX.on fun n hn hbd => ?_; conv => whnf)
    | (refine LoadX.of _ (by (repeat (refine (ldV_ne (by omega)).trans ?_)); exact (ldV_same _ _ _ _ _ _ _).trans rfl) ?_; conv => whnf)
    | (refine eBelow_ok (a := a) ha (by omega) (by omega) ?_; conv => whnf)
    | (refine StoreX.same (Nat.le_of_ble_eq_true rfl) ?_; conv => whnf)
    | (refine StoreX.at (by (repeat (refine (hput_ne (by omega)).trans ?_)); exact hput_same ..) (Nat.le_of_ble_eq_true rfl) ?_; conv => whnf))
  by_cases hc : (a : Int) < 31
  · rw [decide_eq_true hc, if_pos (by omega)]
    have hc' : a < 31 := by omega
    rw [← sxN_val hc' hb', wcL] at hk
    repeat (first | (refine CondX.tt ?_; conv => whnf) | (refine CondX.ff ?_; conv => whnf))
    obtain ⟨h1, hh1⟩ : ∃ h1 : Hp, h1 = hput (hput (hput h n1 ((wc a).toArray.toList, 75)) n2 ((ul [(lmN b 0 : Int), lmN b 1, lmN b 2, lmN b 3]).toArray.toList, 75)) n3 ((75, y75).snd.zero, 75) := ⟨_, rfl⟩
    erw [← hh1]
    have p2 : h1 n2 = some (ul [(lmN b 0 : Int), lmN b 1, lmN b 2, lmN b 3], 75) := by rw [hh1, hput_ne (by omega), hput_same]
    have p3 : h1 n3 = some (ul [0, 0, 0, 0], 75) := by rw [hh1, hput_same]; rfl
    have hold : ∀ b z, h b = some z → h1 b = some z ∧ b < n1 := fun b z hbz => by
      have := hn1 b z hbz
      rw [hh1, hput_ne (by omega), hput_ne (by omega), hput_ne (by omega)]; exact ⟨hbz, this⟩
    clear hh1
    obtain ⟨i, hi⟩ : ∃ i, i = (8 * a + 7) / 64 := ⟨_, rfl⟩
    obtain ⟨s, hs⟩ : ∃ s, s = 63 - (8 * a + 7) % 64 := ⟨_, rfl⟩
    have e1 : IntKind.u64.wrap ((IntKind.u64.wrap (IntKind.u64.wrap (8 * (a : Int)) + 7)).tdiv 64) = (i : Int) := by
      have : IntKind.u64.wrap (IntKind.u64.wrap (8 * (a : Int)) + 7) = ((8 * a + 7 : Nat) : Int) := by rw [wrap_u64', wrap_u64']; omega
      rw [this, show (64 : Int) = ((64 : Nat) : Int) from rfl, tdiv_nat, wrap_u64', hi]; omega
    have e2 : IntKind.u64.wrap (63 - (IntKind.u64.wrap (IntKind.u64.wrap (8 * (a : Int)) + 7)).tmod 64) = (s : Int) := by
      have : IntKind.u64.wrap (IntKind.u64.wrap (8 * (a : Int)) + 7) = ((8 * a + 7 : Nat) : Int) := by rw [wrap_u64', wrap_u64']; omega
      rw [this, show (64 : Int) = ((64 : Nat) : Int) from rfl, tmod_nat, wrap_u64', hs]; omega
    repeat (refine Ob.mk (by first | decide | omega) ?_; conv => whnf)
    rw [e1, e2]
    refine LoadX.lim0 p2 i (by simp [show y24.size = 1 from rfl]) (by show i < 4; omega) ?_; conv => whnf
    rw [limbsN_get b (by omega)]
    repeat (refine Ob.mk (by first | decide | omega) ?_; conv => whnf)
    have hl := lmN_lt b i
    rw [shlM (by omega), sx64 (by omega) (by omega)]
    have em := sxN_mid (b := b) (k := 8 * a + 8) (i := i) (by omega) (by omega) (by omega)
    have ek : 8 * a + 8 - 64 * i = 64 - s := by omega
    rw [ek] at em
    rw [← em]
    repeat (refine Ob.mk (by first | decide | omega) ?_; conv => whnf)
    refine StoreX.lim0 p2 i (by simp [show y24.size = 1 from rfl]) (by show i < 4; omega) ?_; conv => whnf
    rw [← mixL_start (f := lmN (sxN 256 (8 * a + 8) b)) (g := lmN b) (q := i) (fun k hk => sxN_lo (by omega) (by omega)), mixL_set (by omega) rfl]
    repeat (refine Ob.mk (by first | decide | omega) ?_; conv => whnf)
    refine LoadX.lim0 (hput_same ..) i (by simp [show y24.size = 1 from rfl]) (by show i < 4; omega) ?_; conv => whnf
    rw [mixL_get (by omega), if_pos (by omega)]
    have ht := lmN_lt (sxN 256 (8 * a + 8) b) i
    have ef : (lmN (sxN 256 (8 * a + 8) b) i).testBit 63 = b.testBit (8 * a + 8 - 1) := by
      rw [lmN_bit, sxN_bit (by omega)]
      by_cases hs0 : 64 * i + 63 < 8 * a + 8
      · rw [if_pos hs0, show 64 * i + 63 = 8 * a + 8 - 1 by omega]; simp
      · rw [if_neg hs0, decide_eq_true (show 64 * i + 63 < 256 by omega)]; simp
    repeat (refine Ob.mk (by first | decide | omega) ?_; conv => whnf)
    rw [sar63 (by omega), ef]
    refine LoopX.st T_ok Hval.func261 (σ := Nat) (fun i => [(3, .pointer (some ⟨n2, 0, none⟩)), (4, .pointer (some ⟨n3, 0, none⟩)), (9, .int .u64 (fill64 (b.testBit (8 * a + 8 - 1)))), (10, .int .u64 i)])
      (fun j h' => (i < j ∧ j ≤ 4) ∧ h' = hput h1 n2 (ul (mixL (lmN (sxN 256 (8 * a + 8) b)) (lmN b) j), 75)) (fun i => 4 - i) (i + 1)
      ⟨rfl, rfl, rfl, congrArg (Value.int .u64) (by rw [wrap_u64']; omega), trivial⟩ ⟨⟨by omega, by omega⟩, rfl⟩ ?_
    · rintro j ρ h' ⟨⟨hj0, hj4⟩, rfl⟩ ih
      conv => whnf
      refine CondX.decI (fun hlt => ?_) (fun hlt => ?_) <;> conv => whnf
      · have hlt : j < 4 := by omega
        repeat (refine Ob.mk (by first | decide | omega) ?_; conv => whnf)
        refine StoreX.lim0 (hput_same ..) j (by simp [show y24.size = 1 from rfl]) (by show j < 4; omega) ?_; conv => whnf
        rw [hput_hput, mixL_set hlt (by rw [sxN_hi (by omega) (by omega) hlt])]
        refine ih (j + 1) _ _ ⟨⟨by omega, by omega⟩, rfl⟩ (by omega) ⟨rfl, rfl, rfl, congrArg (Value.int .u64) (by rw [wrap_u64']; omega), trivial⟩
      · have hj : j = 4 := by omega
        subst hj
        refine LoadX.all (c := ul _) (hput_same ..) rfl ?_; conv => whnf
        refine Ob.mk ⟨rfl, rfl⟩ ?_; conv => whnf
        refine StoreX.at (c := ul [0, 0, 0, 0]) (t := 75) (by rw [hput_ne (by omega)]; exact p3) (Nat.le_of_ble_eq_true rfl) ?_; conv => whnf
        refine LoadX.of _ ((ldV_same _ _ _ _ _ _ _).trans rfl) ?_; conv => whnf
        refine RetX.drop (h' := h) (fun b z hbz => ?_) ?_
        · have := hold b z hbz
          rw [hput_ne (by omega), hput_ne (by omega)]; exact this.1
        exact hk
  · rw [decide_eq_false hc]
    repeat (first | (refine CondX.tt ?_; conv => whnf) | (refine CondX.ff ?_; conv => whnf))
    repeat' (first
      | (refine Ob.mk (by first | decide | exact ⟨rfl, rfl⟩ | ((repeat (refine (ldV_ne (by omega)).trans ?_)); exact (ldV_same _ _ _ _ _ _ _).trans rfl)) ?_; conv => whnf)
      | (refine BoxX.on fun n hn hbd => ?_; conv => whnf)
      | (refine LoadX.of _ (by (repeat (refine (ldV_ne (by omega)).trans ?_)); exact (ldV_same _ _ _ _ _ _ _).trans rfl) ?_; conv => whnf)
      | (fail; conv => whnf)
      | (refine StoreX.same (Nat.le_of_ble_eq_true rfl) ?_; conv => whnf)
      | (refine StoreX.at (by (repeat (refine (hput_ne (by omega)).trans ?_)); exact hput_same ..) (Nat.le_of_ble_eq_true rfl) ?_; conv => whnf))
    refine RetX.drop (h' := h) (by intro b x hb; have hlt := hn1 b x hb; (repeat (rw [hput_ne (by omega)])); exact hb) ?_
    have e : sextI a b = b := by unfold sextI; rw [if_neg hc]
    rw [e, wcL] at hk
    exact hk
end
end Go.Proofs.YgvalwGreat.X
