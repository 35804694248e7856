import Derived.Test.YgvalwGreatE29
set_option linter.unusedVariables false
set_option linter.unusedSimpArgs false
namespace Go.Proofs.YgvalwGreat.X
open Go

/-- A number with its upper half filled. -/
def filled (f : Bool) (b : Nat) : Nat := 2 ^ 256 * (if f then 2 ^ 256 - 1 else 0) + b
def fill64 (f : Bool) : Nat := if f then 18446744073709551615 else 0
set_option maxRecDepth 100000 in
theorem filled_bit {f : Bool} {b : Nat} (hb : b < 2 ^ 256) (j : Nat) : (filled f b).testBit j = if j < 256 then b.testBit j else (f && decide (j < 512)) := by
  unfold filled
  rw [Nat.testBit_two_pow_mul_add _ hb]
  split
  · rfl
  · cases f with
    | true => rw [if_pos rfl, Nat.testBit_two_pow_sub_one, Bool.true_and]; congr 1; apply propext; omega
    | false => simp
theorem fill64_bit (f : Bool) (j : Nat) : (fill64 f).testBit j = (f && decide (j < 64)) := by
  unfold fill64
  cases f with
  | true => rw [if_pos rfl, show 18446744073709551615 = 2 ^ 64 - 1 from rfl, Nat.testBit_two_pow_sub_one, Bool.true_and]
  | false => simp
theorem filled_lo {f : Bool} {b i : Nat} (hb : b < 2 ^ 256) (hi : i < 4) : lmN (filled f b) i = lmN b i := by
  apply Nat.eq_of_testBit_eq; intro j
  rw [lmN_bit, lmN_bit, filled_bit hb]
  by_cases hj : j < 64
  · rw [if_pos (by omega)]
  · rw [decide_eq_false hj]; simp
theorem filled_hi {f : Bool} {b i : Nat} (hb : b < 2 ^ 256) (h4 : 4 ≤ i) (hi : i < 8) : lmN (filled f b) i = fill64 f := by
  apply Nat.eq_of_testBit_eq; intro j
  rw [lmN_bit, fill64_bit, filled_bit hb]
  by_cases hj : j < 64
  · rw [if_neg (by omega), decide_eq_true hj, decide_eq_true (show 64 * i + j < 512 by omega)]; simp
  · rw [decide_eq_false hj]; simp
theorem filled_end {f : Bool} {b a k : Nat} (hb : b < 2 ^ 256) (hk : 4 ≤ k + a / 64) (hk4 : k < 4) (ha : a ≤ 256) : lmN (filled f b >>> a) k = fill64 f := by
  apply Nat.eq_of_testBit_eq; intro j
  rw [lmN_bit, fill64_bit, Nat.testBit_shiftRight, filled_bit hb]
  by_cases hj : j < 64
  · rw [if_neg (by omega), decide_eq_true hj, decide_eq_true (show a + (64 * k + j) < 512 by omega)]; simp
  · rw [decide_eq_false hj]; simp
theorem fillI {V S T b : Int} (hS : 0 < S) (hT : 0 < T) (hV : V = S * T) (hb0 : 0 ≤ b) (hb : b < V) : (V * (V - 1) + b) / S % V = V - 1 - (V - 1 - b) / S := by
  obtain ⟨c, hc⟩ : ∃ c, c = V - 1 - b := ⟨_, rfl⟩
  rw [← hc]
  have e := Int.mul_ediv_add_emod c S
  have r0 := Int.emod_nonneg c (b := S) (by omega)
  have r1 := Int.emod_lt_of_pos c hS
  have q0 := Int.ediv_nonneg (a := c) (b := S) (by omega) (by omega)
  have q1 := Int.ediv_le_self (a := c) S (by omega)
  generalize c / S = q at *
  generalize c % S = r at *
  have e1 : V * (V - 1) + b = (S - 1 - r) + S * (T * V - 1 - q) := by subst hV; grind
  rw [e1, Int.add_mul_ediv_left _ _ (by omega), Int.ediv_eq_zero_of_lt (by omega) (by omega), Int.zero_add]
  have e2 : T * V - 1 - q = (V - 1 - q) + V * (T - 1) := by grind
  rw [e2, Int.add_mul_emod_self_left, Int.emod_eq_of_lt (by omega) (by omega)]
theorem filled_val {f : Bool} {b a : Nat} (hb : b < 2 ^ 256) (ha : a ≤ 256) : ((filled f b >>> a % 2 ^ 256 : Nat) : Int) = if f = true then W - 1 - (W - 1 - b) / 2 ^ a else (b : Int) / 2 ^ a := by
  cases f with
  | false =>
    rw [if_neg (by decide)]
    unfold filled
    simp only [Bool.false_eq_true, if_false, Nat.mul_zero, Nat.zero_add, Nat.shiftRight_eq_div_pow]
    have := Nat.div_le_self b (2 ^ a)
    rw [Nat.mod_eq_of_lt (by omega)]
    simp
  | true =>
    rw [if_pos rfl, ← fillI (V := W) (S := 2 ^ a) (T := 2 ^ (256 - a)) (Int.pow_pos (by decide)) (Int.pow_pos (by decide)) (by rw [← Int.pow_add, show a + (256 - a) = 256 by omega, W_pow]) (by omega) (by rw [W_pow]; exact_mod_cast hb)]
    unfold filled
    rw [if_pos rfl, Nat.shiftRight_eq_div_pow, Int.natCast_emod, Int.natCast_ediv, Int.natCast_add, Int.natCast_mul, Int.natCast_pow]
    rfl
theorem upto_full {f : Nat → Nat} {z q : Nat} (hz : ∀ k, k < 4 → q ≤ k → f k = z) : upto f z q = [(f 0 : Int), f 1, f 2, f 3] := by
  unfold upto
  have e : ∀ k, k < 4 → (if k < q then f k else z) = f k := fun k hk => by split; rfl; exact (hz k hk (by omega)).symm
  rw [e 0 (by omega), e 1 (by omega), e 2 (by omega), e 3 (by omega)]
section
variable {h : Hp} {K : Value → Hp → Prop} {x y z : Int} {a b : Nat} {f : Bool}

set_option maxRecDepth 100000 in
set_option maxHeartbeats 4000000 in
theorem eDown_ok (ha : (a : Int) < W) (hb : (b : Int) < W) (hk : K (.agg (wc (if f = true then W - 1 - (W - 1 - b) / 2 ^ min a 256 else (b : Int) / 2 ^ min a 256)).toArray) h) : CallX Hval.prog 356 [.agg (wc a).toArray, .agg (wc b).toArray, .int .u64 (fill64 f)] h K := by
  have hb' : b < 2 ^ 256 := by rw [W_pow] at hb; exact_mod_cast hb
  rw [wcL b]
  refine CallX.of_xf T_ok Hval.func356 rfl (by kernel_rfl) (Nat.le_of_ble_eq_true rfl) ?_; conv => whnf
  refine BoxX.mk fun n1 hn1 => ?_; conv => whnf
  refine BoxX.on fun n2 hn2 hbd2 => ?_; conv => whnf
  refine BoxX.on fun n3 hn3 hbd3 => ?_; conv => whnf
  refine BoxX.on fun n4 hn4 hbd4 => ?_; conv => whnf
  repeat' (first
    | (refine Ob.mk (by first | decide | exact ⟨rfl, rfl⟩ | ((repeat (refine (ldV_ne (by omega)).trans ?_)); exact (ldV_same _ _ _ _ _ _ _).trans rfl)) ?_; conv => whnf)
    | (refine BoxX.on fun n hn hbd => ?_; conv => whnf)
    | (refine LoadX.of _ (by (repeat (refine (ldV_ne (by omega)).trans ?_)); exact (ldV_same _ _ _ _ _ _ _).trans rfl) ?_; conv => whnf)
    | (refine eBelow_ok (a := a) ha (by omega) (by omega) ?_; conv => whnf)
    | (refine StoreX.same (Nat.le_of_ble_eq_true rfl) ?_; conv => whnf)
    | (refine StoreX.at (by (repeat (refine (hput_ne (by omega)).trans ?_)); exact hput_same ..) (Nat.le_of_ble_eq_true rfl) ?_; conv => whnf))
  rw [← filled_val hb' (by omega), wcL, lmN_W _ _ (by omega), lmN_W _ _ (by omega), lmN_W _ _ (by omega), lmN_W _ _ (by omega)] at hk
  by_cases hc : (a : Int) < 256
  · rw [decide_eq_true hc, if_pos (by omega)]
    rw [show min a 256 = a by omega] at hk
    repeat (first | (refine CondX.tt ?_; conv => whnf) | (refine CondX.ff ?_; conv => whnf))
    refine Ob.mk (by first | decide | omega) ?_; conv => whnf
    have e1 : IntKind.u64.wrap ((a : Int).tdiv 64) = ((a / 64 : Nat) : Int) := by
      rw [wrap_u64', show (64 : Int) = ((64 : Nat) : Int) from rfl, tdiv_nat]; omega
    have e2 : (a : Int).tmod 64 = ((a % 64 : Nat) : Int) := tmod_nat a 64
    rw [e1]
    have c4 : setSeg (75, y75).snd.zero 0 #[Value.int .u64 (fill64 f), .int .u64 (fill64 f), .int .u64 (fill64 f), .int .u64 (fill64 f)].toList = ul [(fill64 f : Int), fill64 f, fill64 f, fill64 f] := rfl
    obtain ⟨h1, hh1⟩ : ∃ h1 : Hp, h1 = hput (hput (hput h n1 ((wc a).toArray.toList, 75)) n2 ((ul [(lmN b 0 : Int), lmN b 1, lmN b 2, lmN b 3]).toArray.toList, 75)) n3 ((75, y75).snd.zero, 75) := ⟨_, rfl⟩
    erw [c4, ← hh1]
    have p2 : h1 n2 = some (ul [(lmN b 0 : Int), lmN b 1, lmN b 2, lmN b 3], 75) := by rw [hh1, hput_ne (by omega), hput_same]
    have p3 : h1 n3 = some (ul [0, 0, 0, 0], 75) := by rw [hh1, hput_same]; rfl
    have hold : ∀ b z, h b = some z → h1 b = some z ∧ b < n1 := fun b z hbz => by
      have := hn1 b z hbz
      rw [hh1, hput_ne (by omega), hput_ne (by omega), hput_ne (by omega)]; exact ⟨hbz, this⟩
    clear hh1
    refine LoopX.st T_ok Hval.func356 (σ := Nat) (fun i => [(2, .int .u64 (fill64 f)), (4, .pointer (some ⟨n2, 0, none⟩)), (6, .pointer (some ⟨n3, 0, none⟩)), (7, .pointer (some ⟨n4, 0, none⟩)), (8, .int .u64 a), (10, .int .u64 i)])
      (fun i h' => (a / 64 ≤ i ∧ i ≤ 4) ∧ h' = hput h1 n4 (ul (upto (lmN (filled f b >>> a)) (fill64 f) (i - a / 64)), 75)) (fun i => 4 - i) (a / 64)
      ⟨rfl, rfl, rfl, rfl, rfl, rfl, trivial⟩ ⟨⟨by omega, by omega⟩, ?_⟩ ?_
    · rw [Nat.sub_self, upto_zero fun k hk => absurd hk (by omega)]
    · rintro i ρ h' ⟨⟨hi0, hi4⟩, rfl⟩ ih
      conv => whnf
      refine CondX.decI (fun hlt => ?_) (fun hlt => ?_) <;> conv => whnf
      · have hlt : i < 4 := by omega
        have p2' : ∀ z, hput h1 n4 z n2 = some (ul [(lmN b 0 : Int), lmN b 1, lmN b 2, lmN b 3], 75) := fun z => by rw [hput_ne (by omega)]; exact p2
        have e4 : IntKind.u64.wrap ((i : Int) - ((a / 64 : Nat) : Int)) = ((i - a / 64 : Nat) : Int) := by rw [wrap_u64']; omega
        have e6 : IntKind.u64.wrap (64 - ((a % 64 : Nat) : Int)) = ((64 - a % 64 : Nat) : Int) := by rw [wrap_u64']; omega
        have st := lmN_shr (b := filled f b) (s := a) (q := a / 64) (r := a % 64) (i := i - a / 64) (by omega) (by omega)
        rw [show i - a / 64 + a / 64 = i by omega, filled_lo hb' hlt] at st
        have hl := lmN_lt b i
        have hd := Nat.div_le_self (lmN b i) (2 ^ (a % 64))
        refine CondX.decI (fun hq => ?_) (fun hq => ?_) <;> conv => whnf
        · have e7 : IntKind.u64.wrap ((i : Int) + 1) = ((i + 1 : Nat) : Int) := by rw [wrap_u64']; omega
          rw [filled_lo hb' (by omega)] at st
          rw [e7]
          repeat (refine Ob.mk (by first | decide | omega) ?_; conv => whnf)
          refine LoadX.lim0 (p2' _) (i + 1) (by simp [show y24.size = 1 from rfl]) (by show i + 1 < 4; omega) ?_; conv => whnf
          rw [limbsN_get b (by omega)]
          repeat (refine Ob.mk (by first | decide | omega) ?_; conv => whnf)
          rw [e1, e4]
          refine LoadX.lim0 (p2' _) i (by simp [show y24.size = 1 from rfl]) (by show i < 4; omega) ?_; conv => whnf
          rw [limbsN_get b (by omega)]
          repeat (refine Ob.mk (by first | decide | omega) ?_; conv => whnf)
          rw [e2]
          repeat (refine Ob.mk (by first | decide | omega) ?_; conv => whnf)
          rw [shrN (by omega)]
          repeat (refine Ob.mk (by first | decide | omega) ?_; conv => whnf)
          rw [e6]
          repeat (refine Ob.mk (by first | decide | omega) ?_; conv => whnf)
          rw [shl64z (by omega), or64 (by omega) (Nat.mod_lt _ (by decide)), ← st]
          repeat (refine Ob.mk (by first | decide | omega) ?_; conv => whnf)
          refine StoreX.lim0 (hput_same ..) (i - a / 64) (by simp [show y24.size = 1 from rfl]) (by simp [upto]; omega) ?_; conv => whnf
          rw [hput_hput, upto_set (by omega) rfl]
          refine ih (i + 1) _ _ ⟨⟨by omega, by omega⟩, by rw [show i + 1 - a / 64 = i - a / 64 + 1 by omega]⟩ (by omega) ⟨rfl, rfl, rfl, rfl, rfl, congrArg (Value.int .u64) (by rw [wrap_u64']; omega), trivial⟩
        · rw [filled_hi hb' (by omega) (by omega)] at st
          repeat (refine Ob.mk (by first | decide | omega) ?_; conv => whnf)
          rw [e1, e4]
          refine LoadX.lim0 (p2' _) i (by simp [show y24.size = 1 from rfl]) (by show i < 4; omega) ?_; conv => whnf
          rw [limbsN_get b (by omega)]
          repeat (refine Ob.mk (by first | decide | omega) ?_; conv => whnf)
          rw [e2]
          repeat (refine Ob.mk (by first | decide | omega) ?_; conv => whnf)
          rw [shrN (by omega)]
          repeat (refine Ob.mk (by first | decide | omega) ?_; conv => whnf)
          rw [e6]
          repeat (refine Ob.mk (by first | decide | omega) ?_; conv => whnf)
          rw [shl64z (by omega), or64 (by omega) (Nat.mod_lt _ (by decide)), ← st]
          repeat (refine Ob.mk (by first | decide | omega) ?_; conv => whnf)
          refine StoreX.lim0 (hput_same ..) (i - a / 64) (by simp [show y24.size = 1 from rfl]) (by simp [upto]; omega) ?_; conv => whnf
          rw [hput_hput, upto_set (by omega) rfl]
          refine ih (i + 1) _ _ ⟨⟨by omega, by omega⟩, by rw [show i + 1 - a / 64 = i - a / 64 + 1 by omega]⟩ (by omega) ⟨rfl, rfl, rfl, rfl, rfl, congrArg (Value.int .u64) (by rw [wrap_u64']; omega), trivial⟩
      · have hi : i = 4 := by omega
        subst hi
        rw [upto_full fun k hk4 hk => filled_end hb' (by omega) hk4 (by omega)]
        refine LoadX.all (c := ul _) (hput_same ..) rfl ?_; conv => whnf
        refine Ob.mk ⟨rfl, rfl⟩ ?_; conv => whnf
        refine StoreX.at (c := ul [0, 0, 0, 0]) (t := 75) (by rw [hput_ne (by omega)]; exact p3) (Nat.le_of_ble_eq_true rfl) ?_; conv => whnf
        refine LoadX.of _ ((ldV_same _ _ _ _ _ _ _).trans rfl) ?_; conv => whnf
        refine RetX.drop (h' := h) (fun b z hbz => ?_) ?_
        · have := hold b z hbz
          rw [hput_ne (by omega), hput_ne (by omega)]; exact this.1
        exact hk
  · rw [decide_eq_false hc]
    rw [show min a 256 = 256 by omega] at hk
    repeat (first | (refine CondX.tt ?_; conv => whnf) | (refine CondX.ff ?_; conv => whnf))
    repeat' (first
      | (refine Ob.mk (by first | decide | exact ⟨rfl, rfl⟩ | ((repeat (refine (ldV_ne (by omega)).trans ?_)); exact (ldV_same _ _ _ _ _ _ _).trans rfl)) ?_; conv => whnf)
      | (refine BoxX.on fun n hn hbd => ?_; conv => whnf)
      | (refine LoadX.of _ (by (repeat (refine (ldV_ne (by omega)).trans ?_)); exact (ldV_same _ _ _ _ _ _ _).trans rfl) ?_; conv => whnf)
      | (fail; conv => whnf)
      | (refine StoreX.same (Nat.le_of_ble_eq_true rfl) ?_; conv => whnf)
      | (refine StoreX.at (by (repeat (refine (hput_ne (by omega)).trans ?_)); exact hput_same ..) (Nat.le_of_ble_eq_true rfl) ?_; conv => whnf))
    refine RetX.drop (h' := h) (by intro b x hb; have hlt := hn1 b x hb; (repeat (rw [hput_ne (by omega)])); exact hb) ?_
    have e := fun k (hk : k < 4) => filled_end (f := f) (b := b) (a := 256) (k := k) hb' (by omega) hk (by omega)
    rw [e 0 (by omega), e 1 (by omega), e 2 (by omega), e 3 (by omega)] at hk
    exact hk
set_option maxRecDepth 100000 in
set_option maxHeartbeats 4000000 in
theorem eShr_ok (ha : (a : Int) < W) (hb : (b : Int) < W) (hk : K (.agg (wc (shiftI 28 a b)).toArray) h) : CallX Hval.prog 273 [.agg (wc a).toArray, .agg (wc b).toArray] h K := by
  have e : shiftI 28 a b = (if false = true then W - 1 - (W - 1 - b) / 2 ^ min a 256 else (b : Int) / 2 ^ min a 256) := by
    unfold shiftI; rw [if_neg (by decide), if_neg (by simp), if_neg (by decide), show (min (a : Int) 256).toNat = min a 256 by omega]
  rw [e] at hk
  refine CallX.of_xf T_ok Hval.func273 rfl (by kernel_rfl) (Nat.le_of_ble_eq_true rfl) ?_; conv => whnf
  refine BoxX.mk fun n1 hn1 => ?_; conv => whnf
  repeat' (first
    | (refine Ob.mk (by first | decide | exact ⟨rfl, rfl⟩ | ((repeat (refine (ldV_ne (by omega)).trans ?_)); exact (ldV_same _ _ _ _ _ _ _).trans rfl)) ?_; conv => whnf)
    | (refine BoxX.on fun n hn hbd => ?_; conv => whnf)
    | (refine LoadX.of _ (by (repeat (refine (ldV_ne (by omega)).trans ?_)); exact (ldV_same _ _ _ _ _ _ _).trans rfl) ?_; conv => whnf)
    | (refine eDown_ok (a := a) (b := b) (f := false) ha hb ?_; conv => whnf)
    | (refine StoreX.same (Nat.le_of_ble_eq_true rfl) ?_; conv => whnf)
    | (refine StoreX.at (by (repeat (refine (hput_ne (by omega)).trans ?_)); exact hput_same ..) (Nat.le_of_ble_eq_true rfl) ?_; conv => whnf))
  refine RetX.drop (h' := h) (by intro b x hb; have hlt := hn1 b x hb; (repeat (rw [hput_ne (by omega)])); exact hb) ?_
  exact hk
set_option maxRecDepth 100000 in
set_option maxHeartbeats 4000000 in
theorem eSar_ok (ha : (a : Int) < W) (hb : (b : Int) < W) (hk : K (.agg (wc (shiftI 29 a b)).toArray) h) : CallX Hval.prog 274 [.agg (wc a).toArray, .agg (wc b).toArray] h K := by
  have e : shiftI 29 a b = (if bitI b 255 = true then W - 1 - (W - 1 - b) / 2 ^ min a 256 else (b : Int) / 2 ^ min a 256) := by
    unfold shiftI; rw [if_neg (by decide), show (min (a : Int) 256).toNat = min a 256 by omega]
    by_cases hb : bitI b 255 = true
    · rw [if_pos ⟨rfl, hb⟩, if_pos hb]
    · rw [if_neg (by simp [hb]), if_neg hb]
  rw [e] at hk
  refine CallX.of_xf T_ok Hval.func274 rfl (by kernel_rfl) (Nat.le_of_ble_eq_true rfl) ?_; conv => whnf
  refine BoxX.mk fun n1 hn1 => ?_; conv => whnf
  have e63 : IntKind.u64.wrap ((IntKind.i64.wrap ((b : Int) / 6277101735386680763835789423207666416102355444464034512896 % 18446744073709551616)).fdiv (2 ^ min (Int.toNat 63) IntKind.i64.bits)) = (fill64 (bitI b 255) : Int) := by
    rw [show (2 : Int) ^ min (Int.toNat 63) IntKind.i64.bits = 9223372036854775808 by decide, Int.fdiv_eq_ediv_of_nonneg _ (by decide), wrap_i64g, wrap_u64']
    have e : bitI b 255 = decide (9223372036854775808 ≤ (b : Int) / 6277101735386680763835789423207666416102355444464034512896 % 18446744073709551616) := by
      unfold bitI
      rw [show (2 : Int) ^ 255 = 57896044618658097711785492504343953926634992332820282019728792003956564819968 by decide, Bool.eq_iff_iff]
      simp only [decide_eq_true_eq]
      rw [W_val] at hb
      omega
    rw [e]
    have ht := U_mod ((b : Int) / 6277101735386680763835789423207666416102355444464034512896)
    generalize (b : Int) / 6277101735386680763835789423207666416102355444464034512896 % 18446744073709551616 = t at *
    unfold U at ht
    unfold fill64
    by_cases h63 : 9223372036854775808 ≤ t
    · rw [decide_eq_true h63, if_pos rfl]; omega
    · rw [decide_eq_false h63, if_neg (by decide)]; omega
  repeat' (first
    | (refine Ob.mk (by first | decide | exact ⟨rfl, rfl⟩ | ((repeat (refine (ldV_ne (by omega)).trans ?_)); exact (ldV_same _ _ _ _ _ _ _).trans rfl)) ?_; conv => whnf)
    | (refine BoxX.on fun n hn hbd => ?_; conv => whnf)
    | (refine LoadX.of _ (by (repeat (refine (ldV_ne (by omega)).trans ?_)); exact (ldV_same _ _ _ _ _ _ _).trans rfl) ?_; conv => whnf)
    | (fail; conv => whnf)
    | (refine StoreX.same (Nat.le_of_ble_eq_true rfl) ?_; conv => whnf)
    | (refine StoreX.at (by (repeat (refine (hput_ne (by omega)).trans ?_)); exact hput_same ..) (Nat.le_of_ble_eq_true rfl) ?_; conv => whnf))
  rw [e63]
  refine eDown_ok (a := a) (b := b) ha hb ?_; conv => whnf
  repeat' (first
    | (refine Ob.mk (by first | decide | exact ⟨rfl, rfl⟩ | ((repeat (refine (ldV_ne (by omega)).trans ?_)); exact (ldV_same _ _ _ _ _ _ _).trans rfl)) ?_; conv => whnf)
    | (refine BoxX.on fun n hn hbd => ?_; conv => whnf)
    | (refine LoadX.of _ (by (repeat (refine (ldV_ne (by omega)).trans ?_)); exact (ldV_same _ _ _ _ _ _ _).trans rfl) ?_; conv => whnf)
    | (fail; conv => whnf)
    | (refine StoreX.same (Nat.le_of_ble_eq_true rfl) ?_; conv => whnf)
    | (refine StoreX.at (by (repeat (refine (hput_ne (by omega)).trans ?_)); exact hput_same ..) (Nat.le_of_ble_eq_true rfl) ?_; conv => whnf))
  refine RetX.drop (h' := h) (by intro b x hb; have hlt := hn1 b x hb; (repeat (rw [hput_ne (by omega)])); exact hb) ?_
  exact hk
end
end Go.Proofs.YgvalwGreat.X
