import Derived.Test.YgvalwGreatE31
set_option linter.unusedVariables false
set_option linter.unusedSimpArgs false
namespace Go.Proofs.YgvalwGreat.X
open Go

theorem bit_nat {b k t : Nat} (ht : t < 64) : lmN b k / 2 ^ t &&& 1 = (b.testBit (64 * k + t)).toNat := by
  rw [Nat.and_one_is_mod, ← Nat.toNat_testBit, lmN_bit, decide_eq_true ht, Bool.true_and]
theorem mod_pow_bit (b i : Nat) : b % 2 ^ (i + 1) = b % 2 ^ i + 2 ^ i * (b.testBit i).toNat := by
  rw [Nat.mod_pow_succ, Nat.testBit_eq_decide_div_mod_eq]
  congr 2
  by_cases h : b / 2 ^ i % 2 = 1
  · rw [h]; rfl
  · rw [decide_eq_false h]; show _ = 0; omega
theorem topLimb {b n L : Nat} (hb : b < 2 ^ (64 * n)) (hn : 0 < n) (hL1 : 1 ≤ L) (h1 : 2 ^ (L - 1) ≤ lmN b (n - 1)) (h2 : lmN b (n - 1) < 2 ^ L) : b / 2 ^ (64 * (n - 1) + (L - 1)) = 1 := by
  have e : lmN b (n - 1) = b / 2 ^ (64 * (n - 1)) := by
    unfold lmN
    rw [Nat.shiftRight_eq_div_pow, Nat.mod_eq_of_lt]
    rw [Nat.div_lt_iff_lt_mul (Nat.pow_pos (by decide)), ← Nat.pow_add, show 64 + 64 * (n - 1) = 64 * n by omega]
    exact hb
  rw [Nat.pow_add, ← Nat.div_div_eq_div_mul, ← e]
  have hp : 2 ^ L = 2 * 2 ^ (L - 1) := by rw [show L = (L - 1) + 1 by omega, Nat.pow_succ, Nat.mul_comm]; rfl
  have hq : 0 < 2 ^ (L - 1) := Nat.pow_pos (by decide)
  have a1 := Nat.div_pos h1 hq
  have a2 : lmN b (n - 1) / 2 ^ (L - 1) < 2 := (Nat.div_lt_iff_lt_mul hq).2 (by rw [← hp]; exact h2)
  omega
theorem wrapLast {n L : Nat} (hn : 0 < n) (h4 : n ≤ 4) (hL : 1 ≤ L) (hL64 : L ≤ 64) : IntKind.i64.wrap (IntKind.i64.wrap (IntKind.i64.wrap (64 * IntKind.i64.wrap ((n - 1 : Nat) : Int)) + L) - 1) = ((64 * (n - 1) + (L - 1) : Nat) : Int) := by
  have e1 : IntKind.i64.wrap ((n - 1 : Nat) : Int) = ((n - 1 : Nat) : Int) := wrap_i64 (by omega) (by omega)
  rw [e1, wrap_i64 (x := 64 * ((n - 1 : Nat) : Int)) (by omega) (by omega), wrap_i64 (x := 64 * ((n - 1 : Nat) : Int) + L) (by omega) (by omega), wrap_i64 (by omega) (by omega)]
  omega
theorem powB {b n : Nat} (h : (b : Int) < 18446744073709551616 ^ n) : b < 2 ^ (64 * n) := by
  rw [Nat.pow_mul, show 2 ^ 64 = 18446744073709551616 from rfl]
  refine Int.ofNat_lt.1 ?_
  rw [Int.natCast_pow]
  exact h
theorem exp_step {x : Int} {b i : Nat} : (x ^ (b % 2 ^ i) % W) * (x ^ (2 ^ i) % W) % W = x ^ (b % 2 ^ i + 2 ^ i) % W := by
  rw [← Int.mul_emod, Int.pow_add]
theorem sq_step {x : Int} {i : Nat} : (x ^ (2 ^ i) % W) * (x ^ (2 ^ i) % W) % W = x ^ (2 ^ (i + 1)) % W := by
  rw [← Int.mul_emod, Nat.pow_succ, Nat.mul_two, Int.pow_add]
theorem pow_zero {x : Int} {b i m : Nat} (h0 : x ^ (2 ^ (i + 1)) % W = 0) (hi : i < m) (hbm : 2 ^ m ≤ b) : x ^ b % W = 0 := by
  have h1 : 2 ^ (i + 1) ≤ b := Nat.le_trans (Nat.pow_le_pow_right (by decide) (by omega)) hbm
  rw [show b = 2 ^ (i + 1) + (b - 2 ^ (i + 1)) by omega, Int.pow_add, Int.mul_emod, h0, Int.zero_mul, Int.zero_emod]
section
variable {h : Hp} {K : Value → Hp → Prop} {x y z : Int} {a b : Nat} {f : Bool}

theorem eIsZero' (hx0 : 0 ≤ x) (hx : x < W) (hk : K (.bool (decide (x = 0))) h) : CallX Hval.prog 232 [.agg (wc x).toArray] h K := by
  obtain ⟨a, rfl⟩ := Int.eq_ofNat_of_zero_le hx0
  refine eIsZero_ok hx ?_
  rw [show decide (a = 0) = decide ((a : Int) = 0) by congr 1; apply propext; omega]
  exact hk
set_option maxRecDepth 100000 in
set_option maxHeartbeats 4000000 in
theorem eExp_ok (hx0 : 0 ≤ x) (hx : x < W) (hb : (b : Int) < W) (hk : K (.agg (wc (powI x b)).toArray) h) : CallX Hval.prog 260 [.agg (wc x).toArray, .agg (wc b).toArray] h K := by
  have hb' : b < 2 ^ 256 := by rw [W_pow] at hb; exact_mod_cast hb
  have hW := W_pos
  have hbl := lmN_wv hb
  have hbv : lv [(lmN b 0 : Int), lmN b 1, lmN b 2, lmN b 3] = b := by rw [hbl]; simp only [lv]; unfold wv; omega
  have hLb : isL [(lmN b 0 : Int), lmN b 1, lmN b 2, lmN b 3] := by
    have l0 := lmN_lt b 0; have l1 := lmN_lt b 1; have l2 := lmN_lt b 2; have l3 := lmN_lt b 3
    intro d hd
    simp only [List.mem_cons, List.not_mem_nil, or_false] at hd
    rcases hd with rfl | rfl | rfl | rfl <;> (unfold U; omega)
  rw [wcL b]
  refine CallX.of_xf T_ok Hval.func260 rfl (by kernel_rfl) (Nat.le_of_ble_eq_true rfl) ?_; conv => whnf
  refine BoxX.mk fun n1 hn1 => ?_; conv => whnf
  refine BoxX.on fun n2 hn2 hbd2 => ?_; conv => whnf
  refine BoxX.on fun n3 hn3 hbd3 => ?_; conv => whnf
  refine BoxX.on fun n4 hn4 hbd4 => ?_; conv => whnf
  repeat' (first
    | (refine Ob.mk (by first | decide | exact ⟨rfl, rfl⟩ | ((repeat (refine (ldV_ne (by omega)).trans ?_)); exact (ldV_same _ _ _ _ _ _ _).trans rfl)) ?_; conv => whnf)
    | (refine BoxX.on fun n hn hbd => ?_; conv => whnf)
    | (refine LoadX.of _ (by (repeat (refine (ldV_ne (by omega)).trans ?_)); exact (ldV_same _ _ _ _ _ _ _).trans rfl) ?_; conv => whnf)
    | (fail; conv => whnf)
    | (refine StoreX.same (Nat.le_of_ble_eq_true rfl) ?_; conv => whnf)
    | (refine StoreX.at (by (repeat (refine (hput_ne (by omega)).trans ?_)); exact hput_same ..) (Nat.le_of_ble_eq_true rfl) ?_; conv => whnf))
  have c4 : setSeg (75, y75).snd.zero 0 #[Value.int .u64 1, .int .u64 0, .int .u64 0, .int .u64 0].toList = wc 1 := rfl
  refine eLimbs_ok (l := [(lmN b 0 : Int), lmN b 1, lmN b 2, lmN b 3]) rfl fun n hu => ?_; conv => whnf
  have hub := hu.bd hLb
  rw [hbv] at hub
  have hn4' : n ≤ 4 := hu.le
  refine CondX.eqI (fun h0 => ?_) (fun h0 => ?_) <;> conv => whnf
  · have hn0 : n = 0 := by omega
    subst hn0
    have hb0 : b = 0 := by have := hub.1; simp at this; omega
    subst hb0
    repeat' (first
      | (refine Ob.mk (by first | decide | exact ⟨rfl, rfl⟩ | ((repeat (refine (ldV_ne (by omega)).trans ?_)); exact (ldV_same _ _ _ _ _ _ _).trans rfl)) ?_; conv => whnf)
      | (refine BoxX.on fun n hn hbd => ?_; conv => whnf)
      | (refine LoadX.of _ (by (repeat (refine (ldV_ne (by omega)).trans ?_)); exact (ldV_same _ _ _ _ _ _ _).trans rfl) ?_; conv => whnf)
      | (fail; conv => whnf)
      | (refine StoreX.same (Nat.le_of_ble_eq_true rfl) ?_; conv => whnf)
      | (refine StoreX.at (by (repeat (refine (hput_ne (by omega)).trans ?_)); exact hput_same ..) (Nat.le_of_ble_eq_true rfl) ?_; conv => whnf))
    refine RetX.drop (h' := h) (by intro b x hb; have hlt := hn1 b x hb; (repeat (rw [hput_ne (by omega)])); exact hb) ?_
    have e : powI x ((0 : Nat) : Int) = 1 := by unfold powI; rw [W_val]; simp
    rw [e] at hk
    exact hk
  · have hn0 : 0 < n := by omega
    repeat (first | (refine CondX.tt ?_; conv => whnf) | (refine CondX.ff ?_; conv => whnf))
    have e1 : IntKind.u8.wrap ((n : Int) - 1) = ((n - 1 : Nat) : Int) := by rw [wrap_u8]; omega
    rw [e1]
    repeat (refine Ob.mk (by first | decide | omega) ?_; conv => whnf)
    obtain ⟨h1, hh1⟩ : ∃ h1 : Hp, h1 = hput (hput (hput h n1 ((wc x).toArray.toList, 75)) n2 ((ul [(lmN b 0 : Int), lmN b 1, lmN b 2, lmN b 3]).toArray.toList, 75)) n3 ((75, y75).snd.zero, 75) := ⟨_, rfl⟩
    erw [c4, ← hh1]
    have p1 : h1 n1 = some (wc x, 75) := by rw [hh1, hput_ne (by omega), hput_ne (by omega), hput_same]
    have p2 : h1 n2 = some (ul [(lmN b 0 : Int), lmN b 1, lmN b 2, lmN b 3], 75) := by rw [hh1, hput_ne (by omega), hput_same]
    have p3 : h1 n3 = some (wc 0, 75) := by rw [hh1, hput_same]; rfl
    have hold : ∀ b z, h b = some z → h1 b = some z ∧ b < n1 := fun b z hbz => by
      have := hn1 b z hbz
      rw [hh1, hput_ne (by omega), hput_ne (by omega), hput_ne (by omega)]; exact ⟨hbz, this⟩
    clear hh1
    refine LoadX.lim0 (by rw [hput_ne (by omega)]; exact p2) (n - 1) (by simp [show y24.size = 1 from rfl]) (by show n - 1 < 4; omega) ?_; conv => whnf
    rw [limbsN_get b (by omega)]
    have htop := hu.top hn0
    rw [limbsN_get b (by omega)] at htop
    have hlt := lmN_lt b (n - 1)
    refine nLen64_ok (by omega) fun L hL64 hL2 hL1 hL0 => ?_; conv => whnf
    obtain ⟨hLp, hL1⟩ := hL1 (by omega)
    have hbn : b < 2 ^ (64 * n) := by
      exact powB hub.1
    have htl := topLimb hbn hn0 hLp hL1 hL2
    obtain ⟨m, hm⟩ : ∃ m, m = 64 * (n - 1) + (L - 1) := ⟨_, rfl⟩
    rw [← hm] at htl
    have em : IntKind.i64.wrap (IntKind.i64.wrap (IntKind.i64.wrap (64 * IntKind.i64.wrap ((n - 1 : Nat) : Int)) + L) - 1) = (m : Int) := by
      rw [hm]; exact wrapLast hn0 hn4' hLp hL64
    have hbm : b = b % 2 ^ m + 2 ^ m := by
      have := Nat.div_add_mod b (2 ^ m)
      rw [htl, Nat.mul_one, Nat.add_comm] at this
      exact this.symm
    have hmb : 2 ^ m ≤ b := by rw [hbm]; exact Nat.le_add_left ..
    clear hub htl hL1 hL2 hL0 hbn
    have hex : ∀ k, 0 ≤ x ^ k % W ∧ x ^ k % W < W := fun k => ⟨Int.emod_nonneg _ (by omega), Int.emod_lt_of_pos _ hW⟩
    refine LoopX.st T_ok Hval.func260 (σ := Nat) (fun i => [(2, .pointer (some ⟨n1, 0, none⟩)), (3, .pointer (some ⟨n2, 0, none⟩)), (4, .pointer (some ⟨n3, 0, none⟩)), (5, .pointer (some ⟨n4, 0, none⟩)), (7, .int .i64 m), (8, .int .i64 i)])
      (fun i h' => i ≤ m ∧ h' = hput (hput h1 n1 (wc (x ^ (2 ^ i) % W), 75)) n4 (wc (x ^ (b % 2 ^ i) % W), 75)) (fun i => m - i) 0
      ⟨rfl, rfl, rfl, rfl, congrArg (Value.int .i64) em, rfl, trivial⟩ ⟨Nat.zero_le _, ?_⟩ ?_
    · have e2 : x ^ (2 ^ 0) % W = x := by rw [Nat.pow_zero, Int.pow_one]; exact Int.emod_eq_of_lt hx0 hx
      have e3 : x ^ (b % 2 ^ 0) % W = 1 := by rw [Nat.pow_zero, Nat.mod_one, Int.pow_zero, W_val]; rfl
      rw [e2, e3, hput_id p1]
    · rintro i ρ h' ⟨him, rfl⟩ ih
      have hi256 : m < 256 := by omega
      conv => whnf
      refine CondX.decI (fun hlt => ?_) (fun hlt => ?_) <;> conv => whnf
      · have hlt : i < m := by omega
        repeat (refine Ob.mk (by first | decide | omega) ?_; conv => whnf)
        have e5 : IntKind.i64.wrap ((i : Int).tdiv 64) = ((i / 64 : Nat) : Int) := by
          rw [show (64 : Int) = ((64 : Nat) : Int) from rfl, tdiv_nat, wrap_i64g]; omega
        have e6 : (i : Int).tmod 64 = ((i % 64 : Nat) : Int) := tmod_nat i 64
        rw [e5]
        repeat (refine Ob.mk (by first | decide | omega) ?_; conv => whnf)
        refine LoadX.lim0 (by rw [hput_ne (by omega), hput_ne (by omega)]; exact p2) (i / 64) (by rw [Int.toNat_natCast, Nat.zero_add, show (24, y24).snd.size = 1 from rfl, Nat.mul_one]) (by show i / 64 < 4; omega) ?_; conv => whnf
        rw [limbsN_get b (by omega)]
        repeat (refine Ob.mk (by first | decide | omega) ?_; conv => whnf)
        rw [e6]
        repeat (refine Ob.mk (by first | decide | omega) ?_; conv => whnf)
        have hl := lmN_lt b (i / 64)
        have hd := Nat.div_le_self (lmN b (i / 64)) (2 ^ (i % 64))
        rw [shrN (by omega), show (1 : Int) = ((1 : Nat) : Int) from rfl, and64 (by omega) (by decide), bit_nat (by omega), show 64 * (i / 64) + i % 64 = i by omega]
        have hmp := mod_pow_bit b i
        have hfin : ∀ o : Int, o = x ^ (b % 2 ^ (i + 1)) % W → ∀ ρ', agrees ρ' [(2, .pointer (some ⟨n1, 0, none⟩)), (3, .pointer (some ⟨n2, 0, none⟩)), (4, .pointer (some ⟨n3, 0, none⟩)), (5, .pointer (some ⟨n4, 0, none⟩)), (7, .int .i64 m), (8, .int .i64 ((i + 1 : Nat) : Int))] → True := fun _ _ _ _ => trivial
        cases hbit : b.testBit i with
        | true =>
          rw [hbit] at hmp
          have hmp : b % 2 ^ (i + 1) = b % 2 ^ i + 2 ^ i := by rw [hmp]; show _ + 2 ^ i * 1 = _; rw [Nat.mul_one]
          repeat (first | (refine CondX.tt ?_; conv => whnf) | (refine CondX.ff ?_; conv => whnf))
          repeat' (first
            | (refine Ob.mk (by first | decide | exact ⟨rfl, rfl⟩ | ((repeat (refine (ldV_ne (by omega)).trans ?_)); exact (ldV_same _ _ _ _ _ _ _).trans rfl)) ?_; conv => whnf)
            | (refine BoxX.on fun n hn hbd => ?_; conv => whnf)
            | (refine LoadX.of _ (by (repeat (refine (ldV_ne (by omega)).trans ?_)); exact (ldV_same _ _ _ _ _ _ _).trans rfl) ?_; conv => whnf)
            | (refine eMul_ok (hex _).1 (hex _).2 (hex _).1 (hex _).2 ?_; conv => whnf)
            | (refine StoreX.same (Nat.le_of_ble_eq_true rfl) ?_; conv => whnf)
            | (refine StoreX.at (by (repeat (refine (hput_ne (by omega)).trans ?_)); exact hput_same ..) (Nat.le_of_ble_eq_true rfl) ?_; conv => whnf))
          rw [exp_step, ← hmp]
          repeat' (first
            | (refine Ob.mk (by first | decide | exact ⟨rfl, rfl⟩ | ((repeat (refine (ldV_ne (by omega)).trans ?_)); exact (ldV_same _ _ _ _ _ _ _).trans rfl)) ?_; conv => whnf)
            | (refine BoxX.on fun n hn hbd => ?_; conv => whnf)
            | (refine LoadX.of _ (by (repeat (refine (ldV_ne (by omega)).trans ?_)); exact (ldV_same _ _ _ _ _ _ _).trans rfl) ?_; conv => whnf)
            | ((first | refine eSquare_ok (hex _).1 (hex _).2 ?_ | (rw [sq_step]; fail)); conv => whnf)
            | (refine StoreX.same (Nat.le_of_ble_eq_true rfl) ?_; conv => whnf)
            | (refine StoreX.at (by (repeat (refine (hput_ne (by omega)).trans ?_)); exact hput_same ..) (Nat.le_of_ble_eq_true rfl) ?_; conv => whnf))
          rw [sq_step]
          refine eIsZero' (x := x ^ (2 ^ (i + 1)) % W) (hex _).1 (hex _).2 ?_; conv => whnf
          refine CondX.decI (fun hz => ?_) (fun hz => ?_) <;> conv => whnf
          · have e : powI x b = 0 := by unfold powI; rw [Int.toNat_natCast]; exact pow_zero hz hlt hmb
            rw [e] at hk
            refine Ob.mk (by first | decide | omega) ?_; conv => whnf
            refine StoreX.at (c := wc 0) (t := 75) (by rw [hput_ne (by omega), hput_ne (by omega), hput_ne (by omega)]; exact p3) (Nat.le_of_ble_eq_true rfl) ?_; conv => whnf
            refine LoadX.of _ ((ldV_same _ _ _ _ _ _ _).trans rfl) ?_; conv => whnf
            refine RetX.drop (h' := h) (fun b z hbz => ?_) ?_
            · have := hold b z hbz
              rw [hput_ne (by omega), hput_ne (by omega), hput_ne (by omega), hput_ne (by omega)]; exact this.1
            exact hk
          · refine ih (i + 1) _ _ ⟨by omega, ?_⟩ (by omega) ⟨rfl, rfl, rfl, rfl, rfl, congrArg (Value.int .i64) (wsucc (by omega)), trivial⟩
            rw [hput_comm (show n1 ≠ n4 by omega), hput_hput]
            rfl
        | false =>
          rw [hbit] at hmp
          have hmp : b % 2 ^ (i + 1) = b % 2 ^ i := by rw [hmp]; rfl
          rw [← hmp]
          repeat (first | (refine CondX.tt ?_; conv => whnf) | (refine CondX.ff ?_; conv => whnf))
          repeat' (first
            | (refine Ob.mk (by first | decide | exact ⟨rfl, rfl⟩ | ((repeat (refine (ldV_ne (by omega)).trans ?_)); exact (ldV_same _ _ _ _ _ _ _).trans rfl)) ?_; conv => whnf)
            | (refine BoxX.on fun n hn hbd => ?_; conv => whnf)
            | (refine LoadX.of _ (by (repeat (refine (ldV_ne (by omega)).trans ?_)); exact (ldV_same _ _ _ _ _ _ _).trans rfl) ?_; conv => whnf)
            | ((first | refine eSquare_ok (hex _).1 (hex _).2 ?_ | (rw [sq_step]; fail)); conv => whnf)
            | (refine StoreX.same (Nat.le_of_ble_eq_true rfl) ?_; conv => whnf)
            | (refine StoreX.at (by (repeat (refine (hput_ne (by omega)).trans ?_)); exact hput_same ..) (Nat.le_of_ble_eq_true rfl) ?_; conv => whnf))
          rw [sq_step]
          refine eIsZero' (x := x ^ (2 ^ (i + 1)) % W) (hex _).1 (hex _).2 ?_; conv => whnf
          refine CondX.decI (fun hz => ?_) (fun hz => ?_) <;> conv => whnf
          · have e : powI x b = 0 := by unfold powI; rw [Int.toNat_natCast]; exact pow_zero hz hlt hmb
            rw [e] at hk
            refine Ob.mk (by first | decide | omega) ?_; conv => whnf
            refine StoreX.at (c := wc 0) (t := 75) (by rw [hput_ne (by omega), hput_ne (by omega), hput_ne (by omega)]; exact p3) (Nat.le_of_ble_eq_true rfl) ?_; conv => whnf
            refine LoadX.of _ ((ldV_same _ _ _ _ _ _ _).trans rfl) ?_; conv => whnf
            refine RetX.drop (h' := h) (fun b z hbz => ?_) ?_
            · have := hold b z hbz
              rw [hput_ne (by omega), hput_ne (by omega), hput_ne (by omega), hput_ne (by omega)]; exact this.1
            exact hk
          · refine ih (i + 1) _ _ ⟨by omega, ?_⟩ (by omega) ⟨rfl, rfl, rfl, rfl, rfl, congrArg (Value.int .i64) (wsucc (by omega)), trivial⟩
            rw [hput_comm (show n1 ≠ n4 by omega), hput_hput]
            rfl
      · have hi : i = m := by omega
        subst hi
        repeat' (first
          | (refine Ob.mk (by first | decide | exact ⟨rfl, rfl⟩ | ((repeat (refine (ldV_ne (by omega)).trans ?_)); exact (ldV_same _ _ _ _ _ _ _).trans rfl)) ?_; conv => whnf)
          | (refine BoxX.on fun n hn hbd => ?_; conv => whnf)
          | (refine LoadX.of _ (by (repeat (refine (ldV_ne (by omega)).trans ?_)); exact (ldV_same _ _ _ _ _ _ _).trans rfl) ?_; conv => whnf)
          | (refine eMul_ok (hex _).1 (hex _).2 (hex _).1 (hex _).2 ?_; conv => whnf)
          | (refine StoreX.same (Nat.le_of_ble_eq_true rfl) ?_; conv => whnf)
          | (refine StoreX.at (by (repeat (refine (hput_ne (by omega)).trans ?_)); exact hput_same ..) (Nat.le_of_ble_eq_true rfl) ?_; conv => whnf))
        rw [exp_step, ← hbm]
        refine StoreX.at (c := wc 0) (t := 75) (by rw [hput_ne (by omega), hput_ne (by omega)]; exact p3) (Nat.le_of_ble_eq_true rfl) ?_; conv => whnf
        refine LoadX.of _ ((ldV_same _ _ _ _ _ _ _).trans rfl) ?_; conv => whnf
        refine RetX.drop (h' := h) (fun b z hbz => ?_) ?_
        · have := hold b z hbz
          rw [hput_ne (by omega), hput_ne (by omega), hput_ne (by omega)]; exact this.1
        exact hk
end
end Go.Proofs.YgvalwGreat.X
