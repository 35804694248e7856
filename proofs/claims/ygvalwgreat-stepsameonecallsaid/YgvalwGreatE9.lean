import Derived.Test.YgvalwGreatE8
set_option linter.unusedVariables false
set_option linter.unusedSimpArgs false
namespace Go.Proofs.YgvalwGreat.X
open Go

def tabN (n : Nat) : Nat := if n = 0 then 0 else if n < 2 then 1 else if n < 4 then 2 else if n < 8 then 3 else if n < 16 then 4 else if n < 32 then 5 else if n < 64 then 6 else if n < 128 then 7 else 8
theorem tabN_ok {n : Nat} (h : n < 256) : tabN n ≤ 8 ∧ n < 2 ^ tabN n ∧ (n ≠ 0 → 1 ≤ tabN n ∧ 2 ^ (tabN n - 1) ≤ n) := by
  have key : ∀ k : Fin 256, tabN k.val ≤ 8 ∧ k.val < 2 ^ tabN k.val ∧ (k.val ≠ 0 → 1 ≤ tabN k.val ∧ 2 ^ (tabN k.val - 1) ≤ k.val) := by decide +kernel
  exact key ⟨n, h⟩
section
variable {h : Hp} {K : Value → Hp → Prop} {a b : Nat} {x y u v : Int}

set_option maxRecDepth 100000 in
set_option maxHeartbeats 4000000 in
theorem mulAdd_ok (hx : U x) (hy : U y) (hu : U u) (hv : U v) (hk : ∀ lo hi : Int, U lo → U hi → lo + 18446744073709551616 * hi = x * y + u + v → K (.tuple #[.int .u64 lo, .int .u64 hi]) h) :
    CallX Hval.prog 377 [.int .u64 x, .int .u64 y, .int .u64 u, .int .u64 v] h K := by
  obtain ⟨hx, hx'⟩ := hx; obtain ⟨hy, hy'⟩ := hy; obtain ⟨hu, hu'⟩ := hu; obtain ⟨hv, hv'⟩ := hv
  refine CallX.of_xf T_ok Hval.func377 rfl (by kernel_rfl) (Nat.le_of_ble_eq_true rfl) ?_; conv => whnf
  refine mul64_rel hx hx' hy hy' fun p q hp hp' hq hq' e1 => ?_; conv => whnf
  refine add64_rel hq hq' hu hu' (by omega) (by omega) fun s d hs hs' hd hd' e2 => ?_; conv => whnf
  refine add64_rel hs hs' hv hv' (by omega) (by omega) fun s' d' hs2 hs2' hd2 hd2' e3 => ?_; conv => whnf
  have hxy : x * y ≤ 18446744073709551615 * 18446744073709551615 := Int.mul_le_mul (by omega) (by omega) hy (by omega)
  refine RetX.same (hk _ _ ⟨hs2, hs2'⟩ (by rw [wrap_u64', wrap_u64']; exact U_mod _) ?_)
  rw [wrap_u64', wrap_u64', Int.emod_add_emod]
  generalize x * y = z at *
  omega
theorem tab_key {L : ByteArray} {n : Nat} {v : UInt8} (hn : n < 256) (hv : L[n]? = some v) (hL : ∀ k : Fin 256, L[k.val]? = some (UInt8.ofNat (tabN k.val))) : v.toNat = tabN n := by
  have h1 := hL ⟨n, hn⟩
  rw [h1] at hv
  have := Option.some.inj hv
  rw [← this]
  have := (tabN_ok hn).1
  show tabN n % 2 ^ 8 = tabN n
  omega
theorem wrap_i64g (x : Int) : IntKind.i64.wrap x = (x + 9223372036854775808) % 18446744073709551616 - 9223372036854775808 := by
  by_cases h : x % 18446744073709551616 < 9223372036854775808
  · simp [IntKind.wrap, IntKind.signed, IntKind.bits]; omega
  · simp [IntKind.wrap, IntKind.signed, IntKind.bits]; omega
set_option maxRecDepth 100000 in
set_option maxHeartbeats 4000000 in
theorem bLen64_ok (ha : a < 18446744073709551616) (hk : ∀ L : Nat, L ≤ 64 → a < 2 ^ L → (a ≠ 0 → 1 ≤ L ∧ 2 ^ (L - 1) ≤ a) → (a = 0 → L = 0) → K (.int .i64 L) h) : CallX Hval.prog 335 [.int .u64 a] h K := by
  have key : ∀ s n : Nat, s ≤ 56 → n = a / 2 ^ s → n < 256 → (s ≠ 0 → n ≠ 0) → K (.int .i64 ((s + tabN n : Nat) : Int)) h := fun s n hs hn hn2 h0 => by
    have ht := tabN_ok hn2
    have hp : 0 < 2 ^ s := Nat.pow_pos (by decide)
    refine hk (s + tabN n) (by omega) ?_ (fun hz => ?_) fun hz => ?_
    · rw [Nat.pow_add, Nat.mul_comm]
      exact (Nat.div_lt_iff_lt_mul hp).1 (by rw [← hn]; exact ht.2.1)
    · by_cases hn0 : n = 0
      · have hs0 : s = 0 := Decidable.byContradiction fun hh => h0 hh hn0
        subst hs0
        rw [Nat.pow_zero, Nat.div_one] at hn
        omega
      · obtain ⟨q1, q2⟩ := ht.2.2 hn0
        refine ⟨by omega, ?_⟩
        rw [show s + tabN n - 1 = (tabN n - 1) + s by omega, Nat.pow_add]
        exact (Nat.le_div_iff_mul_le hp).1 (by rw [← hn]; exact q2)
    · subst hz
      rw [Nat.zero_div] at hn
      have hs0 : s = 0 := Decidable.byContradiction fun hh => h0 hh hn
      subst hs0 hn
      rfl
  clear hk
  refine CallX.of_xf T_ok Hval.func335 rfl (by kernel_rfl) (Nat.le_of_ble_eq_true rfl) ?_; conv => whnf
  have s32 : ((a : Nat) : Int).fdiv (2 ^ min (Int.toNat 32) IntKind.u64.bits) = ((a / 4294967296 : Nat) : Int) := by
    have := shr64 (a := a) (s := 32) (by decide)
    rw [Nat.shiftRight_eq_div_pow] at this
    exact this
  have s16 : ∀ n : Nat, ((n : Nat) : Int).fdiv (2 ^ min (Int.toNat 16) IntKind.u64.bits) = ((n / 65536 : Nat) : Int) := fun n => by
    have := shr64 (a := n) (s := 16) (by decide)
    rw [Nat.shiftRight_eq_div_pow] at this
    exact this
  have s8 : ∀ n : Nat, ((n : Nat) : Int).fdiv (2 ^ min (Int.toNat 8) IntKind.u64.bits) = ((n / 256 : Nat) : Int) := fun n => by
    have := shr64 (a := n) (s := 8) (by decide)
    rw [Nat.shiftRight_eq_div_pow] at this
    exact this
  refine CondX.decI (fun h1 => ?_) (fun h1 => ?_) <;> conv => whnf
  · repeat (refine Ob.mk (by first | decide | omega) ?_; conv => whnf)
    rw [s32]
    refine CondX.decI (fun h2 => ?_) (fun h2 => ?_) <;> conv => whnf
    · repeat (refine Ob.mk (by first | decide | omega) ?_; conv => whnf)
      rw [s16]
      refine CondX.decI (fun h3 => ?_) (fun h3 => ?_) <;> conv => whnf
      · repeat (refine Ob.mk (by first | decide | omega) ?_; conv => whnf)
        rw [s8]
        have hn256 : (a / 4294967296 / 65536 / 256) < 256 := by omega
        have e8 : IntKind.u8.wrap (((a / 4294967296 / 65536 / 256 : Nat)) : Int) = ((a / 4294967296 / 65536 / 256 : Nat) : Int) := by rw [wrap_u8]; omega
        rw [e8]
        refine Ob.mk ⟨by omega, Int.ofNat_lt.2 (Nat.lt_of_lt_of_eq hn256 (by rfl))⟩ ?_
        intro v hv
        rw [Int.toNat_natCast] at hv
        have hvt := tab_key hn256 hv (by decide +kernel)
        clear hv
        conv => whnf
        rw [hvt]
        have ht := (tabN_ok hn256).1
        have hdv : (a / 4294967296 / 65536 / 256) = a / 2 ^ 56 := by first | rfl | (rw [Nat.div_div_eq_div_mul, Nat.div_div_eq_div_mul]) | (rw [Nat.div_div_eq_div_mul]) | (rw [Nat.pow_zero, Nat.div_one])
        have hnz : 56 ≠ 0 → (a / 4294967296 / 65536 / 256) ≠ 0 := by clear key s32 s16 s8 hvt e8 hdv; omega
        have hfin := key 56 (a / 4294967296 / 65536 / 256) (by decide) hdv hn256 hnz
        clear hdv hnz key s32 s16 s8 e8 h1 h2 h3 hvt
        generalize tabN (a / 4294967296 / 65536 / 256) = t at ht hfin ⊢
        refine RetX.same (cast (congrArg (fun v => K (.int .i64 v) h) ?_) hfin)
        simp only [wrap_i64g]
        omega
      · have hn256 : (a / 4294967296 / 65536) < 256 := by omega
        have e8 : IntKind.u8.wrap (((a / 4294967296 / 65536 : Nat)) : Int) = ((a / 4294967296 / 65536 : Nat) : Int) := by rw [wrap_u8]; omega
        rw [e8]
        refine Ob.mk ⟨by omega, Int.ofNat_lt.2 (Nat.lt_of_lt_of_eq hn256 (by rfl))⟩ ?_
        intro v hv
        rw [Int.toNat_natCast] at hv
        have hvt := tab_key hn256 hv (by decide +kernel)
        clear hv
        conv => whnf
        rw [hvt]
        have ht := (tabN_ok hn256).1
        have hdv : (a / 4294967296 / 65536) = a / 2 ^ 48 := by first | rfl | (rw [Nat.div_div_eq_div_mul, Nat.div_div_eq_div_mul]) | (rw [Nat.div_div_eq_div_mul]) | (rw [Nat.pow_zero, Nat.div_one])
        have hnz : 48 ≠ 0 → (a / 4294967296 / 65536) ≠ 0 := by clear key s32 s16 s8 hvt e8 hdv; omega
        have hfin := key 48 (a / 4294967296 / 65536) (by decide) hdv hn256 hnz
        clear hdv hnz key s32 s16 s8 e8 h1 h2 h3 hvt
        generalize tabN (a / 4294967296 / 65536) = t at ht hfin ⊢
        refine RetX.same (cast (congrArg (fun v => K (.int .i64 v) h) ?_) hfin)
        simp only [wrap_i64g]
        omega
    · refine CondX.decI (fun h3 => ?_) (fun h3 => ?_) <;> conv => whnf
      · repeat (refine Ob.mk (by first | decide | omega) ?_; conv => whnf)
        rw [s8]
        have hn256 : (a / 4294967296 / 256) < 256 := by omega
        have e8 : IntKind.u8.wrap (((a / 4294967296 / 256 : Nat)) : Int) = ((a / 4294967296 / 256 : Nat) : Int) := by rw [wrap_u8]; omega
        rw [e8]
        refine Ob.mk ⟨by omega, Int.ofNat_lt.2 (Nat.lt_of_lt_of_eq hn256 (by rfl))⟩ ?_
        intro v hv
        rw [Int.toNat_natCast] at hv
        have hvt := tab_key hn256 hv (by decide +kernel)
        clear hv
        conv => whnf
        rw [hvt]
        have ht := (tabN_ok hn256).1
        have hdv : (a / 4294967296 / 256) = a / 2 ^ 40 := by first | rfl | (rw [Nat.div_div_eq_div_mul, Nat.div_div_eq_div_mul]) | (rw [Nat.div_div_eq_div_mul]) | (rw [Nat.pow_zero, Nat.div_one])
        have hnz : 40 ≠ 0 → (a / 4294967296 / 256) ≠ 0 := by clear key s32 s16 s8 hvt e8 hdv; omega
        have hfin := key 40 (a / 4294967296 / 256) (by decide) hdv hn256 hnz
        clear hdv hnz key s32 s16 s8 e8 h1 h2 h3 hvt
        generalize tabN (a / 4294967296 / 256) = t at ht hfin ⊢
        refine RetX.same (cast (congrArg (fun v => K (.int .i64 v) h) ?_) hfin)
        simp only [wrap_i64g]
        omega
      · have hn256 : (a / 4294967296) < 256 := by omega
        have e8 : IntKind.u8.wrap (((a / 4294967296 : Nat)) : Int) = ((a / 4294967296 : Nat) : Int) := by rw [wrap_u8]; omega
        rw [e8]
        refine Ob.mk ⟨by omega, Int.ofNat_lt.2 (Nat.lt_of_lt_of_eq hn256 (by rfl))⟩ ?_
        intro v hv
        rw [Int.toNat_natCast] at hv
        have hvt := tab_key hn256 hv (by decide +kernel)
        clear hv
        conv => whnf
        rw [hvt]
        have ht := (tabN_ok hn256).1
        have hdv : (a / 4294967296) = a / 2 ^ 32 := by first | rfl | (rw [Nat.div_div_eq_div_mul, Nat.div_div_eq_div_mul]) | (rw [Nat.div_div_eq_div_mul]) | (rw [Nat.pow_zero, Nat.div_one])
        have hnz : 32 ≠ 0 → (a / 4294967296) ≠ 0 := by clear key s32 s16 s8 hvt e8 hdv; omega
        have hfin := key 32 (a / 4294967296) (by decide) hdv hn256 hnz
        clear hdv hnz key s32 s16 s8 e8 h1 h2 h3 hvt
        generalize tabN (a / 4294967296) = t at ht hfin ⊢
        refine RetX.same (cast (congrArg (fun v => K (.int .i64 v) h) ?_) hfin)
        simp only [wrap_i64g]
        omega
  · refine CondX.decI (fun h2 => ?_) (fun h2 => ?_) <;> conv => whnf
    · repeat (refine Ob.mk (by first | decide | omega) ?_; conv => whnf)
      rw [s16]
      refine CondX.decI (fun h3 => ?_) (fun h3 => ?_) <;> conv => whnf
      · repeat (refine Ob.mk (by first | decide | omega) ?_; conv => whnf)
        rw [s8]
        have hn256 : (a / 65536 / 256) < 256 := by omega
        have e8 : IntKind.u8.wrap (((a / 65536 / 256 : Nat)) : Int) = ((a / 65536 / 256 : Nat) : Int) := by rw [wrap_u8]; omega
        rw [e8]
        refine Ob.mk ⟨by omega, Int.ofNat_lt.2 (Nat.lt_of_lt_of_eq hn256 (by rfl))⟩ ?_
        intro v hv
        rw [Int.toNat_natCast] at hv
        have hvt := tab_key hn256 hv (by decide +kernel)
        clear hv
        conv => whnf
        rw [hvt]
        have ht := (tabN_ok hn256).1
        have hdv : (a / 65536 / 256) = a / 2 ^ 24 := by first | rfl | (rw [Nat.div_div_eq_div_mul, Nat.div_div_eq_div_mul]) | (rw [Nat.div_div_eq_div_mul]) | (rw [Nat.pow_zero, Nat.div_one])
        have hnz : 24 ≠ 0 → (a / 65536 / 256) ≠ 0 := by clear key s32 s16 s8 hvt e8 hdv; omega
        have hfin := key 24 (a / 65536 / 256) (by decide) hdv hn256 hnz
        clear hdv hnz key s32 s16 s8 e8 h1 h2 h3 hvt
        generalize tabN (a / 65536 / 256) = t at ht hfin ⊢
        refine RetX.same (cast (congrArg (fun v => K (.int .i64 v) h) ?_) hfin)
        simp only [wrap_i64g]
        omega
      · have hn256 : (a / 65536) < 256 := by omega
        have e8 : IntKind.u8.wrap (((a / 65536 : Nat)) : Int) = ((a / 65536 : Nat) : Int) := by rw [wrap_u8]; omega
        rw [e8]
        refine Ob.mk ⟨by omega, Int.ofNat_lt.2 (Nat.lt_of_lt_of_eq hn256 (by rfl))⟩ ?_
        intro v hv
        rw [Int.toNat_natCast] at hv
        have hvt := tab_key hn256 hv (by decide +kernel)
        clear hv
        conv => whnf
        rw [hvt]
        have ht := (tabN_ok hn256).1
        have hdv : (a / 65536) = a / 2 ^ 16 := by first | rfl | (rw [Nat.div_div_eq_div_mul, Nat.div_div_eq_div_mul]) | (rw [Nat.div_div_eq_div_mul]) | (rw [Nat.pow_zero, Nat.div_one])
        have hnz : 16 ≠ 0 → (a / 65536) ≠ 0 := by clear key s32 s16 s8 hvt e8 hdv; omega
        have hfin := key 16 (a / 65536) (by decide) hdv hn256 hnz
        clear hdv hnz key s32 s16 s8 e8 h1 h2 h3 hvt
        generalize tabN (a / 65536) = t at ht hfin ⊢
        refine RetX.same (cast (congrArg (fun v => K (.int .i64 v) h) ?_) hfin)
        simp only [wrap_i64g]
        omega
    · refine CondX.decI (fun h3 => ?_) (fun h3 => ?_) <;> conv => whnf
      · repeat (refine Ob.mk (by first | decide | omega) ?_; conv => whnf)
        rw [s8]
        have hn256 : (a / 256) < 256 := by omega
        have e8 : IntKind.u8.wrap (((a / 256 : Nat)) : Int) = ((a / 256 : Nat) : Int) := by rw [wrap_u8]; omega
        rw [e8]
        refine Ob.mk ⟨by omega, Int.ofNat_lt.2 (Nat.lt_of_lt_of_eq hn256 (by rfl))⟩ ?_
        intro v hv
        rw [Int.toNat_natCast] at hv
        have hvt := tab_key hn256 hv (by decide +kernel)
        clear hv
        conv => whnf
        rw [hvt]
        have ht := (tabN_ok hn256).1
        have hdv : (a / 256) = a / 2 ^ 8 := by first | rfl | (rw [Nat.div_div_eq_div_mul, Nat.div_div_eq_div_mul]) | (rw [Nat.div_div_eq_div_mul]) | (rw [Nat.pow_zero, Nat.div_one])
        have hnz : 8 ≠ 0 → (a / 256) ≠ 0 := by clear key s32 s16 s8 hvt e8 hdv; omega
        have hfin := key 8 (a / 256) (by decide) hdv hn256 hnz
        clear hdv hnz key s32 s16 s8 e8 h1 h2 h3 hvt
        generalize tabN (a / 256) = t at ht hfin ⊢
        refine RetX.same (cast (congrArg (fun v => K (.int .i64 v) h) ?_) hfin)
        simp only [wrap_i64g]
        omega
      · have hn256 : (a) < 256 := by omega
        have e8 : IntKind.u8.wrap (((a : Nat)) : Int) = ((a : Nat) : Int) := by rw [wrap_u8]; omega
        rw [e8]
        refine Ob.mk ⟨by omega, Int.ofNat_lt.2 (Nat.lt_of_lt_of_eq hn256 (by rfl))⟩ ?_
        intro v hv
        rw [Int.toNat_natCast] at hv
        have hvt := tab_key hn256 hv (by decide +kernel)
        clear hv
        conv => whnf
        rw [hvt]
        have ht := (tabN_ok hn256).1
        have hdv : (a) = a / 2 ^ 0 := by first | rfl | (rw [Nat.div_div_eq_div_mul, Nat.div_div_eq_div_mul]) | (rw [Nat.div_div_eq_div_mul]) | (rw [Nat.pow_zero, Nat.div_one])
        have hnz : 0 ≠ 0 → (a) ≠ 0 := by clear key s32 s16 s8 hvt e8 hdv; omega
        have hfin := key 0 (a) (by decide) hdv hn256 hnz
        clear hdv hnz key s32 s16 s8 e8 h1 h2 h3 hvt
        generalize tabN (a) = t at ht hfin ⊢
        refine RetX.same (cast (congrArg (fun v => K (.int .i64 v) h) ?_) hfin)
        simp only [wrap_i64g]
        omega
end
end Go.Proofs.YgvalwGreat.X
