import Derived.Test.YgvalwGreatF12
set_option linter.unusedVariables false
set_option linter.unusedSimpArgs false
namespace Go.Proofs.YgvalwGreat.X
open Go

section
variable {h : Hp} {K : Value → Hp → Prop} {ba bb : Option Addr} {na ca nb cb : Nat} {x y : Int}
theorem addN (ha : Nt h ba na ca x) (hb : Nt h bb nb cb y) (hx : x + y < big) (hk : ∀ b n c h', Ext h h' → Nt h' b n c (x + y) → K (.slice b n c) h') : CallX Hval.prog 34 [.slice ba na ca, .slice bb nb cb] h K := by
  obtain ⟨la, ha, rfl, -⟩ := ha; obtain ⟨lb, hb, rfl, -⟩ := hb; exact add_ok ha hb hx hk
theorem mulN (ha : Nt h ba na ca x) (hb : Nt h bb nb cb y) (hx : x < big) (hy : y < big) (hk : ∀ b n c h', Ext h h' → Nt h' b n c (x * y) → K (.slice b n c) h') : CallX Hval.prog 36 [.slice ba na ca, .slice bb nb cb] h K := by
  obtain ⟨la, ha, rfl, -⟩ := ha; obtain ⟨lb, hb, rfl, -⟩ := hb; exact mul_ok ha hb hx hy hk
theorem cmpN (ha : Nt h ba na ca x) (hb : Nt h bb nb cb y) (hk : K (.int .i8 (cmpI x y)) h) : CallX Hval.prog 85 [.slice ba na ca, .slice bb nb cb] h K := by
  obtain ⟨la, ha, rfl, -⟩ := ha; obtain ⟨lb, hb, rfl, -⟩ := hb; exact cmp_ok ha hb hk
theorem subN (ha : Nt h ba na ca x) (hb : Nt h bb nb cb y) (hk0 : x < y → K (.tuple #[.slice none 0 0, .bool false]) h)
    (hk : y ≤ x → ∀ b n c h', Ext h h' → Nt h' b n c (x - y) → K (.tuple #[.slice b n c, .bool true]) h') : CallX Hval.prog 91 [.slice ba na ca, .slice bb nb cb] h K := by
  obtain ⟨la, ha, rfl, -⟩ := ha; obtain ⟨lb, hb, rfl, -⟩ := hb; exact sub_ok ha hb hk0 hk
theorem divModN (ha : Nt h ba na ca x) (hb : Nt h bb nb cb y) (hx : x < big) (hy : y < big) (hk0 : y = 0 → K (.tuple #[.slice none 0 0, .slice none 0 0, .bool false]) h)
    (hk : y ≠ 0 → ∀ b n c b' n' c' h', Ext h h' → Nt h' b n c (x / y) → Nt h' b' n' c' (x % y) → K (.tuple #[.slice b n c, .slice b' n' c', .bool true]) h') : CallX Hval.prog 234 [.slice ba na ca, .slice bb nb cb] h K := by
  obtain ⟨la, ha, rfl, -⟩ := ha; obtain ⟨lb, hb, rfl, -⟩ := hb; exact divMod_ok ha hb hx hy hk0 hk
theorem u64N (ha : Nt h ba na ca x) (hk0 : 18446744073709551616 ≤ x → K (.tuple #[.int .u64 0, .bool false]) h)
    (hk : x < 18446744073709551616 → K (.tuple #[.int .u64 x, .bool true]) h) : CallX Hval.prog 110 [.slice ba na ca] h K := by
  obtain ⟨la, ha, rfl, -⟩ := ha; exact u64_ok ha hk0 hk

theorem big_lt : (18446744073709551616 : Int) < big := by rw [big_val]; decide

set_option maxRecDepth 100000 in
theorem divided_ok (ha : Nt h ba na ca x) (hx : x < big) (h0 : 0 < y) (h1 : y < 18446744073709551616) (hk : ∀ b n c h', Ext h h' → Nt h' b n c (x / y) → K (.slice b n c) h') : CallX Hval.prog 171 [.slice ba na ca, .int .u64 y] h K := by
  refine CallX.of_xf T_ok Hval.func171 rfl (by kernel_rfl) (Nat.le_of_ble_eq_true rfl) ?_; conv => whnf
  refine num_ok (by omega) h1 fun b n c h1' he hn => ?_; conv => whnf
  have := big_lt
  refine divModN (ha.ext he) hn hx (by omega) (fun hc => by omega) fun _ b n c b' n' c' h2 he2 hn2 _ => ?_; conv => whnf
  exact RetX.same (hk _ _ _ _ (he.trans he2) hn2)

set_option maxRecDepth 100000 in
theorem words_okN (ha : Nt h ba na ca x) (hx : x + 31 < big) (hk : ∀ b n c h', Ext h h' → Nt h' b n c ((x + 31) / 32) → K (.slice b n c) h') : CallX Hval.prog 92 [.slice ba na ca] h K := by
  refine CallX.of_xf T_ok Hval.func92 rfl (by kernel_rfl) (Nat.le_of_ble_eq_true rfl) ?_; conv => whnf
  refine num_ok (by omega) (by omega) fun b n c h1' he hn => ?_; conv => whnf
  refine addN (ha.ext he) hn hx fun b n c h2 he2 hn2 => ?_; conv => whnf
  refine divided_ok hn2 hx (by omega) (by omega) fun b n c h3 he3 hn3 => ?_; conv => whnf
  exact RetX.same (hk _ _ _ _ ((he.trans he2).trans he3) hn3)

def lessI (x y : Int) : Int := if x < y then 0 else x - y
set_option maxRecDepth 100000 in
theorem less_ok (ha : Nt h ba na ca x) (hb : Nt h bb nb cb y) (hk : ∀ b n c h', Ext h h' → Nt h' b n c (lessI x y) → K (.slice b n c) h') : CallX Hval.prog 30 [.slice ba na ca, .slice bb nb cb] h K := by
  refine CallX.of_xf T_ok Hval.func30 rfl (by kernel_rfl) (Nat.le_of_ble_eq_true rfl) ?_; conv => whnf
  refine subN ha hb (fun hlt => ?_) fun hge b n c h1 he hn => ?_ <;> conv => whnf
  · refine RetX.same (hk _ _ _ _ (Ext.refl _) ?_)
    rw [lessI, if_pos hlt]; exact Nt_nil h
  · refine RetX.same (hk _ _ _ _ he ?_)
    rw [lessI, if_neg (by omega)]; exact hn

theorem cmp_lt : decide (cmpI x y < 0) = decide (x < y) := by
  rw [decide_eq_decide]; unfold cmpI; split
  · simp [*]
  · split <;> simp [*]
theorem cmp_gt : decide (cmpI x y > 0) = decide (y < x) := by
  rw [decide_eq_decide]; unfold cmpI; split
  · simp; omega
  · split <;> simp [*]
theorem cmp_eq : (cmpI x y == 0) = decide (x = y) := by
  have : (cmpI x y = 0) ↔ x = y := by
    unfold cmpI; split
    · simp; omega
    · split
      · simp; omega
      · simp; omega
  rw [← decide_eq_decide.2 this]; rfl

set_option maxRecDepth 100000 in
theorem minNat_ok (ha : Nt h ba na ca x) (hb : Nt h bb nb cb y) (hk : ∀ b n c, Nt h b n c (min x y) → K (.slice b n c) h) : CallX Hval.prog 93 [.slice ba na ca, .slice bb nb cb] h K := by
  refine CallX.of_xf T_ok Hval.func93 rfl (by kernel_rfl) (Nat.le_of_ble_eq_true rfl) ?_; conv => whnf
  refine cmpN ha hb ?_; conv => whnf
  rw [cmp_lt]
  refine CondX.mk (fun hc => ?_) (fun hc => ?_) <;> conv => whnf
  · have hc := of_decide_eq_true hc
    refine RetX.same (hk _ _ _ ?_); rwa [Int.min_eq_left (by omega)]
  · have hc := of_decide_eq_false hc
    refine RetX.same (hk _ _ _ ?_); rwa [Int.min_eq_right (by omega)]
set_option maxRecDepth 100000 in
theorem maxNat_ok (ha : Nt h ba na ca x) (hb : Nt h bb nb cb y) (hk : ∀ b n c, Nt h b n c (max x y) → K (.slice b n c) h) : CallX Hval.prog 128 [.slice ba na ca, .slice bb nb cb] h K := by
  refine CallX.of_xf T_ok Hval.func128 rfl (by kernel_rfl) (Nat.le_of_ble_eq_true rfl) ?_; conv => whnf
  refine cmpN ha hb ?_; conv => whnf
  rw [cmp_gt]
  refine CondX.mk (fun hc => ?_) (fun hc => ?_) <;> conv => whnf
  · have hc := of_decide_eq_true hc
    refine RetX.same (hk _ _ _ ?_); rwa [Int.max_eq_left (by omega)]
  · have hc := of_decide_eq_false hc
    refine RetX.same (hk _ _ _ ?_); rwa [Int.max_eq_right (by omega)]
set_option maxRecDepth 100000 in
theorem isZero_ok (ha : Nt h ba na ca x) (hk : K (.bool (decide (x = 0))) h) : CallX Hval.prog 100 [.slice ba na ca] h K := by
  refine CallX.of_xf T_ok Hval.func100 rfl (by kernel_rfl) (Nat.le_of_ble_eq_true rfl) ?_; conv => whnf
  refine cmpN ha (Nt_nil h) ?_; conv => whnf
  rw [← cmp_eq] at hk
  exact RetX.same hk
set_option maxRecDepth 100000 in
theorem small_ok (ha : Nt h ba na ca x) (hk : K (.int .u64 (if x < 18446744073709551616 then x else 0)) h) : CallX Hval.prog 47 [.slice ba na ca] h K := by
  refine CallX.of_xf T_ok Hval.func47 rfl (by kernel_rfl) (Nat.le_of_ble_eq_true rfl) ?_; conv => whnf
  refine u64N ha (fun hc => ?_) (fun hc => ?_) <;> conv => whnf
  · rw [if_neg (by omega)] at hk; exact RetX.same hk
  · rw [if_pos hc] at hk; exact RetX.same hk
end
end Go.Proofs.YgvalwGreat.X
