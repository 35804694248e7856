import Derived.Test.YgvalwGreatF13
set_option linter.unusedVariables false
set_option linter.unusedSimpArgs false
namespace Go.Proofs.YgvalwGreat.X
open Go

section
variable {h : Hp} {K : Value → Hp → Prop} {ba bb : Option Addr} {na ca nb cb : Nat} {x y : Int}
/-- What w words of memory cost. -/
def memCost (w : Int) : Int := 3 * w + w * w / 512

set_option maxRecDepth 100000 in
theorem ypMemCost_ok (ha : Nt h ba na ca x) (hx : x < 256 ^ 40) (hk : ∀ b n c h', Ext h h' → Nt h' b n c (memCost x) → K (.slice b n c) h') : CallX Hval.prog 207 [.slice ba na ca] h K := by
  refine CallX.of_xf T_ok Hval.func207 rfl (by kernel_rfl) (Nat.le_of_ble_eq_true rfl) ?_; conv => whnf
  have h0 := ha.val
  have hxx : x * x ≤ 256 ^ 40 * 256 ^ 40 := (mul_bd h0 (by omega) h0 (by omega)).2
  have hb : (256 : Int) ^ 40 * 256 ^ 40 * 4 < big := by rw [big_val]; decide
  have hb3 : (256 : Int) ^ 40 * 4 < 256 ^ 40 * 256 ^ 40 := by decide
  generalize (256 : Int) ^ 40 = P at hx hxx hb hb3
  generalize P * P = P2 at hxx hb hb3
  have hd : x * x / 512 ≤ x * x := Int.ediv_le_self _ (Int.mul_nonneg h0 h0)
  have hdn : 0 ≤ x * x / 512 := Int.ediv_nonneg (Int.mul_nonneg h0 h0) (by decide)
  refine num_ok (by omega) (by omega) fun b n c h1 he1 hn1 => ?_; conv => whnf
  refine mulN hn1 (ha.ext he1) (by omega) (by omega) fun b n c h2 he2 hn2 => ?_; conv => whnf
  have ha2 := (ha.ext he1).ext he2
  refine mulN ha2 ha2 (by omega) (by omega) fun b n c h3 he3 hn3 => ?_; conv => whnf
  refine divided_ok hn3 (by omega) (by omega) (by omega) fun b n c h4 he4 hn4 => ?_; conv => whnf
  refine addN ((hn2.ext he3).ext he4) hn4 (by omega) fun b n c h5 he5 hn5 => ?_; conv => whnf
  exact RetX.same (hk _ _ _ _ ((((he1.trans he2).trans he3).trans he4).trans he5) hn5)

set_option maxRecDepth 100000 in
theorem ypCopyCost_ok (ha : Nt h ba na ca x) (hx : x < 256 ^ 40) (hk : ∀ b n c h', Ext h h' → Nt h' b n c (3 * ((x + 31) / 32)) → K (.slice b n c) h') : CallX Hval.prog 305 [.slice ba na ca] h K := by
  refine CallX.of_xf T_ok Hval.func305 rfl (by kernel_rfl) (Nat.le_of_ble_eq_true rfl) ?_; conv => whnf
  have h0 := ha.val
  have hb : (256 : Int) ^ 40 * 4 < big := by rw [big_val]; decide
  have hb1 : (1000 : Int) < 256 ^ 40 := by decide
  generalize (256 : Int) ^ 40 = P at hx hb hb1
  refine num_ok (by omega) (by omega) fun b n c h1 he1 hn1 => ?_; conv => whnf
  refine words_okN (ha.ext he1) (by omega) fun b n c h2 he2 hn2 => ?_; conv => whnf
  refine mulN (hn1.ext he2) hn2 (by omega) (by omega) fun b n c h3 he3 hn3 => ?_; conv => whnf
  exact RetX.same (hk _ _ _ _ ((he1.trans he2).trans he3) hn3)

set_option maxRecDepth 100000 in
theorem ypSentGas_ok (ha : Nt h ba na ca x) (hb : Nt h bb nb cb y) (hx : x < big) (hk : ∀ b n c h', Ext h h' → Nt h' b n c (min y (x - x / 64)) → K (.slice b n c) h') : CallX Hval.prog 209 [.slice ba na ca, .slice bb nb cb] h K := by
  refine CallX.of_xf T_ok Hval.func209 rfl (by kernel_rfl) (Nat.le_of_ble_eq_true rfl) ?_; conv => whnf
  have h0 := ha.val
  refine divided_ok ha hx (by omega) (by omega) fun b n c h1 he1 hn1 => ?_; conv => whnf
  refine less_ok (ha.ext he1) hn1 fun b n c h2 he2 hn2 => ?_; conv => whnf
  refine minNat_ok ((hb.ext he1).ext he2) hn2 fun b n c hn3 => ?_; conv => whnf
  rw [lessI, if_neg (by omega)] at hn3
  exact RetX.same (hk _ _ _ _ (he1.trans he2) hn3)
end
end Go.Proofs.YgvalwGreat.X
