import Derived.Test.YgvalwGreatF14
set_option linter.unusedVariables false
set_option linter.unusedSimpArgs false
namespace Go.Proofs.YgvalwGreat.X
open Go

/-- Two to the 256th. -/
def W : Int := 256 ^ 32
theorem W_val : W = 115792089237316195423570985008687907853269984665640564039457584007913129639936 := by decide
theorem W_pow : W = 2 ^ 256 := by decide
theorem W_big : W * W * 1000 < big := by rw [big_val]; decide

theorem dv_take_mod {l : List Int} (hb : isB l) (k : Nat) : dv (l.take k) = dv l % 256 ^ k := by
  induction k generalizing l with
  | zero => simp [dv, Int.emod_one]
  | succ k ih =>
    cases l with
    | nil => simp [dv]
    | cons d l =>
      have h1 := hb d (List.mem_cons_self ..)
      have hb' : isB l := fun x hx => hb x (List.mem_cons_of_mem _ hx)
      simp only [List.take_succ_cons, dv]
      rw [ih hb', Int.pow_succ, Int.mul_comm (256 ^ k) 256]
      have hp : (0 : Int) < 256 ^ k := Int.pow_pos (by decide)
      have e : dv l = 256 ^ k * (dv l / 256 ^ k) + dv l % 256 ^ k := (Int.mul_ediv_add_emod ..).symm
      have h2 := Int.emod_nonneg (dv l) (show (256 : Int) ^ k ≠ 0 by omega)
      have h3 := Int.emod_lt_of_pos (dv l) hp
      generalize dv l % 256 ^ k = r at *
      generalize dv l / 256 ^ k = Q at *
      generalize (256 : Int) ^ k = P at *
      rw [e, show d + 256 * (P * Q + r) = (d + 256 * r) + (256 * P) * Q by grind, Int.add_mul_emod_self_left, Int.emod_eq_of_lt (by omega) (by omega)]

section
variable {h : Hp} {K : Value → Hp → Prop} {ba bb : Option Addr} {na ca nb cb : Nat} {x y : Int}

set_option maxRecDepth 100000 in
theorem wrapped_ok (ha : Nt h ba na ca x) (hk : ∀ b n c h', Ext h h' → Nt h' b n c (x % W) → K (.slice b n c) h') : CallX Hval.prog 310 [.slice ba na ca] h K := by
  obtain ⟨l, ha, rfl, ht⟩ := ha
  refine CallX.of_xf T_ok Hval.func310 rfl (by kernel_rfl) (Nat.le_of_ble_eq_true rfl) ?_; conv => whnf
  have hlen := ha.len
  have e : (if (32 : Int) < (na : Int) then (32 : Int) else (na : Int)) = ((min na 32 : Nat) : Int) := by split <;> omega
  rw [e]
  refine SlcX.gen ha.rd ha.nil ha.le 0 (min na 32) ca rfl rfl rfl (Nat.zero_le _) (by have := ha.le; omega) (Nat.le_refl _) (.inl rfl) ?_; conv => whnf
  rw [bsh_zero]
  refine norm_ok (ha.pre (k := min na 32) (m := ca) (by omega) (by have := ha.le; omega) (Nat.le_refl _)) fun b n c h' he hn => ?_; conv => whnf
  refine RetX.same (hk _ _ _ _ he ?_)
  have : l.take (min na 32) = l.take 32 := by rw [← hlen]; simp [List.take_eq_take_iff]; omega
  rw [this, dv_take_mod ha.isB] at hn
  exact hn

set_option maxRecDepth 100000 in
theorem negated_ok (ha : Nt h ba na ca x) (hx : x ≤ W) (hk : ∀ b n c h', Ext h h' → Nt h' b n c ((W - x) % W) → K (.slice b n c) h') : CallX Hval.prog 311 [.slice ba na ca] h K := by
  refine CallX.of_xf T_ok Hval.func311 rfl (by kernel_rfl) (Nat.le_of_ble_eq_true rfl) ?_; conv => whnf
  refine pow2_ok (k := 256) (by omega) fun b n c h1 he1 hn1 => ?_; conv => whnf
  rw [← W_pow] at hn1
  refine subN hn1 (ha.ext he1) (fun hc => by omega) fun _ b n c h2 he2 hn2 => ?_; conv => whnf
  refine wrapped_ok hn2 fun b n c h3 he3 hn3 => ?_; conv => whnf
  exact RetX.same (hk _ _ _ _ ((he1.trans he2).trans he3) hn3)

set_option maxRecDepth 100000 in
theorem normN (ha : Nt h ba na ca x) (hk : ∀ b n c h', Ext h h' → Nt h' b n c x → K (.slice b n c) h') : CallX Hval.prog 88 [.slice ba na ca] h K := by
  obtain ⟨l, ha, rfl, ht⟩ := ha
  exact norm_ok ha hk
theorem bitN (ha : Nt h ba na ca x) {i : Nat} (hi : i < 65536) (hk : K (.bool (bitI x i)) h) : CallX Hval.prog 303 [.slice ba na ca, .int .u16 i] h K := by
  obtain ⟨l, ha, rfl, ht⟩ := ha
  exact bit_ok ha hi hk

def signI (x : Int) (neg : Bool) : Int := if neg then (W - x) % W else x
set_option maxRecDepth 100000 in
theorem withSign_ok {s : Bool} (ha : Nt h ba na ca x) (hx : x ≤ W) (hk : ∀ b n c h', Ext h h' → Nt h' b n c (signI x s) → K (.slice b n c) h') : CallX Hval.prog 313 [.slice ba na ca, .bool s] h K := by
  refine CallX.of_xf T_ok Hval.func313 rfl (by kernel_rfl) (Nat.le_of_ble_eq_true rfl) ?_; conv => whnf
  refine CondX.mk (fun hs => ?_) (fun hs => ?_) <;> conv => whnf
  · subst hs
    refine negated_ok ha hx fun b n c h1 he1 hn1 => ?_; conv => whnf
    exact RetX.same (hk _ _ _ _ he1 hn1)
  · subst hs
    refine normN ha fun b n c h1 he1 hn1 => ?_; conv => whnf
    exact RetX.same (hk _ _ _ _ he1 hn1)
set_option maxRecDepth 100000 in
theorem isNegative_ok (ha : Nt h ba na ca x) (hk : K (.bool (bitI x 255)) h) : CallX Hval.prog 314 [.slice ba na ca] h K := by
  refine CallX.of_xf T_ok Hval.func314 rfl (by kernel_rfl) (Nat.le_of_ble_eq_true rfl) ?_; conv => whnf
  refine bitN (i := 255) ha (by omega) ?_; conv => whnf
  exact RetX.same hk
set_option maxRecDepth 100000 in
theorem magnitude_ok (ha : Nt h ba na ca x) (hx : x ≤ W) (hk : ∀ b n c h', Ext h h' → Nt h' b n c (signI x (bitI x 255)) → K (.slice b n c) h') : CallX Hval.prog 312 [.slice ba na ca] h K := by
  refine CallX.of_xf T_ok Hval.func312 rfl (by kernel_rfl) (Nat.le_of_ble_eq_true rfl) ?_; conv => whnf
  refine isNegative_ok ha ?_; conv => whnf
  refine withSign_ok ha hx fun b n c h1 he1 hn1 => ?_; conv => whnf
  exact RetX.same (hk _ _ _ _ he1 hn1)
set_option maxRecDepth 100000 in
theorem signedBelow_ok (ha : Nt h ba na ca x) (hb : Nt h bb nb cb y) (hk : K (.bool (if bitI x 255 = bitI y 255 then decide (x < y) else bitI x 255)) h) : CallX Hval.prog 318 [.slice ba na ca, .slice bb nb cb] h K := by
  refine CallX.of_xf T_ok Hval.func318 rfl (by kernel_rfl) (Nat.le_of_ble_eq_true rfl) ?_; conv => whnf
  refine isNegative_ok ha ?_; conv => whnf
  refine isNegative_ok hb ?_; conv => whnf
  refine CondX.mk (fun hc => ?_) (fun hc => ?_) <;> conv => whnf
  · refine isNegative_ok ha ?_; conv => whnf
    have : ¬ (bitI x 255 = bitI y 255) := by simpa using hc
    rw [if_neg this] at hk
    exact RetX.same hk
  · refine cmpN ha hb ?_; conv => whnf
    have : bitI x 255 = bitI y 255 := by simpa using hc
    rw [if_pos this, ← cmp_lt] at hk
    exact RetX.same hk
end
end Go.Proofs.YgvalwGreat.X
