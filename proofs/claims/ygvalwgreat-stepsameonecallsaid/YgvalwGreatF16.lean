import Derived.Test.YgvalwGreatF15
set_option linter.unusedVariables false
set_option linter.unusedSimpArgs false
namespace Go.Proofs.YgvalwGreat.X
open Go

section
variable {h : Hp} {K : Value → Hp → Prop} {ba bb : Option Addr} {na ca nb cb : Nat} {x y : Int}

theorem Nt_one {h : Hp} {m : Nat} {t : TypeId} {d : Int} (h0 : 0 < d) (h1 : d < 256) : Nt (hput h m (bcells [d], t)) (some ⟨m, 0, none⟩) 1 1 d :=
  ⟨[d], own_all (fun z hz => by simp at hz; omega) rfl (by simp), by simp [dv], by simp [Tr]; omega⟩

theorem Nt.len_le (hn : Nt h ba na ca x) {k : Nat} (hx : x < 256 ^ k) : na ≤ k := by
  obtain ⟨l, hb, rfl, ht⟩ := hn
  have hlen := hb.len
  rcases Nat.lt_or_ge k na with h1 | h1
  · have h2 := pow_le_dv hb.isB ht (by rintro rfl; simp at hlen; omega)
    obtain ⟨j, hj⟩ : ∃ j, l.length - 1 = k + j := ⟨l.length - 1 - k, by omega⟩
    rw [hj, Int.pow_add] at h2
    have h4 : (0 : Int) < 256 ^ j := Int.pow_pos (by decide)
    have h5 : (0 : Int) < 256 ^ k := Int.pow_pos (by decide)
    have := Int.mul_le_mul_of_nonneg_left (show (1 : Int) ≤ 256 ^ j by omega) (show (0 : Int) ≤ 256 ^ k by omega)
    omega
  · exact h1

theorem Nt.lt_len (hn : Nt h ba na ca x) : x < 256 ^ na := by
  obtain ⟨l, hb, rfl, ht⟩ := hn
  have := dv_lt_pow hb.isB
  rwa [hb.len] at this

def flagI (t : Bool) : Int := if t then 1 else 0

set_option maxRecDepth 100000 in
theorem truth_ok {t : Bool} (hk : ∀ b n c h', Ext h h' → Nt h' b n c (flagI t) → K (.slice b n c) h') : CallX Hval.prog 317 [.bool t] h K := by
  refine CallX.of_xf T_ok Hval.func317 rfl (by kernel_rfl) (Nat.le_of_ble_eq_true rfl) ?_; conv => whnf
  refine CondX.mk (fun ht => ?_) (fun ht => ?_) <;> conv => whnf
  · subst ht
    refine Ob.mk (by first | decide | omega) ?_; conv => whnf
    refine BoxX.mk fun m hm => ?_; conv => whnf
    exact RetX.same (hk _ _ _ _ (Ext.bd hm) (Nt_one (d := 1) (by decide) (by decide)))
  · subst ht
    exact RetX.same (hk _ _ _ _ (Ext.refl _) (Nt_nil h))

theorem mulmod (a b : Int) : (a % W) * (b % W) % W = a * b % W := (Int.mul_emod a b W).symm

theorem pow_step (a : Int) (k b : Nat) : a ^ (2 * k + b) = (a ^ k * a ^ k) * a ^ b := by
  rw [Int.pow_add, show 2 * k = k + k by omega, Int.pow_add]

def powI (a e : Int) : Int := a ^ e.toNat % W

set_option maxRecDepth 100000 in
theorem power_ok (ha : Nt h ba na ca x) (hb : Nt h bb nb cb y) (hx : x < W) (hy : y < W) (hk : ∀ b n c h', Ext h h' → Nt h' b n c (powI x y) → K (.slice b n c) h') : CallX Hval.prog 315 [.slice ba na ca, .slice bb nb cb] h K := by
  refine CallX.of_xf T_ok Hval.func315 rfl (by kernel_rfl) (Nat.le_of_ble_eq_true rfl) ?_; conv => whnf
  have hx0 := ha.val
  have hy0 := hb.val
  have hnb := hb.len_le hy
  have hWpos : 0 < W := by rw [W_val]; decide
  have hWb : W * W < big := by have := W_big; have := Int.mul_nonneg (show 0 ≤ W by omega) (show 0 ≤ W by omega); omega
  have hWW : W ≤ W * W := by have := Int.mul_le_mul_of_nonneg_left (show 1 ≤ W by omega) (show 0 ≤ W by omega); omega
  refine Ob.mk (by first | decide | omega) ?_; conv => whnf
  refine BoxX.mk fun m hm => ?_; conv => whnf
  have e : IntKind.i64.wrap (8 * (if (32 : Int) < (nb : Int) then (32 : Int) else (nb : Int))) = ((8 * nb : Nat) : Int) := by
    rw [if_neg (by omega), wrap_i64 (by omega) (by omega)]; omega
  refine LoopX.st T_ok Hval.func315 (σ := Nat × Option Addr × Nat × Nat) (fun s => [(0, .slice ba na ca), (1, .slice bb nb cb), (5, .slice s.2.1 s.2.2.1 s.2.2.2), (6, .int .i64 s.1)])
    (fun s h' => s.1 ≤ 8 * nb ∧ Ext h h' ∧ Nt h' s.2.1 s.2.2.1 s.2.2.2 (x ^ (y / 2 ^ s.1).toNat % W)) (fun s => s.1) (8 * nb, some ⟨m, 0, none⟩, 1, 1)
    ⟨rfl, rfl, rfl, congrArg (Value.int .i64) e, trivial⟩ ⟨Nat.le_refl _, Ext.bd hm, ?_⟩ ?_
  · have h1 := hb.lt_len
    have e2 : (256 : Int) = 2 ^ 8 := by decide
    rw [e2, ← Int.pow_mul] at h1
    dsimp only
    rw [Int.ediv_eq_zero_of_lt hy0 h1]
    have : x ^ (0 : Int).toNat % W = 1 := by rw [show (0 : Int).toNat = 0 by rfl, Int.pow_zero, W_val]; decide
    rw [this]
    exact Nt_one (d := 1) (by decide) (by decide)
  rintro ⟨i, pb, pn, pc⟩ ρ h' ⟨hi, he, hn⟩ ih
  simp only at hi he hn ⊢
  conv => whnf
  refine CondX.mk (fun hp => ?_) (fun hp => ?_) <;> conv => whnf
  · have hp : 0 < i := by have := of_decide_eq_true hp; omega
    obtain ⟨i, rfl⟩ : ∃ i', i = i' + 1 := ⟨i - 1, by omega⟩
    have hm1 : ∀ z : Int, z % W < W := fun z => Int.emod_lt_of_pos z hWpos
    have hm0 : ∀ z : Int, 0 ≤ z % W := fun z => Int.emod_nonneg z (by omega)
    have hhalf := halve y i
    have hbit : bitI y i = decide (y / 2 ^ i % 2 = 1) := rfl
    have hyn : 0 ≤ y / 2 ^ (i + 1) := Int.ediv_nonneg hy0 (Int.le_of_lt (Int.pow_pos (by decide)))
    generalize hk' : (y / 2 ^ (i + 1)).toNat = k at hn
    have hn1 := hm1 (x ^ k)
    refine mulN hn hn (by omega) (by omega) fun b n c h2 he2 hn2 => ?_; conv => whnf
    refine wrapped_ok hn2 fun b n c h3 he3 hn3 => ?_; conv => whnf
    rw [mulmod] at hn3
    have e1 : IntKind.u16.wrap (IntKind.i64.wrap (((i + 1 : Nat) : Int) - 1)) = (i : Int) := by
      rw [wrap_i64 (by omega) (by omega), wrap_u16]; omega
    have e0 : IntKind.i64.wrap (((i + 1 : Nat) : Int) - 1) = (i : Int) := by
      rw [wrap_i64 (by omega) (by omega)]; omega
    rw [e1]
    refine bitN (((hb.ext he).ext he2).ext he3) (by omega) ?_; conv => whnf
    refine CondX.mk (fun hbt => ?_) (fun hbt => ?_) <;> conv => whnf
    · have h1 : y / 2 ^ i % 2 = 1 := of_decide_eq_true hbt
      have := hm1 (x ^ k * x ^ k)
      refine mulN hn3 (((ha.ext he).ext he2).ext he3) (by omega) (by omega) fun b n c h4 he4 hn4 => ?_; conv => whnf
      refine wrapped_ok hn4 fun b n c h5 he5 hn5 => ?_; conv => whnf
      refine ih (i, b, n, c) _ _ ⟨by dsimp only; omega, (((he.trans he2).trans he3).trans he4).trans he5, ?_⟩ (by dsimp only; omega) ⟨rfl, rfl, rfl, congrArg (Value.int .i64) e0, trivial⟩
      have : (y / 2 ^ i).toNat = 2 * k + 1 := by omega
      dsimp only
      rw [this, pow_step, Int.pow_succ, Int.pow_zero, Int.one_mul]
      have e3 : (x ^ k * x ^ k % W) * x % W = (x ^ k * x ^ k) * x % W := by
        rw [Int.mul_emod (x ^ k * x ^ k % W), Int.emod_emod, ← Int.mul_emod]
      rwa [e3] at hn5
    · have h1 : ¬ (y / 2 ^ i % 2 = 1) := of_decide_eq_false hbt
      refine ih (i, b, n, c) _ _ ⟨by dsimp only; omega, (he.trans he2).trans he3, ?_⟩ (by dsimp only; omega) ⟨rfl, rfl, rfl, congrArg (Value.int .i64) e0, trivial⟩
      have : (y / 2 ^ i).toNat = 2 * k + 0 := by omega
      dsimp only
      rw [this, pow_step, Int.pow_zero, Int.mul_one]
      exact hn3
  · have hp : i = 0 := by have := of_decide_eq_false hp; omega
    subst hp
    refine RetX.same (hk _ _ _ _ he ?_)
    simpa [powI] using hn
end
end Go.Proofs.YgvalwGreat.X
