import Derived.Test.YgvalwGreatF19
set_option linter.unusedVariables false
set_option linter.unusedSimpArgs false
namespace Go.Proofs.YgvalwGreat.X
open Go

section
variable {h : Hp} {K : Value → Hp → Prop} {ba bb bc : Option Addr} {na ca nb cb nc cc : Nat} {x y z : Int}

def shiftI (o : Nat) (a b : Int) : Int :=
  if o = 27 then b * 2 ^ (min a 256).toNat % W else if o = 29 ∧ bitI b 255 = true then W - 1 - (W - 1 - b) / 2 ^ (min a 256).toNat else b / 2 ^ (min a 256).toNat

theorem pow2_mono {a b : Nat} (h : a ≤ b) : (2 : Int) ^ a ≤ 2 ^ b := by
  have := Nat.pow_le_pow_right (n := 2) (by decide) h
  exact_mod_cast this
theorem W_pos : 0 < W := by rw [W_val]; decide
theorem W_lt_big : W < big := by rw [W_val, big_val]; decide


set_option maxRecDepth 100000 in
theorem shifted_ok {o : Nat} (ha : Nt h ba na ca x) (hb : Nt h bb nb cb y) (hy : y < W)
    (hk : ∀ b n c h', Ext h h' → Nt h' b n c (shiftI o x y) → K (.slice b n c) h') : CallX Hval.prog 321 [.int .u8 o, .slice ba na ca, .slice bb nb cb] h K := by
  refine CallX.of_xf T_ok Hval.func321 rfl (by kernel_rfl) (Nat.le_of_ble_eq_true rfl) ?_; conv => whnf
  have hx0 := ha.val
  have hy0 := hb.val
  have hWp := W_pos
  have hWb := W_lt_big
  have main : ∀ (n : Nat), n = (min x 256).toNat → CallX Hval.prog 364 [.int .u16 n] h (fun v h' => ∃ b m c, v = .slice b m c ∧ Ext h h' ∧ Nt h' b m c (2 ^ n)) := fun n hn =>
    pow2_ok (by omega) fun b m c h' he hn => ⟨b, m, c, rfl, he, hn⟩
  have hs1 : (0 : Int) < 2 ^ (min x 256).toNat := Int.pow_pos (by decide)
  have hs2 : (2 : Int) ^ (min x 256).toNat ≤ W := by rw [W_pow]; exact pow2_mono (by omega)
  generalize hs : (2 : Int) ^ (min x 256).toNat = s at *
  have fin : ∀ (v : Int), v = ((min x 256).toNat : Nat) → ∀ (K' : Value → Hp → Prop), (∀ b m c h', Ext h h' → Nt h' b m c s → K' (.slice b m c) h') → CallX Hval.prog 364 [.int .u16 v] h K' := by
    rintro v rfl K' hk'
    refine CallX.mono (main _ rfl) ?_
    rintro v h' ⟨b, m, c, rfl, he, hn⟩
    rw [hs] at hn
    exact hk' _ _ _ _ he hn
  have rest : ∀ b m c h1, Ext h h1 → Nt h1 b m c s → Nt h1 b m c s := fun _ _ _ _ _ h => h
  refine u64N ha (fun hc => ?_) (fun hc => ?_) <;> conv => whnf
  · repeat (first | (refine CondX.tt ?_; conv => whnf) | (refine CondX.ff ?_; conv => whnf))
    refine fin _ (by first | omega | (rw [wrap_u16]; omega)) _ fun b m c h1 he1 hn1 => ?_; conv => whnf
    refine CondX.mk (fun h27 => ?_) (fun h27 => ?_) <;> conv => whnf
    · have h27 : o = 27 := by have := eq_of_beq h27; omega
      refine mulN (hb.ext he1) hn1 (by omega) (by omega) fun b n c h2 he2 hn2 => ?_; conv => whnf
      refine wrapped_ok hn2 fun b n c h3 he3 hn3 => ?_; conv => whnf
      refine RetX.same (hk _ _ _ _ ((he1.trans he2).trans he3) ?_)
      rw [shiftI, if_pos h27, hs]; exact hn3
    have h27 : o ≠ 27 := by have := ne_of_beq_false h27; omega
    refine CondX.mk (fun h29 => ?_) (fun h29 => ?_) <;> conv => whnf
    · have h29 : o = 29 := by have := eq_of_beq h29; omega
      repeat (first | (refine CondX.tt ?_; conv => whnf) | (refine CondX.ff ?_; conv => whnf))
      refine isNegative_ok (hb.ext he1) ?_; conv => whnf
      repeat (first | (refine CondX.tt ?_; conv => whnf) | (refine CondX.ff ?_; conv => whnf))
      refine CondX.mk (fun hneg => ?_) (fun hneg => ?_) <;> conv => whnf
      · refine bitwise_ok (o := 25) (by omega) (hb.ext he1) (Nt_nil _) hy (by omega) fun b n c h2 he2 hn2 => ?_; conv => whnf
        have e25 : bitOp 25 y 0 = W - 1 - y := rfl
        rw [e25] at hn2
        refine divModN hn2 (hn1.ext he2) (by omega) (by omega) (fun hc => by omega) fun _ b n c b' n' c' h3 he3 hn3 _ => ?_; conv => whnf
        have q0 : 0 ≤ (W - 1 - y) / s := Int.ediv_nonneg (by omega) (by omega)
        have q1 : (W - 1 - y) / s ≤ W - 1 - y := Int.ediv_le_self _ (by omega)
        refine bitwise_ok (o := 25) (by omega) hn3 (Nt_nil _) (by omega) (by omega) fun b n c h4 he4 hn4 => ?_; conv => whnf
        have e25 : bitOp 25 ((W - 1 - y) / s) 0 = W - 1 - (W - 1 - y) / s := rfl
        rw [e25] at hn4
        refine RetX.same (hk _ _ _ _ (((he1.trans he2).trans he3).trans he4) ?_)
        rw [shiftI, if_neg h27, if_pos ⟨h29, hneg⟩, hs]; exact hn4
      · refine divModN (hb.ext he1) hn1 (by omega) (by omega) (fun hc => by omega) fun _ b n c b' n' c' h3 he3 hn3 _ => ?_; conv => whnf
        refine RetX.same (hk _ _ _ _ (he1.trans he3) ?_)
        rw [shiftI, if_neg h27, if_neg (fun hc => by rw [hc.2] at hneg; cases hneg), hs]; exact hn3
    · have h29 : o ≠ 29 := by have := ne_of_beq_false h29; omega
      repeat (first | (refine CondX.tt ?_; conv => whnf) | (refine CondX.ff ?_; conv => whnf))
      refine divModN (hb.ext he1) hn1 (by omega) (by omega) (fun hc => by omega) fun _ b n c b' n' c' h3 he3 hn3 _ => ?_; conv => whnf
      refine RetX.same (hk _ _ _ _ (he1.trans he3) ?_)
      rw [shiftI, if_neg h27, if_neg (by simp [h29]), hs]; exact hn3
  · repeat (first | (refine CondX.tt ?_; conv => whnf) | (refine CondX.ff ?_; conv => whnf))
    refine CondX.mk (fun hgt => ?_) (fun hgt => ?_) <;> conv => whnf
    · have hgt := of_decide_eq_true hgt
      refine fin _ (by first | omega | (rw [wrap_u16]; omega)) _ fun b m c h1 he1 hn1 => ?_; conv => whnf
      refine CondX.mk (fun h27 => ?_) (fun h27 => ?_) <;> conv => whnf
      · have h27 : o = 27 := by have := eq_of_beq h27; omega
        refine mulN (hb.ext he1) hn1 (by omega) (by omega) fun b n c h2 he2 hn2 => ?_; conv => whnf
        refine wrapped_ok hn2 fun b n c h3 he3 hn3 => ?_; conv => whnf
        refine RetX.same (hk _ _ _ _ ((he1.trans he2).trans he3) ?_)
        rw [shiftI, if_pos h27, hs]; exact hn3
      have h27 : o ≠ 27 := by have := ne_of_beq_false h27; omega
      refine CondX.mk (fun h29 => ?_) (fun h29 => ?_) <;> conv => whnf
      · have h29 : o = 29 := by have := eq_of_beq h29; omega
        repeat (first | (refine CondX.tt ?_; conv => whnf) | (refine CondX.ff ?_; conv => whnf))
        refine isNegative_ok (hb.ext he1) ?_; conv => whnf
        repeat (first | (refine CondX.tt ?_; conv => whnf) | (refine CondX.ff ?_; conv => whnf))
        refine CondX.mk (fun hneg => ?_) (fun hneg => ?_) <;> conv => whnf
        · refine bitwise_ok (o := 25) (by omega) (hb.ext he1) (Nt_nil _) hy (by omega) fun b n c h2 he2 hn2 => ?_; conv => whnf
          have e25 : bitOp 25 y 0 = W - 1 - y := rfl
          rw [e25] at hn2
          refine divModN hn2 (hn1.ext he2) (by omega) (by omega) (fun hc => by omega) fun _ b n c b' n' c' h3 he3 hn3 _ => ?_; conv => whnf
          have q0 : 0 ≤ (W - 1 - y) / s := Int.ediv_nonneg (by omega) (by omega)
          have q1 : (W - 1 - y) / s ≤ W - 1 - y := Int.ediv_le_self _ (by omega)
          refine bitwise_ok (o := 25) (by omega) hn3 (Nt_nil _) (by omega) (by omega) fun b n c h4 he4 hn4 => ?_; conv => whnf
          have e25 : bitOp 25 ((W - 1 - y) / s) 0 = W - 1 - (W - 1 - y) / s := rfl
          rw [e25] at hn4
          refine RetX.same (hk _ _ _ _ (((he1.trans he2).trans he3).trans he4) ?_)
          rw [shiftI, if_neg h27, if_pos ⟨h29, hneg⟩, hs]; exact hn4
        · refine divModN (hb.ext he1) hn1 (by omega) (by omega) (fun hc => by omega) fun _ b n c b' n' c' h3 he3 hn3 _ => ?_; conv => whnf
          refine RetX.same (hk _ _ _ _ (he1.trans he3) ?_)
          rw [shiftI, if_neg h27, if_neg (fun hc => by rw [hc.2] at hneg; cases hneg), hs]; exact hn3
      · have h29 : o ≠ 29 := by have := ne_of_beq_false h29; omega
        repeat (first | (refine CondX.tt ?_; conv => whnf) | (refine CondX.ff ?_; conv => whnf))
        refine divModN (hb.ext he1) hn1 (by omega) (by omega) (fun hc => by omega) fun _ b n c b' n' c' h3 he3 hn3 _ => ?_; conv => whnf
        refine RetX.same (hk _ _ _ _ (he1.trans he3) ?_)
        rw [shiftI, if_neg h27, if_neg (by simp [h29]), hs]; exact hn3
    · have hgt := of_decide_eq_false hgt
      refine fin _ (by first | omega | (rw [wrap_u16]; omega)) _ fun b m c h1 he1 hn1 => ?_; conv => whnf
      refine CondX.mk (fun h27 => ?_) (fun h27 => ?_) <;> conv => whnf
      · have h27 : o = 27 := by have := eq_of_beq h27; omega
        refine mulN (hb.ext he1) hn1 (by omega) (by omega) fun b n c h2 he2 hn2 => ?_; conv => whnf
        refine wrapped_ok hn2 fun b n c h3 he3 hn3 => ?_; conv => whnf
        refine RetX.same (hk _ _ _ _ ((he1.trans he2).trans he3) ?_)
        rw [shiftI, if_pos h27, hs]; exact hn3
      have h27 : o ≠ 27 := by have := ne_of_beq_false h27; omega
      refine CondX.mk (fun h29 => ?_) (fun h29 => ?_) <;> conv => whnf
      · have h29 : o = 29 := by have := eq_of_beq h29; omega
        repeat (first | (refine CondX.tt ?_; conv => whnf) | (refine CondX.ff ?_; conv => whnf))
        refine isNegative_ok (hb.ext he1) ?_; conv => whnf
        repeat (first | (refine CondX.tt ?_; conv => whnf) | (refine CondX.ff ?_; conv => whnf))
        refine CondX.mk (fun hneg => ?_) (fun hneg => ?_) <;> conv => whnf
        · refine bitwise_ok (o := 25) (by omega) (hb.ext he1) (Nt_nil _) hy (by omega) fun b n c h2 he2 hn2 => ?_; conv => whnf
          have e25 : bitOp 25 y 0 = W - 1 - y := rfl
          rw [e25] at hn2
          refine divModN hn2 (hn1.ext he2) (by omega) (by omega) (fun hc => by omega) fun _ b n c b' n' c' h3 he3 hn3 _ => ?_; conv => whnf
          have q0 : 0 ≤ (W - 1 - y) / s := Int.ediv_nonneg (by omega) (by omega)
          have q1 : (W - 1 - y) / s ≤ W - 1 - y := Int.ediv_le_self _ (by omega)
          refine bitwise_ok (o := 25) (by omega) hn3 (Nt_nil _) (by omega) (by omega) fun b n c h4 he4 hn4 => ?_; conv => whnf
          have e25 : bitOp 25 ((W - 1 - y) / s) 0 = W - 1 - (W - 1 - y) / s := rfl
          rw [e25] at hn4
          refine RetX.same (hk _ _ _ _ (((he1.trans he2).trans he3).trans he4) ?_)
          rw [shiftI, if_neg h27, if_pos ⟨h29, hneg⟩, hs]; exact hn4
        · refine divModN (hb.ext he1) hn1 (by omega) (by omega) (fun hc => by omega) fun _ b n c b' n' c' h3 he3 hn3 _ => ?_; conv => whnf
          refine RetX.same (hk _ _ _ _ (he1.trans he3) ?_)
          rw [shiftI, if_neg h27, if_neg (fun hc => by rw [hc.2] at hneg; cases hneg), hs]; exact hn3
      · have h29 : o ≠ 29 := by have := ne_of_beq_false h29; omega
        repeat (first | (refine CondX.tt ?_; conv => whnf) | (refine CondX.ff ?_; conv => whnf))
        refine divModN (hb.ext he1) hn1 (by omega) (by omega) (fun hc => by omega) fun _ b n c b' n' c' h3 he3 hn3 _ => ?_; conv => whnf
        refine RetX.same (hk _ _ _ _ (he1.trans he3) ?_)
        rw [shiftI, if_neg h27, if_neg (by simp [h29]), hs]; exact hn3

def sextI (a b : Int) : Int :=
  if a < 31 then (if bitI b (8 * a.toNat + 7) = true then b % 2 ^ (8 * a.toNat + 8) + (W - 2 ^ (8 * a.toNat + 8)) else b % 2 ^ (8 * a.toNat + 8)) else b

set_option maxRecDepth 100000 in
theorem signExtended_ok (ha : Nt h ba na ca x) (hb : Nt h bb nb cb y) (hy : y < W)
    (hk : ∀ b n c h', Ext h h' → Nt h' b n c (sextI x y) → K (.slice b n c) h') : CallX Hval.prog 316 [.slice ba na ca, .slice bb nb cb] h K := by
  refine CallX.of_xf T_ok Hval.func316 rfl (by kernel_rfl) (Nat.le_of_ble_eq_true rfl) ?_; conv => whnf
  have hx0 := ha.val
  have hy0 := hb.val
  have hWp := W_pos
  have hWb := W_lt_big
  have hWb2 : W + W < big := by rw [W_val, big_val]; decide
  refine u64N ha (fun hc => ?_) (fun hc => ?_) <;> conv => whnf
  · repeat (first | (refine CondX.tt ?_; conv => whnf) | (refine CondX.ff ?_; conv => whnf))
    refine normN hb fun b n c h1 he1 hn1 => ?_; conv => whnf
    refine RetX.same (hk _ _ _ _ he1 ?_)
    rw [sextI, if_neg (by omega)]; exact hn1
  · repeat (first | (refine CondX.tt ?_; conv => whnf) | (refine CondX.ff ?_; conv => whnf))
    refine CondX.mk (fun hgt => ?_) (fun hgt => ?_) <;> conv => whnf
    · have hgt := of_decide_eq_true hgt
      refine normN hb fun b n c h1 he1 hn1 => ?_; conv => whnf
      refine RetX.same (hk _ _ _ _ he1 ?_)
      rw [sextI, if_neg (by omega)]; exact hn1
    · have hgt := of_decide_eq_false hgt
      have e1 : IntKind.u16.wrap (IntKind.u64.wrap (IntKind.u64.wrap (8 * x) + 7)) = ((8 * x.toNat + 7 : Nat) : Int) := by
        rw [wrap_u64', wrap_u64', wrap_u16]; omega
      have e2 : IntKind.u16.wrap (((8 * x.toNat + 7 : Nat) : Int) + 1) = ((8 * x.toNat + 8 : Nat) : Int) := by
        rw [wrap_u16]; omega
      rw [e1, e2]
      refine pow2_ok (by omega) fun b n c h1 he1 hn1 => ?_; conv => whnf
      have hs1 : (0 : Int) < 2 ^ (8 * x.toNat + 8) := Int.pow_pos (by decide)
      have hs2 : (2 : Int) ^ (8 * x.toNat + 8) ≤ W := by rw [W_pow]; exact pow2_mono (by omega)
      refine divModN (hb.ext he1) hn1 (by omega) (by omega) (fun hc => by omega) fun _ b1 n1 c1 b n c h2 he2 _ hn2 => ?_; conv => whnf
      refine bitN (((hb.ext he1).ext he2)) (by omega) ?_; conv => whnf
      have hm1 := Int.emod_lt_of_pos y hs1
      have hm0 := Int.emod_nonneg y (show (2 : Int) ^ (8 * x.toNat + 8) ≠ 0 by omega)
      refine CondX.mk (fun hbit => ?_) (fun hbit => ?_) <;> conv => whnf
      · refine RetX.same (hk _ _ _ _ (he1.trans he2) ?_)
        rw [sextI, if_pos (by omega), if_neg (by simpa using hbit)]; exact hn2
      · refine pow2_ok (k := 256) (by omega) fun b n c h3 he3 hn3 => ?_; conv => whnf
        rw [← W_pow] at hn3
        rw [e2]
        refine pow2_ok (by omega) fun b n c h4 he4 hn4 => ?_; conv => whnf
        refine subN (hn3.ext he4) hn4 (fun hc => by omega) fun _ b n c h5 he5 hn5 => ?_; conv => whnf
        refine addN (((hn2.ext he3).ext he4).ext he5) hn5 (by omega) fun b n c h6 he6 hn6 => ?_; conv => whnf
        refine RetX.same (hk _ _ _ _ (((((he1.trans he2).trans he3).trans he4).trans he5).trans he6) ?_)
        rw [sextI, if_pos (by omega), if_pos (by simpa using hbit)]; exact hn6

/-- The meaning of the arithmetic instructions. -/
def modI (a b : Int) : Int := if b = 0 then 0 else a % b
def aluI (o : Nat) (a b c : Int) : Int :=
  if o = 1 then (a + b) % W else if o = 2 then a * b % W else if o = 3 then (a + (W - b) % W) % W
  else if o = 4 then a / b
  else if o = 5 then signI (signI a (bitI a 255) / signI b (bitI b 255)) (!(bitI a 255 == bitI b 255))
  else if o = 6 then modI a b
  else if o = 7 then signI (modI (signI a (bitI a 255)) (signI b (bitI b 255))) (bitI a 255)
  else if o = 8 then modI (a + b) c else if o = 9 then modI (a * b) c else if o = 10 then powI a b else if o = 11 then sextI a b
  else if o = 16 then flagI (decide (a < b)) else if o = 17 then flagI (decide (b < a))
  else if o = 18 then flagI (if bitI a 255 = bitI b 255 then decide (a < b) else bitI a 255)
  else if o = 19 then flagI (if bitI b 255 = bitI a 255 then decide (b < a) else bitI b 255)
  else if o = 20 then flagI (decide (a = b)) else if o = 21 then flagI (decide (a = 0))
  else if o = 22 ∨ o = 23 ∨ o = 24 ∨ o = 25 then bitOp o a b
  else if o = 26 then byteI a b else if o = 27 ∨ o = 28 ∨ o = 29 then shiftI o a b else 0

theorem signI_bd {s : Bool} (h0 : 0 ≤ x) (h1 : x < W) : 0 ≤ signI x s ∧ signI x s < W := by
  have := W_pos
  unfold signI
  split
  · exact ⟨Int.emod_nonneg _ (by omega), Int.emod_lt_of_pos _ (by omega)⟩
  · exact ⟨h0, h1⟩

theorem div_bd (h0 : 0 ≤ x) (h1 : x < W) (h2 : 0 ≤ y) : 0 ≤ x / y ∧ x / y < W := by
  have := Int.ediv_nonneg h0 h2
  have := Int.ediv_le_self y h0
  omega
theorem modI_bd (h0 : 0 ≤ x) (h1 : x < W) (h2 : 0 ≤ y) : 0 ≤ modI x y ∧ modI x y < W := by
  unfold modI
  split
  · have := W_pos; omega
  · have := Int.emod_nonneg x (b := y) (by omega)
    have := Int.emod_lt_of_pos x (b := y) (by omega)
    have : x % y ≤ x := by
      have e := Int.mul_ediv_add_emod x y
      have := Int.mul_nonneg h2 (Int.ediv_nonneg h0 h2)
      omega
    omega

/-- DivMod, at one stroke. -/
theorem divModZ (ha : Nt h ba na ca x) (hb : Nt h bb nb cb y) (hx : x < big) (hy : y < big)
    (hk : ∀ b n c b' n' c' h' t, Ext h h' → Nt h' b n c (x / y) → Nt h' b' n' c' (modI x y) → K (.tuple #[.slice b n c, .slice b' n' c', .bool t]) h') : CallX Hval.prog 234 [.slice ba na ca, .slice bb nb cb] h K := by
  refine divModN ha hb hx hy (fun h0 => ?_) fun h0 b n c b' n' c' h' he hn hn' => ?_
  · subst h0
    refine hk _ _ _ _ _ _ _ _ (Ext.refl _) ?_ ?_
    · simpa using Nt_nil h
    · simpa [modI] using Nt_nil h
  · refine hk _ _ _ _ _ _ _ _ he hn ?_
    rwa [modI, if_neg h0]


set_option maxRecDepth 100000 in
theorem alu_ok {o : Nat} (ha : Nt h ba na ca x) (hb : Nt h bb nb cb y) (hc : Nt h bc nc cc z) (hx : x < W) (hy : y < W) (hz : z < W)
    (hk : ∀ b n c h', Ext h h' → Nt h' b n c (aluI o x y z) → K (.slice b n c) h') : CallX Hval.prog 212 [.int .u8 o, .slice ba na ca, .slice bb nb cb, .slice bc nc cc] h K := by
  refine CallX.of_xf T_ok Hval.func212 rfl (by kernel_rfl) (Nat.le_of_ble_eq_true rfl) ?_; conv => whnf
  have hx0 := ha.val
  have hy0 := hb.val
  have hz0 := hc.val
  have hWp := W_pos
  have hWb := W_lt_big
  have hWb2 : W + W < big := by rw [W_val, big_val]; decide
  have hxy : x * y < big := by
    have := (mul_bd hx0 (Int.le_of_lt hx) hy0 (Int.le_of_lt hy)).2
    have : W * W < big := by rw [W_val, big_val]; decide
    omega
  have sx := signI_bd (s := bitI x 255) hx0 hx
  have sy := signI_bd (s := bitI y 255) hy0 hy
  refine CondX.mk (fun h1 => ?_) (fun h1 => ?_) <;> conv => whnf
  · have h1 : o = 1 := by have := eq_of_beq h1; omega
    subst h1
    refine addN ha hb (by omega) fun b n c h2 he2 hn2 => ?_; conv => whnf
    refine wrapped_ok hn2 fun b n c h3 he3 hn3 => ?_; conv => whnf
    exact RetX.same (hk _ _ _ _ (he2.trans he3) hn3)
  have h1 : o ≠ 1 := by have := ne_of_beq_false h1; omega
  refine CondX.mk (fun h2 => ?_) (fun h2 => ?_) <;> conv => whnf
  · have h2 : o = 2 := by have := eq_of_beq h2; omega
    subst h2
    refine mulN ha hb (by omega) (by omega) fun b n c h2 he2 hn2 => ?_; conv => whnf
    refine wrapped_ok hn2 fun b n c h3 he3 hn3 => ?_; conv => whnf
    exact RetX.same (hk _ _ _ _ (he2.trans he3) hn3)
  have h2 : o ≠ 2 := by have := ne_of_beq_false h2; omega
  refine CondX.mk (fun h3 => ?_) (fun h3 => ?_) <;> conv => whnf
  · have h3 : o = 3 := by have := eq_of_beq h3; omega
    subst h3
    refine negated_ok hb (by omega) fun b n c h2 he2 hn2 => ?_; conv => whnf
    have := Int.emod_lt_of_pos (W - y) hWp
    refine addN (ha.ext he2) hn2 (by omega) fun b n c h3 he3 hn3 => ?_; conv => whnf
    refine wrapped_ok hn3 fun b n c h4 he4 hn4 => ?_; conv => whnf
    exact RetX.same (hk _ _ _ _ ((he2.trans he3).trans he4) hn4)
  have h3 : o ≠ 3 := by have := ne_of_beq_false h3; omega
  refine CondX.mk (fun h4 => ?_) (fun h4 => ?_) <;> conv => whnf
  · have h4 : o = 4 := by have := eq_of_beq h4; omega
    subst h4
    refine divModZ ha hb (by omega) (by omega) fun b n c b' n' c' h2 t he2 hn2 hn2' => ?_; conv => whnf
    exact RetX.same (hk _ _ _ _ he2 hn2)
  have h4 : o ≠ 4 := by have := ne_of_beq_false h4; omega
  refine CondX.mk (fun h5 => ?_) (fun h5 => ?_) <;> conv => whnf
  · have h5 : o = 5 := by have := eq_of_beq h5; omega
    subst h5
    refine magnitude_ok ha (by omega) fun b n c h2 he2 hn2 => ?_; conv => whnf
    refine magnitude_ok (hb.ext he2) (by omega) fun b n c h3 he3 hn3 => ?_; conv => whnf
    have q := div_bd sx.1 sx.2 sy.1
    refine divModZ (hn2.ext he3) hn3 (by omega) (by omega) fun b n c b' n' c' h4 t he4 hn4 hn4' => ?_; conv => whnf
    refine isNegative_ok (((ha.ext he2).ext he3).ext he4) ?_; conv => whnf
    refine isNegative_ok (((hb.ext he2).ext he3).ext he4) ?_; conv => whnf
    refine withSign_ok hn4 (by omega) fun b n c h5 he5 hn5 => ?_; conv => whnf
    exact RetX.same (hk _ _ _ _ (((he2.trans he3).trans he4).trans he5) hn5)
  have h5 : o ≠ 5 := by have := ne_of_beq_false h5; omega
  refine CondX.mk (fun h6 => ?_) (fun h6 => ?_) <;> conv => whnf
  · have h6 : o = 6 := by have := eq_of_beq h6; omega
    subst h6
    refine divModZ ha hb (by omega) (by omega) fun b n c b' n' c' h2 t he2 hn2 hn2' => ?_; conv => whnf
    exact RetX.same (hk _ _ _ _ he2 hn2')
  have h6 : o ≠ 6 := by have := ne_of_beq_false h6; omega
  refine CondX.mk (fun h7 => ?_) (fun h7 => ?_) <;> conv => whnf
  · have h7 : o = 7 := by have := eq_of_beq h7; omega
    subst h7
    refine magnitude_ok ha (by omega) fun b n c h2 he2 hn2 => ?_; conv => whnf
    refine magnitude_ok (hb.ext he2) (by omega) fun b n c h3 he3 hn3 => ?_; conv => whnf
    have q := modI_bd sx.1 sx.2 sy.1
    refine divModZ (hn2.ext he3) hn3 (by omega) (by omega) fun b n c b' n' c' h4 t he4 hn4 hn4' => ?_; conv => whnf
    refine isNegative_ok (((ha.ext he2).ext he3).ext he4) ?_; conv => whnf
    refine withSign_ok hn4' (by omega) fun b n c h5 he5 hn5 => ?_; conv => whnf
    exact RetX.same (hk _ _ _ _ (((he2.trans he3).trans he4).trans he5) hn5)
  have h7 : o ≠ 7 := by have := ne_of_beq_false h7; omega
  refine CondX.mk (fun h8 => ?_) (fun h8 => ?_) <;> conv => whnf
  · have h8 : o = 8 := by have := eq_of_beq h8; omega
    subst h8
    refine addN ha hb (by omega) fun b n c h2 he2 hn2 => ?_; conv => whnf
    refine divModZ hn2 (hc.ext he2) (by omega) (by omega) fun b n c b' n' c' h3 t he3 hn3 hn3' => ?_; conv => whnf
    exact RetX.same (hk _ _ _ _ (he2.trans he3) hn3')
  have h8 : o ≠ 8 := by have := ne_of_beq_false h8; omega
  refine CondX.mk (fun h9 => ?_) (fun h9 => ?_) <;> conv => whnf
  · have h9 : o = 9 := by have := eq_of_beq h9; omega
    subst h9
    refine mulN ha hb (by omega) (by omega) fun b n c h2 he2 hn2 => ?_; conv => whnf
    refine divModZ hn2 (hc.ext he2) (by omega) (by omega) fun b n c b' n' c' h3 t he3 hn3 hn3' => ?_; conv => whnf
    exact RetX.same (hk _ _ _ _ (he2.trans he3) hn3')
  have h9 : o ≠ 9 := by have := ne_of_beq_false h9; omega
  refine CondX.mk (fun h10 => ?_) (fun h10 => ?_) <;> conv => whnf
  · have h10 : o = 10 := by have := eq_of_beq h10; omega
    subst h10
    refine power_ok ha hb hx hy fun b n c h2 he2 hn2 => ?_; conv => whnf
    exact RetX.same (hk _ _ _ _ he2 hn2)
  have h10 : o ≠ 10 := by have := ne_of_beq_false h10; omega
  refine CondX.mk (fun h11 => ?_) (fun h11 => ?_) <;> conv => whnf
  · have h11 : o = 11 := by have := eq_of_beq h11; omega
    subst h11
    refine signExtended_ok ha hb hy fun b n c h2 he2 hn2 => ?_; conv => whnf
    exact RetX.same (hk _ _ _ _ he2 hn2)
  have h11 : o ≠ 11 := by have := ne_of_beq_false h11; omega
  refine CondX.mk (fun h16 => ?_) (fun h16 => ?_) <;> conv => whnf
  · have h16 : o = 16 := by have := eq_of_beq h16; omega
    subst h16
    refine cmpN ha hb ?_; conv => whnf
    rw [cmp_lt]
    refine truth_ok fun b n c h2 he2 hn2 => ?_; conv => whnf
    exact RetX.same (hk _ _ _ _ he2 hn2)
  have h16 : o ≠ 16 := by have := ne_of_beq_false h16; omega
  refine CondX.mk (fun h17 => ?_) (fun h17 => ?_) <;> conv => whnf
  · have h17 : o = 17 := by have := eq_of_beq h17; omega
    subst h17
    refine cmpN ha hb ?_; conv => whnf
    rw [cmp_gt]
    refine truth_ok fun b n c h2 he2 hn2 => ?_; conv => whnf
    exact RetX.same (hk _ _ _ _ he2 hn2)
  have h17 : o ≠ 17 := by have := ne_of_beq_false h17; omega
  refine CondX.mk (fun h18 => ?_) (fun h18 => ?_) <;> conv => whnf
  · have h18 : o = 18 := by have := eq_of_beq h18; omega
    subst h18
    refine signedBelow_ok ha hb ?_; conv => whnf
    refine truth_ok fun b n c h2 he2 hn2 => ?_; conv => whnf
    exact RetX.same (hk _ _ _ _ he2 hn2)
  have h18 : o ≠ 18 := by have := ne_of_beq_false h18; omega
  refine CondX.mk (fun h19 => ?_) (fun h19 => ?_) <;> conv => whnf
  · have h19 : o = 19 := by have := eq_of_beq h19; omega
    subst h19
    refine signedBelow_ok hb ha ?_; conv => whnf
    refine truth_ok fun b n c h2 he2 hn2 => ?_; conv => whnf
    exact RetX.same (hk _ _ _ _ he2 hn2)
  have h19 : o ≠ 19 := by have := ne_of_beq_false h19; omega
  refine CondX.mk (fun h20 => ?_) (fun h20 => ?_) <;> conv => whnf
  · have h20 : o = 20 := by have := eq_of_beq h20; omega
    subst h20
    refine cmpN ha hb ?_; conv => whnf
    rw [cmp_eq]
    refine truth_ok fun b n c h2 he2 hn2 => ?_; conv => whnf
    exact RetX.same (hk _ _ _ _ he2 hn2)
  have h20 : o ≠ 20 := by have := ne_of_beq_false h20; omega
  refine CondX.mk (fun h21 => ?_) (fun h21 => ?_) <;> conv => whnf
  · have h21 : o = 21 := by have := eq_of_beq h21; omega
    subst h21
    refine cmpN ha (Nt_nil _) ?_; conv => whnf
    rw [cmp_eq]
    refine truth_ok fun b n c h2 he2 hn2 => ?_; conv => whnf
    exact RetX.same (hk _ _ _ _ he2 hn2)
  have h21 : o ≠ 21 := by have := ne_of_beq_false h21; omega
  refine CondX.mk (fun h22 => ?_) (fun h22 => ?_) <;> conv => whnf
  · have h22 : o = 22 := by have := eq_of_beq h22; omega
    subst h22
    repeat (first | (refine CondX.tt ?_; conv => whnf) | (refine CondX.ff ?_; conv => whnf))
    refine bitwise_ok (o := 22) (by omega) ha hb hx hy fun b n c h2 he2 hn2 => ?_; conv => whnf
    exact RetX.same (hk _ _ _ _ he2 hn2)
  have h22 : o ≠ 22 := by have := ne_of_beq_false h22; omega
  refine CondX.mk (fun h23 => ?_) (fun h23 => ?_) <;> conv => whnf
  · have h23 : o = 23 := by have := eq_of_beq h23; omega
    subst h23
    repeat (first | (refine CondX.tt ?_; conv => whnf) | (refine CondX.ff ?_; conv => whnf))
    refine bitwise_ok (o := 23) (by omega) ha hb hx hy fun b n c h2 he2 hn2 => ?_; conv => whnf
    exact RetX.same (hk _ _ _ _ he2 hn2)
  have h23 : o ≠ 23 := by have := ne_of_beq_false h23; omega
  refine CondX.mk (fun h24 => ?_) (fun h24 => ?_) <;> conv => whnf
  · have h24 : o = 24 := by have := eq_of_beq h24; omega
    subst h24
    repeat (first | (refine CondX.tt ?_; conv => whnf) | (refine CondX.ff ?_; conv => whnf))
    refine bitwise_ok (o := 24) (by omega) ha hb hx hy fun b n c h2 he2 hn2 => ?_; conv => whnf
    exact RetX.same (hk _ _ _ _ he2 hn2)
  have h24 : o ≠ 24 := by have := ne_of_beq_false h24; omega
  refine CondX.mk (fun h25 => ?_) (fun h25 => ?_) <;> conv => whnf
  · have h25 : o = 25 := by have := eq_of_beq h25; omega
    subst h25
    refine bitwise_ok (o := 25) (by omega) ha hb hx hy fun b n c h2 he2 hn2 => ?_; conv => whnf
    exact RetX.same (hk _ _ _ _ he2 hn2)
  have h25 : o ≠ 25 := by have := ne_of_beq_false h25; omega
  refine CondX.mk (fun h26 => ?_) (fun h26 => ?_) <;> conv => whnf
  · have h26 : o = 26 := by have := eq_of_beq h26; omega
    subst h26
    refine pickedByte_ok ha hb fun b n c h2 he2 hn2 => ?_; conv => whnf
    exact RetX.same (hk _ _ _ _ he2 hn2)
  have h26 : o ≠ 26 := by have := ne_of_beq_false h26; omega
  refine CondX.mk (fun h27 => ?_) (fun h27 => ?_) <;> conv => whnf
  · have h27 : o = 27 := by have := eq_of_beq h27; omega
    subst h27
    repeat (first | (refine CondX.tt ?_; conv => whnf) | (refine CondX.ff ?_; conv => whnf))
    refine shifted_ok (o := 27) ha hb hy fun b n c h2 he2 hn2 => ?_; conv => whnf
    exact RetX.same (hk _ _ _ _ he2 hn2)
  have h27 : o ≠ 27 := by have := ne_of_beq_false h27; omega
  refine CondX.mk (fun h28 => ?_) (fun h28 => ?_) <;> conv => whnf
  · have h28 : o = 28 := by have := eq_of_beq h28; omega
    subst h28
    repeat (first | (refine CondX.tt ?_; conv => whnf) | (refine CondX.ff ?_; conv => whnf))
    refine shifted_ok (o := 28) ha hb hy fun b n c h2 he2 hn2 => ?_; conv => whnf
    exact RetX.same (hk _ _ _ _ he2 hn2)
  have h28 : o ≠ 28 := by have := ne_of_beq_false h28; omega
  refine CondX.mk (fun h29 => ?_) (fun h29 => ?_) <;> conv => whnf
  · have h29 : o = 29 := by have := eq_of_beq h29; omega
    subst h29
    refine shifted_ok (o := 29) ha hb hy fun b n c h2 he2 hn2 => ?_; conv => whnf
    exact RetX.same (hk _ _ _ _ he2 hn2)
  have h29 : o ≠ 29 := by have := ne_of_beq_false h29; omega
  refine RetX.same (hk _ _ _ _ (Ext.refl _) ?_)
  have : aluI o x y z = 0 := by simp [aluI, *]
  rw [this]; exact Nt_nil h
end
end Go.Proofs.YgvalwGreat.X
