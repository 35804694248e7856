import Derived.Test.YgvalwGreatF21
set_option linter.unusedVariables false
set_option linter.unusedSimpArgs false
namespace Go.Proofs.YgvalwGreat.X
open Go

section
variable {h : Hp} {K : Value → Hp → Prop} {ba bb bc : Option Addr} {na ca nb cb nc cc : Nat} {x y z : Int}

/-- The number of bits. -/
def bitsI (x : Int) : Nat := if x ≤ 0 then 0 else Nat.log2 x.toNat + 1

theorem bitsI_eq {k : Nat} (h0 : 0 ≤ x) (h1 : x < 2 ^ k) (h2 : k ≠ 0 → 2 ^ (k - 1) ≤ x) : bitsI x = k := by
  unfold bitsI
  obtain ⟨n, rfl⟩ := Int.eq_ofNat_of_zero_le h0
  have e1 : n < 2 ^ k := by exact_mod_cast h1
  split
  · rename_i hz
    rcases Nat.eq_zero_or_pos k with hk | hk
    · exact hk.symm
    · have := h2 (by omega)
      have : (0 : Int) < 2 ^ (k - 1) := Int.pow_pos (by decide)
      omega
  · rename_i hz
    rcases Nat.eq_zero_or_pos k with hk | hk
    · subst hk; simp at e1; omega
    · have h3 : 2 ^ (k - 1) ≤ n := by exact_mod_cast h2 (by omega)
      have hn : n ≠ 0 := by omega
      have a1 := (Nat.log2_lt hn).2 e1
      have a2 : k - 1 ≤ n.log2 := (Nat.le_log2 hn).2 h3
      simp only [Int.toNat_natCast]
      omega
theorem bitsI_lt (h0 : 0 ≤ x) : x < 2 ^ bitsI x := by
  unfold bitsI
  obtain ⟨n, rfl⟩ := Int.eq_ofNat_of_zero_le h0
  split
  · have : n = 0 := by omega
    subst this; simp
  · have : n < 2 ^ (n.log2 + 1) := Nat.lt_log2_self
    simp only [Int.toNat_natCast]
    exact_mod_cast this
theorem bitsI_le {k : Nat} (h0 : 0 ≤ x) (h1 : x < 2 ^ k) : bitsI x ≤ k := by
  unfold bitsI
  obtain ⟨n, rfl⟩ := Int.eq_ofNat_of_zero_le h0
  have e1 : n < 2 ^ k := by exact_mod_cast h1
  split
  · omega
  · have hn : n ≠ 0 := by omega
    have a1 := (Nat.log2_lt hn).2 e1
    simp only [Int.toNat_natCast]
    omega

theorem halve_lt {i : Nat} (h0 : 0 ≤ x) (h1 : x < 2 ^ (i + 1)) (h2 : bitI x i = false) : x < 2 ^ i := by
  have hb : ¬ (x / 2 ^ i % 2 = 1) := of_decide_eq_false h2
  have hp : (0 : Int) < 2 ^ i := Int.pow_pos (by decide)
  have q0 : 0 ≤ x / 2 ^ i := Int.ediv_nonneg h0 (by omega)
  have q1 : x / 2 ^ i < 2 := Int.ediv_lt_of_lt_mul hp (by rw [Int.pow_succ] at h1; omega)
  have q : x / 2 ^ i = 0 := by omega
  have e := Int.mul_ediv_add_emod x (2 ^ i)
  have := Int.emod_lt_of_pos x hp
  rw [q] at e
  omega
theorem bit_ge {i : Nat} (h0 : 0 ≤ x) (h2 : bitI x i = true) : 2 ^ i ≤ x := by
  have hb : (x / 2 ^ i % 2 = 1) := of_decide_eq_true h2
  have hp : (0 : Int) < 2 ^ i := Int.pow_pos (by decide)
  rcases Int.lt_or_le x (2 ^ i) with h3 | h3
  · rw [Int.ediv_eq_zero_of_lt h0 h3] at hb; simp at hb
  · exact h3

set_option maxRecDepth 100000 in
theorem bits_ok (ha : Nt h ba na ca x) (hn : na ≤ 8000) (hk : K (.int .u64 (bitsI x)) h) : CallX Hval.prog 203 [.slice ba na ca] h K := by
  refine CallX.of_xf T_ok Hval.func203 rfl (by kernel_rfl) (Nat.le_of_ble_eq_true rfl) ?_; conv => whnf
  have hx0 := ha.val
  have h1 := ha.lt_len
  have e8 : (256 : Int) = 2 ^ 8 := by decide
  rw [e8, ← Int.pow_mul] at h1
  have e : IntKind.i64.wrap (8 * (na : Int)) = ((8 * na : Nat) : Int) := by rw [wrap_i64 (by omega) (by omega)]; omega
  refine LoopX.st T_ok Hval.func203 (σ := Nat) (fun k => [(0, .slice ba na ca), (3, .int .i64 k)]) (fun k h' => h' = h ∧ k ≤ 8 * na ∧ x < 2 ^ k) (fun k => k) (8 * na)
    ⟨rfl, congrArg (Value.int .i64) e, trivial⟩ ⟨rfl, Nat.le_refl _, h1⟩ ?_
  rintro k ρ h' ⟨rfl, hkl, hlt⟩ ih
  conv => whnf
  refine CondX.mk (fun hp => ?_) (fun hp => ?_) <;> conv => whnf
  · have hp : 0 < k := by have := of_decide_eq_true hp; omega
    obtain ⟨i, rfl⟩ : ∃ i, k = i + 1 := ⟨k - 1, by omega⟩
    have e0 : IntKind.i64.wrap (((i + 1 : Nat) : Int) - 1) = (i : Int) := by rw [wrap_i64 (by omega) (by omega)]; omega
    have e1 : IntKind.u16.wrap (i : Int) = (i : Int) := by rw [wrap_u16]; omega
    repeat (first | (refine CondX.tt ?_; conv => whnf) | (refine CondX.ff ?_; conv => whnf))
    rw [e0, e1]
    refine bitN ha (by omega) ?_; conv => whnf
    repeat (first | (refine CondX.tt ?_; conv => whnf) | (refine CondX.ff ?_; conv => whnf))
    refine CondX.mk (fun hb => ?_) (fun hb => ?_) <;> conv => whnf
    · have hb : bitI x i = false := by simpa using hb
      refine ih i _ _ ⟨rfl, by omega, halve_lt hx0 hlt hb⟩ (by omega) ⟨rfl, congrArg (Value.int .i64) e0, trivial⟩
    · have hb : bitI x i = true := by simpa using hb
      have e3 : IntKind.u64.wrap ((i + 1 : Nat) : Int) = ((i + 1 : Nat) : Int) := by rw [wrap_u64']; omega
      rw [e3]
      rw [bitsI_eq hx0 hlt (fun _ => bit_ge hx0 hb)] at hk
      exact RetX.same hk
  · have hp : k = 0 := by have := of_decide_eq_false hp; omega
    subst hp
    repeat (first | (refine CondX.tt ?_; conv => whnf) | (refine CondX.ff ?_; conv => whnf))
    rw [bitsI_eq (k := 0) hx0 hlt (fun hc => absurd rfl hc)] at hk
    exact RetX.same hk

theorem modI_mul (a b m : Int) : modI (modI a m * modI b m) m = modI (a * b) m := by
  unfold modI
  split
  · rfl
  · exact (Int.mul_emod a b m).symm
theorem modI_mul1 (a b m : Int) : modI (modI a m * b) m = modI (a * b) m := by
  unfold modI
  split
  · rfl
  · rw [Int.mul_emod, Int.emod_emod, ← Int.mul_emod]
theorem modI_lt {m : Int} (h0 : 0 ≤ x) (hm : 0 ≤ m) : 0 ≤ modI x m ∧ modI x m ≤ m := by
  unfold modI
  split
  · omega
  · have := Int.emod_nonneg x (b := m) (by omega)
    have := Int.emod_lt_of_pos x (b := m) (by omega)
    omega

def modexpI (b e m : Int) : Int := modI (b ^ e.toNat) m

set_option maxRecDepth 100000 in
theorem ypModExp_ok (ha : Nt h ba na ca x) (hb : Nt h bb nb cb y) (hc : Nt h bc nc cc z) (hx : x < 256 ^ 64) (hy : y < 256 ^ 64) (hz : z < 256 ^ 64)
    (hk : ∀ b n c h', Ext h h' → Nt h' b n c (modexpI x y z) → K (.slice b n c) h') : CallX Hval.prog 205 [.slice ba na ca, .slice bb nb cb, .slice bc nc cc] h K := by
  refine CallX.of_xf T_ok Hval.func205 rfl (by kernel_rfl) (Nat.le_of_ble_eq_true rfl) ?_; conv => whnf
  have hx0 := ha.val
  have hy0 := hb.val
  have hz0 := hc.val
  have hnb := hb.len_le hy
  have hbig : (256 : Int) ^ 64 * 256 ^ 64 < big := by rw [big_val]; decide
  have hbig1 : (256 : Int) ^ 64 < 256 ^ 64 * 256 ^ 64 := by decide
  have hbg := big_lt
  have hP : (0 : Int) ≤ 256 ^ 64 := by decide
  have hbl : bitsI y ≤ 512 := bitsI_le hy0 (by have e8 : (256 : Int) = 2 ^ 8 := by decide
                                               rw [e8, ← Int.pow_mul] at hy; exact hy)
  generalize (256 : Int) ^ 64 = P at *
  refine num_ok (by omega) (by omega) fun b n c h1 he1 hn1 => ?_; conv => whnf
  refine divModZ hn1 (hc.ext he1) (by omega) (by omega) fun b n c b' n' c' h2 t he2 hn2 hn2' => ?_; conv => whnf
  refine bits_ok ((hb.ext he1).ext he2) (by omega) ?_; conv => whnf
  refine LoopX.st T_ok Hval.func205 (σ := Nat × Option Addr × Nat × Nat) (fun s => [(0, .slice ba na ca), (1, .slice bb nb cb), (2, .slice bc nc cc), (8, .slice s.2.1 s.2.2.1 s.2.2.2), (10, .int .u64 s.1)])
    (fun s h' => s.1 ≤ bitsI y ∧ Ext h h' ∧ Nt h' s.2.1 s.2.2.1 s.2.2.2 (modI (x ^ (y / 2 ^ s.1).toNat) z)) (fun s => s.1) (bitsI y, b', n', c')
    ⟨rfl, rfl, rfl, rfl, rfl, trivial⟩ ⟨Nat.le_refl _, he1.trans he2, ?_⟩ ?_
  · dsimp only
    rw [Int.ediv_eq_zero_of_lt hy0 (bitsI_lt hy0)]
    have : x ^ (0 : Int).toNat = 1 := by rw [show (0 : Int).toNat = 0 by rfl, Int.pow_zero]
    rw [this]
    exact hn2'
  rintro ⟨i, pb, pn, pc⟩ ρ h' ⟨hi, he, hn⟩ ih
  simp only at hi he hn ⊢
  conv => whnf
  refine CondX.mk (fun hp => ?_) (fun hp => ?_) <;> conv => whnf
  · have hp : 0 < i := by have := of_decide_eq_true hp; omega
    obtain ⟨i, rfl⟩ : ∃ i', i = i' + 1 := ⟨i - 1, by omega⟩
    have hhalf := halve y i
    have hyn : 0 ≤ y / 2 ^ (i + 1) := Int.ediv_nonneg hy0 (Int.le_of_lt (Int.pow_pos (by decide)))
    have hpw : ∀ k : Nat, 0 ≤ x ^ k := fun k => Int.pow_nonneg hx0
    generalize hk' : (y / 2 ^ (i + 1)).toNat = k at hn
    have hr := modI_lt (hpw k) hz0
    have hrr := (mul_bd hr.1 hr.2 hr.1 hr.2).2
    have hPP := (mul_bd hz0 (Int.le_of_lt hz) hz0 (Int.le_of_lt hz)).2
    refine mulN hn hn (by omega) (by omega) fun b n c h2 he2 hn2 => ?_; conv => whnf
    refine divModZ hn2 ((hc.ext he).ext he2) (by omega) (by omega) fun b0 n0 c0 b n c h3 t he3 _ hn3 => ?_; conv => whnf
    rw [modI_mul] at hn3
    have e0 : IntKind.u64.wrap (((i + 1 : Nat) : Int) - 1) = (i : Int) := by rw [wrap_u64']; omega
    have e1 : IntKind.u16.wrap (i : Int) = (i : Int) := by rw [wrap_u16]; omega
    rw [e0, e1]
    refine bitN (((hb.ext he).ext he2).ext he3) (by omega) ?_; conv => whnf
    refine CondX.mk (fun hbt => ?_) (fun hbt => ?_) <;> conv => whnf
    · have h1 : y / 2 ^ i % 2 = 1 := of_decide_eq_true hbt
      have hr2 := modI_lt (Int.mul_nonneg (hpw k) (hpw k)) hz0
      have hrx := (mul_bd hr2.1 hr2.2 hx0 (Int.le_of_lt hx)).2
      have hPx := (mul_bd hz0 (Int.le_of_lt hz) hP (Int.le_refl P)).2
      refine mulN hn3 (((ha.ext he).ext he2).ext he3) (by omega) (by omega) fun b n c h4 he4 hn4 => ?_; conv => whnf
      refine divModZ hn4 ((((hc.ext he).ext he2).ext he3).ext he4) (by omega) (by omega) fun b0 n0 c0 b n c h5 t he5 _ hn5 => ?_; conv => whnf
      refine ih (i, b, n, c) _ _ ⟨by dsimp only; omega, (((he.trans he2).trans he3).trans he4).trans he5, ?_⟩ (by dsimp only; omega) ⟨rfl, rfl, rfl, rfl, congrArg (Value.int .u64) e0, trivial⟩
      have : (y / 2 ^ i).toNat = 2 * k + 1 := by omega
      dsimp only
      rw [this, pow_step, Int.pow_succ, Int.pow_zero, Int.one_mul]
      rwa [modI_mul1] at hn5
    · have h1 : ¬ (y / 2 ^ i % 2 = 1) := of_decide_eq_false hbt
      refine ih (i, b, n, c) _ _ ⟨by dsimp only; omega, (he.trans he2).trans he3, ?_⟩ (by dsimp only; omega) ⟨rfl, rfl, rfl, rfl, congrArg (Value.int .u64) e0, trivial⟩
      have : (y / 2 ^ i).toNat = 2 * k + 0 := by omega
      dsimp only
      rw [this, pow_step, Int.pow_zero, Int.mul_one]
      exact hn3
  · have hp : i = 0 := by have := of_decide_eq_false hp; omega
    subst hp
    refine RetX.same (hk _ _ _ _ he ?_)
    simpa [modexpI] using hn

/-- The walk over the code that tells whether a place may be jumped to. -/
def walkD : Nat → List Int → Nat → Int → Bool
  | 0, _, _, _ => false
  | f + 1, l, i, a => if i < l.length then (if (i : Int) = a then l.getD i 0 == 91 else walkD f l (i + 1 + (immI (l.getD i 0)).toNat) a) else false
def isDestI (l : List Int) (a : Int) : Bool := walkD l.length l 0 a

theorem immI_bd {o : Int} (h0 : 0 ≤ o) : 0 ≤ immI o ∧ immI o ≤ 32 := by unfold immI; split <;> omega

set_option maxRecDepth 100000 in
theorem ypIsDest_ok {l : List Int} (hs : Byt h bc nc cc l) (ha : Nt h ba na ca x) (hk : K (.bool (isDestI l x)) h) : CallX Hval.prog 123 [.slice bc nc cc, .slice ba na ca] h K := by
  refine CallX.of_xf T_ok Hval.func123 rfl (by kernel_rfl) (Nat.le_of_ble_eq_true rfl) ?_; conv => whnf
  have hl := hs.len
  have hr := hs.room
  have hbg := big_lt
  refine LoopX.st T_ok Hval.func123 (σ := Nat × Option Addr × Nat × Nat) (fun s => [(0, .slice bc nc cc), (1, .slice ba na ca), (5, .slice s.2.1 s.2.2.1 s.2.2.2), (6, .int .i64 s.1)])
    (fun s h' => s.1 ≤ nc + 64 ∧ Ext h h' ∧ Nt h' s.2.1 s.2.2.1 s.2.2.2 s.1 ∧ ∃ f, nc - s.1 ≤ f ∧ walkD f l s.1 x = isDestI l x) (fun s => nc + 64 - s.1) (0, none, 0, 0)
    ⟨rfl, rfl, rfl, rfl, trivial⟩ ⟨by dsimp only; omega, Ext.refl _, Nt_nil h, nc, by simp, by rw [isDestI, hl]⟩ ?_
  rintro ⟨i, pb, pn, pc⟩ ρ h' ⟨hi, he, hn, f, hf, hw⟩ ih
  simp only at hi he hn hf hw ⊢
  conv => whnf
  have hs' := hs.ext he
  refine CondX.mk (fun hp => ?_) (fun hp => ?_) <;> conv => whnf
  · have hp : i < nc := by have := of_decide_eq_true hp; omega
    obtain ⟨f, rfl⟩ : ∃ f', f = f' + 1 := ⟨f - 1, by omega⟩
    rw [walkD, if_pos (by omega)] at hw
    refine cmpN hn (ha.ext he) ?_; conv => whnf
    rw [cmp_eq]
    refine CondX.mk (fun hq => ?_) (fun hq => ?_) <;> conv => whnf
    · have hq := of_decide_eq_true hq
      rw [if_pos hq] at hw
      refine IdxX.rd hs'.rd (by omega) (by omega) fun b1 o1 e1 _ => ?_; conv => whnf
      refine LoadX.byte hs' e1 i rfl (by omega) rfl ?_; conv => whnf
      rw [← hw] at hk
      exact RetX.drop he hk
    · have hq := of_decide_eq_false hq
      rw [if_neg hq] at hw
      refine IdxX.rd hs'.rd (by omega) (by omega) fun b1 o1 e1 _ => ?_; conv => whnf
      refine LoadX.byte hs' e1 i rfl (by omega) rfl ?_; conv => whnf
      have gd := hs.isB.get i
      have gi := immI_bd gd.1
      refine imm_ok gd.1 gd.2 ?_; conv => whnf
      generalize immI (l.getD i 0) = d at *
      have e1 : IntKind.i64.wrap d = d := by rw [wrap_i64 (by omega) (by omega)]
      have e2 : IntKind.i64.wrap (1 + d) = 1 + d := by rw [wrap_i64 (by omega) (by omega)]
      have e3 : IntKind.u8.wrap (1 + d) = 1 + d := by rw [wrap_u8]; omega
      have e4 : IntKind.i64.wrap ((i : Int) + (1 + d)) = ((i + 1 + d.toNat : Nat) : Int) := by rw [wrap_i64 (by omega) (by omega)]; omega
      rw [e1, e2, e3]
      refine Ob.mk (by first | decide | omega) ?_; conv => whnf
      refine BoxX.mk fun m hm => ?_; conv => whnf
      refine addN (hn.ext (Ext.bd hm)) (Nt_one (d := 1 + d) (by omega) (by omega)) (by omega) fun b n c h2 he2 hn2 => ?_; conv => whnf
      refine ih (i + 1 + d.toNat, b, n, c) _ _ ⟨by dsimp only; omega, (he.trans (Ext.bd hm)).trans he2, ?_, f, by dsimp only; omega, hw⟩ (by dsimp only; omega) ⟨rfl, rfl, rfl, congrArg (Value.int .i64) e4, trivial⟩
      have : (((i + 1 + d.toNat : Nat)) : Int) = (i : Int) + (1 + d) := by omega
      dsimp only
      rw [this]; exact hn2
  · have hp : nc ≤ i := by have := of_decide_eq_false hp; omega
    have : isDestI l x = false := by
      rw [← hw]
      cases f with
      | zero => rfl
      | succ f => rw [walkD, if_neg (by omega)]
    rw [this] at hk
    exact RetX.drop he hk
end
end Go.Proofs.YgvalwGreat.X
