import Derived.Test.YgvalwGreatF9
set_option linter.unusedVariables false
set_option linter.unusedSimpArgs false
namespace Go.Proofs.YgvalwGreat.X
open Go

theorem tdivN (a b : Nat) : Int.tdiv (a : Int) (b : Int) = ((a / b : Nat) : Int) := by simp
theorem tmodN (a b : Nat) : Int.tmod (a : Int) (b : Int) = ((a % b : Nat) : Int) := by rw [Int.tmod_eq_emod_of_nonneg (by omega)]; simp

theorem dv_digit {l : List Int} (hb : isB l) (j : Nat) : dv l / 256 ^ j % 256 = l.getD j 0 := by
  induction j generalizing l with
  | zero =>
    cases l with
    | nil => simp [dv]
    | cons d l =>
      have h1 := hb d (List.mem_cons_self ..)
      simp [dv]; omega
  | succ j ih =>
    cases l with
    | nil => simp [dv]
    | cons d l =>
      have h1 := hb d (List.mem_cons_self ..)
      have hb' : isB l := fun x hx => hb x (List.mem_cons_of_mem _ hx)
      simp only [List.getD_cons_succ, dv]
      rw [← ih hb', Int.pow_succ, Int.mul_comm (256 ^ j) 256, ← Int.ediv_ediv_of_nonneg (by decide)]
      congr 2; omega

/-- Bit i of a number. -/
def bitI (x : Int) (i : Nat) : Bool := decide (x / 2 ^ i % 2 = 1)

theorem bit_digit {l : List Int} (hb : isB l) (i : Nat) : bitI (dv l) i = decide (l.getD (i / 8) 0 / 2 ^ (i % 8) % 2 = 1) := by
  unfold bitI
  have h1 := dv_digit hb (i / 8)
  have h2 : (2 : Int) ^ i = 256 ^ (i / 8) * 2 ^ (i % 8) := by
    have : (256 : Int) = 2 ^ 8 := by decide
    rw [this, ← Int.pow_mul, ← Int.pow_add]; congr 1; omega
  rw [h2, ← Int.ediv_ediv_of_nonneg (Int.le_of_lt (Int.pow_pos (by decide))), ← h1]
  generalize dv l / 256 ^ (i / 8) = y
  have h8 : i % 8 < 8 := Nat.mod_lt _ (by decide)
  generalize i % 8 = r at h8
  have : y / 2 ^ r % 2 = y % 256 / 2 ^ r % 2 := by
    rcases (by omega : r = 0 ∨ r = 1 ∨ r = 2 ∨ r = 3 ∨ r = 4 ∨ r = 5 ∨ r = 6 ∨ r = 7) with e | e | e | e | e | e | e | e <;> subst e <;> simp <;> omega
  rw [this]

set_option maxRecDepth 100000 in
theorem bit_ok {h : Hp} {K : Value → Hp → Prop} {base : Option Addr} {len cap : Nat} {l : List Int} (hb : Byt h base len cap l) {i : Nat} (hi : i < 65536)
    (hk : K (.bool (bitI (dv l) i)) h) : CallX Hval.prog 303 [.slice base len cap, .int .u16 i] h K := by
  refine CallX.of_xf T_ok Hval.func303 rfl (by kernel_rfl) (Nat.le_of_ble_eq_true rfl) ?_; conv => whnf
  have hlen := hb.len
  rw [bit_digit hb.isB] at hk
  refine Ob.mk (by first | decide | omega) ?_; conv => whnf
  have e1 : IntKind.i64.wrap (IntKind.u16.wrap (Int.tdiv (i : Int) 8)) = ((i / 8 : Nat) : Int) := by
    rw [show (8 : Int) = ((8 : Nat) : Int) by rfl, tdivN, wrap_u16, wrap_i64 (by omega) (by omega)]; omega
  rw [e1]
  refine CondX.mk (fun hc => ?_) (fun hc => ?_) <;> conv => whnf
  · have hc : i / 8 < len := by have := of_decide_eq_true hc; omega
    refine CondX.tt ?_; conv => whnf
    refine CondX.tt ?_; conv => whnf
    refine IdxX.rd hb.rd (by omega) (by omega) fun b1 o1 e1 _ => ?_; conv => whnf
    refine CondX.tt ?_; conv => whnf
    refine LoadX.byte hb e1 (i / 8) rfl (by omega) rfl ?_; conv => whnf
    refine CondX.tt ?_; conv => whnf
    refine CondX.tt ?_; conv => whnf
    refine Ob.mk (by first | decide | omega) ?_; conv => whnf
    refine CondX.tt ?_; conv => whnf
    have gd := hb.isB.get (i / 8)
    have e2 : Int.tmod (i : Int) 8 = ((i % 8 : Nat) : Int) := tmodN i 8
    refine Ob.mk (by rw [e2]; omega) ?_; conv => whnf
    refine CondX.tt ?_; conv => whnf
    refine CondX.tt ?_; conv => whnf
    have hr : i % 8 < 8 := Nat.mod_lt _ (by decide)
    have hp : (0 : Int) < 2 ^ (i % 8) := Int.pow_pos (by decide)
    have e3 : (l.getD (i / 8) 0).fdiv (2 ^ (min (Int.toNat (Int.tmod (i : Int) 8)) 8)) = l.getD (i / 8) 0 / 2 ^ (i % 8) := by
      rw [e2, Int.toNat_natCast, Nat.min_eq_left (by omega), shr_nn gd.1]
    have q1 : 0 ≤ l.getD (i / 8) 0 / 2 ^ (i % 8) := Int.ediv_nonneg gd.1 (by omega)
    have q2 : l.getD (i / 8) 0 / 2 ^ (i % 8) < 256 := by
      have := Int.ediv_le_self (2 ^ (i % 8)) gd.1; omega
    refine RetX.same ?_
    have e4 : IntKind.u8.wrap (BitVec.ofInt 8 ((l.getD (i / 8) 0).fdiv (2 ^ (min (Int.toNat (Int.tmod (i : Int) 8)) 8))) &&& BitVec.ofInt 8 1).toNat = l.getD (i / 8) 0 / 2 ^ (i % 8) % 2 := by
      rw [e3, and_u8 q1 q2 (by decide) (by decide), and_one q1]
    refine cast (congrArg (fun v => K (.bool v) h) ?_) hk
    show _ = (IntKind.u8.wrap (BitVec.ofInt 8 ((l.getD (i / 8) 0).fdiv (2 ^ (min (Int.toNat (Int.tmod (i : Int) 8)) 8))) &&& BitVec.ofInt 8 1).toNat == 1)
    rw [e4]; rfl
  · have hc : len ≤ i / 8 := by have := of_decide_eq_false hc; omega
    repeat (first | (refine CondX.tt ?_; conv => whnf) | (refine CondX.ff ?_; conv => whnf))
    rw [getD_nil (by omega)] at hk
    refine RetX.same ?_
    simpa using hk

theorem dv_one_digit {n j : Nat} {d : Int} (hj : j < n) : dv ((List.replicate n 0).set j d) = d * 256 ^ j := by
  have h0 : ∀ k, pd (List.replicate n 0) k = 0 := fun k => by
    rw [pd_congr (l' := []) fun i _ => by rw [getD_zeros]; simp, pd_nil]
  have key : ∀ k, pd ((List.replicate n 0).set j d) k = if j < k then d * 256 ^ j else 0 := by
    intro k
    induction k with
    | zero => simp [pd]
    | succ k ih =>
      rw [pd, ih]
      by_cases hkj : k = j
      · subst hkj
        rw [getD_set_same (by simpa using hj)]
        simp
      · rw [getD_set_other hkj, getD_zeros]
        by_cases h1 : j < k
        · rw [if_pos h1, if_pos (by omega)]; omega
        · rw [if_neg h1, if_neg (by omega)]; omega
  rw [← pd_dv _ (i := n) (by simp), key, if_pos hj]

set_option maxRecDepth 100000 in
theorem pow2_ok {h : Hp} {K : Value → Hp → Prop} {k : Nat} (hkk : k < 1600)
    (hk : ∀ b n c h', Ext h h' → Nt h' b n c (2 ^ k) → K (.slice b n c) h') : CallX Hval.prog 364 [.int .u16 k] h K := by
  refine CallX.of_xf T_ok Hval.func364 rfl (by kernel_rfl) (Nat.le_of_ble_eq_true rfl) ?_; conv => whnf
  refine Ob.mk (by first | decide | omega) ?_; conv => whnf
  have e0 : IntKind.u16.wrap (Int.tdiv (k : Int) 8) = ((k / 8 : Nat) : Int) := by
    rw [show (8 : Int) = ((8 : Nat) : Int) by rfl, tdivN, wrap_u16]; omega
  have e1 : IntKind.i64.wrap (IntKind.i64.wrap (IntKind.u16.wrap (Int.tdiv (k : Int) 8)) + 1) = ((k / 8 + 1 : Nat) : Int) := by
    rw [e0, wrap_i64 (x := ((k / 8 : Nat) : Int)) (by omega) (by omega), wrap_i64 (by omega) (by omega)]; omega
  rw [e1]
  refine MakeX.bytes (k / 8 + 1) rfl (by omega) fun m hm => ?_; conv => whnf
  refine Ob.mk (by first | decide | omega) ?_; conv => whnf
  refine Ob.mk (by first | decide | omega) ?_; conv => whnf
  have e2 : Int.tmod (k : Int) 8 = ((k % 8 : Nat) : Int) := tmodN k 8
  refine Ob.mk (by rw [e2]; omega) ?_; conv => whnf
  rw [e0]
  refine IdxX.at (by omega) (by omega) ?_; conv => whnf
  refine StoreX.bix (k / 8) rfl rfl (by simp) ?_; conv => whnf
  have hr : k % 8 < 8 := Nat.mod_lt _ (by decide)
  have e3 : IntKind.u8.wrap (1 * 2 ^ (min (Int.toNat (Int.tmod (k : Int) 8)) IntKind.u8.bits)) = 2 ^ (k % 8) := by
    show IntKind.u8.wrap (1 * 2 ^ (min (Int.toNat (Int.tmod (k : Int) 8)) 8)) = 2 ^ (k % 8)
    rw [e2, Int.toNat_natCast, Nat.min_eq_left (by omega), Int.one_mul, wrap_u8]
    rcases (by omega : k % 8 = 0 ∨ k % 8 = 1 ∨ k % 8 = 2 ∨ k % 8 = 3 ∨ k % 8 = 4 ∨ k % 8 = 5 ∨ k % 8 = 6 ∨ k % 8 = 7) with e | e | e | e | e | e | e | e <;> rw [e] <;> decide
  have hpos : (0 : Int) < 2 ^ (k % 8) := Int.pow_pos (by decide)
  have hlt : (2 : Int) ^ (k % 8) < 256 := by
    rcases (by omega : k % 8 = 0 ∨ k % 8 = 1 ∨ k % 8 = 2 ∨ k % 8 = 3 ∨ k % 8 = 4 ∨ k % 8 = 5 ∨ k % 8 = 6 ∨ k % 8 = 7) with e | e | e | e | e | e | e | e <;> rw [e] <;> decide
  rw [e3]
  refine RetX.same (hk _ _ _ _ (Ext.bd hm) ⟨_, own_all ((isB_zeros _).set (by omega) hlt) (by simp; omega) (by simp; omega), ?_, ?_⟩)
  · rw [dv_one_digit (by omega)]
    have : (256 : Int) = 2 ^ 8 := by decide
    rw [this, ← Int.pow_mul, ← Int.pow_add]; congr 1; omega
  · unfold Tr
    simp
    omega
end Go.Proofs.YgvalwGreat.X
