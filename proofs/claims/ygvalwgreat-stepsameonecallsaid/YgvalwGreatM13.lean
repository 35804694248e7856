import Derived.Test.YgvalwGreatM12
set_option linter.unusedVariables false
set_option linter.unusedSimpArgs false
namespace Go.Proofs.YgvalwGreat.X
open Go

theorem CondX.nT {a b : Prop} (hk : b) : CondX (!true) a b := CondX.ff hk
theorem CondX.nF {a b : Prop} (hk : a) : CondX (!false) a b := CondX.tt hk
theorem CondX.bF {x y : Bool} {a b : Prop} (hk : CondX y a b) : CondX (bif false then x else y) a b := hk
theorem CondX.bT {x y : Bool} {a b : Prop} (hk : CondX x a b) : CondX (bif true then x else y) a b := hk
section
variable {h : Hp} {K : Value → Hp → Prop}
set_option maxRecDepth 100000 in
set_option maxHeartbeats 4000000 in
theorem plus_ok {a b : Int} (pa : 0 ≤ a) (qa : a < 18446744073709551616) (pb : 0 ≤ b) (qb : b < 18446744073709551616) (hs : a + b < 18446744073709551616) (hk : K (.int .u64 (a + b)) h) : CallX Hval.prog 347 [.int .u64 a, .int .u64 b] h K := by
  refine CallX.of_xf T_ok Hval.func347 rfl (by kernel_rfl) (Nat.le_of_ble_eq_true rfl) ?_; conv => whnf
  refine add64_rel pa qa pb qb (by omega) (by omega) fun s d s0 s1 d0 d1 he => ?_; conv => whnf
  have : d = 0 := by omega
  subst this
  have : s = a + b := by omega
  subst this
  repeat (first | (refine CondX.tt ?_; conv => whnf) | (refine CondX.ff ?_; conv => whnf))
  exact RetX.same hk
set_option maxRecDepth 100000 in
set_option maxHeartbeats 4000000 in
theorem times_ok {a b : Nat} (qa : a < 18446744073709551616) (qb : b < 18446744073709551616) (hs : a * b < 18446744073709551616) (hk : K (.int .u64 ((a * b : Nat) : Int)) h) : CallX Hval.prog 348 [.int .u64 a, .int .u64 b] h K := by
  refine CallX.of_xf T_ok Hval.func348 rfl (by kernel_rfl) (Nat.le_of_ble_eq_true rfl) ?_; conv => whnf
  refine nMul64_ok qa qb ?_; conv => whnf
  rw [Nat.div_eq_of_lt hs, Nat.mod_eq_of_lt hs]
  repeat (first | (refine CondX.tt ?_; conv => whnf) | (refine CondX.ff ?_; conv => whnf))
  exact RetX.same hk
set_option maxRecDepth 100000 in
set_option maxHeartbeats 4000000 in
theorem memCostE_ok {wd : Nat} (hw : wd ≤ 22415) (hk : K (.int .u64 (memCost wd)) h) : CallX Hval.prog 253 [.int .u64 wd] h K := by
  have hww : wd * wd ≤ 22415 * 22415 := Nat.mul_le_mul hw hw
  generalize hs : wd * wd = q at hww
  refine CallX.of_xf T_ok Hval.func253 rfl (by kernel_rfl) (Nat.le_of_ble_eq_true rfl) ?_; conv => whnf
  refine nMul64_ok (by omega) (by omega) ?_; conv => whnf
  rw [hs, Nat.div_eq_of_lt (by omega), Nat.mod_eq_of_lt (by omega)]
  refine nDiv64_ok (hi := 0) (y := 512) (by omega) (by omega) (by omega) (fun hc => absurd hc (by omega)) fun _ => ?_; conv => whnf
  repeat (first | (refine CondX.tt ?_; conv => whnf) | (refine CondX.ff ?_; conv => whnf))
  refine times_ok (a := 3) (by omega) (by omega) (by omega) ?_; conv => whnf
  rw [Nat.zero_mul, Nat.zero_add]
  refine plus_ok (by omega) (by omega) (by omega) (by omega) (by omega) ?_; conv => whnf
  refine RetX.same ?_
  have e : (((3 * wd : Nat) : Int)) + ((q / 512 : Nat) : Int) = memCost wd := by
    unfold memCost
    rw [show (wd : Int) * wd = ((q : Nat) : Int) by rw [← hs]; exact (Int.natCast_mul ..).symm]
    omega
  rw [e]; exact hk
set_option maxRecDepth 100000 in
set_option maxHeartbeats 4000000 in
theorem small_okM {a : Nat} (ha : (a : Int) < W) (h32 : a < 4294967296) (hk : K (.int .u32 a) h) : CallX Hval.prog 282 [.agg (wc a).toArray] h K := by
  refine CallX.of_xf T_ok Hval.func282 rfl (by kernel_rfl) (Nat.le_of_ble_eq_true rfl) ?_; conv => whnf
  refine BoxX.ext fun n1 hn1 en1 => ?_; conv => whnf
  refine LoadX.all (c := wc a) (hput_same ..) rfl ?_; conv => whnf
  refine eU64_ok ha ?_; conv => whnf
  rw [if_pos (by omega), decide_eq_true (show (a : Int) < 18446744073709551616 by omega)]
  repeat (first | (refine CondX.tt ?_; conv => whnf) | (refine CondX.ff ?_; conv => whnf))
  refine CondX.dF (by omega) ?_; conv => whnf
  rw [show IntKind.u32.wrap (a : Int) = a by rw [wrap_u32]; omega]
  exact RetX.drop (h' := h) (Ext.bd hn1) hk
def srcI (a : Nat) : Nat := if a < 18446744073709551616 then a else 18446744073709551615
set_option maxRecDepth 100000 in
set_option maxHeartbeats 4000000 in
theorem source_ok {a : Nat} (ha : (a : Int) < W) (hk : K (.int .u64 (srcI a)) h) : CallX Hval.prog 280 [.agg (wc a).toArray] h K := by
  refine CallX.of_xf T_ok Hval.func280 rfl (by kernel_rfl) (Nat.le_of_ble_eq_true rfl) ?_; conv => whnf
  refine BoxX.ext fun n1 hn1 en1 => ?_; conv => whnf
  refine LoadX.all (c := wc a) (hput_same ..) rfl ?_; conv => whnf
  refine eU64_ok ha ?_; conv => whnf
  by_cases hc : a < 18446744073709551616
  · rw [if_pos (by omega), decide_eq_true (show (a : Int) < 18446744073709551616 by omega)]
    repeat (first | (refine CondX.tt ?_; conv => whnf) | (refine CondX.ff ?_; conv => whnf))
    have hk := hk
    unfold srcI at hk
    rw [if_pos hc] at hk
    exact RetX.drop (h' := h) (Ext.bd hn1) hk
  · rw [if_neg (by omega), decide_eq_false (show ¬ (a : Int) < 18446744073709551616 by omega)]
    repeat (first | (refine CondX.tt ?_; conv => whnf) | (refine CondX.ff ?_; conv => whnf))
    have hk := hk
    unfold srcI at hk
    rw [if_neg hc] at hk
    exact RetX.drop (h' := h) (Ext.bd hn1) hk
set_option maxRecDepth 100000 in
set_option maxHeartbeats 4000000 in
theorem length_ok {a : Nat} (ha : (a : Int) < W) (hc : a < 18446744073709551616) (hk : K (.int .u64 a) h) : CallX Hval.prog 341 [.agg (wc a).toArray] h K := by
  refine CallX.of_xf T_ok Hval.func341 rfl (by kernel_rfl) (Nat.le_of_ble_eq_true rfl) ?_; conv => whnf
  refine BoxX.ext fun n1 hn1 en1 => ?_; conv => whnf
  refine LoadX.all (c := wc a) (hput_same ..) rfl ?_; conv => whnf
  refine eU64_ok ha ?_; conv => whnf
  rw [if_pos (by omega)]
  exact RetX.drop (h' := h) (Ext.bd hn1) hk
theorem wordsE {n : Nat} (hn : n < 2 ^ 40) (hk : K (.int .u64 (((n : Int) + 31) / 32)) h) : CallX Hval.prog 151 [.int .u64 n] h K := by
  exact words_ok (by omega) (by omega) hk
set_option maxRecDepth 100000 in
set_option maxHeartbeats 4000000 in
theorem copyCost_ok {n : Nat} (hn : n < 2 ^ 40) (hk : K (.int .u64 (3 * (((n : Int) + 31) / 32))) h) : CallX Hval.prog 342 [.int .u64 n] h K := by
  refine CallX.of_xf T_ok Hval.func342 rfl (by kernel_rfl) (Nat.le_of_ble_eq_true rfl) ?_; conv => whnf
  refine wordsE hn ?_; conv => whnf
  rw [show IntKind.u64.wrap (3 * (((n : Int) + 31) / 32)) = 3 * (((n : Int) + 31) / 32) by rw [wrap_u64']; omega]
  exact RetX.same hk
set_option maxRecDepth 100000 in
set_option maxHeartbeats 4000000 in
theorem createsM_ok {k : Int} (hk : K (.bool (crK k)) h) : CallX Hval.prog 166 [.int .u8 k] h K := by
  refine CallX.of_xf T_ok Hval.func166 rfl (by kernel_rfl) (Nat.le_of_ble_eq_true rfl) ?_; conv => whnf
  have fin : ∀ b : Bool, crK k = b → K (.bool b) h := fun b hb => by rw [← hb]; exact hk
  refine CondX.eqI (fun h1 => ?_) (fun h1 => ?_) <;> conv => whnf
  · repeat (first | (refine CondX.tt ?_; conv => whnf) | (refine CondX.ff ?_; conv => whnf))
    exact RetX.same (fin true (by unfold crK; simp [h1]))
  · repeat (first | (refine CondX.tt ?_; conv => whnf) | (refine CondX.ff ?_; conv => whnf))
    refine CondX.eqI (fun h2 => ?_) (fun h2 => ?_) <;> conv => whnf
    · repeat (first | (refine CondX.tt ?_; conv => whnf) | (refine CondX.ff ?_; conv => whnf))
      exact RetX.same (fin true (by unfold crK; simp [h2]))
    · repeat (first | (refine CondX.tt ?_; conv => whnf) | (refine CondX.ff ?_; conv => whnf))
      refine RetX.same (fin (k == 6) ?_)
      unfold crK
      rw [Bool.eq_iff_iff, decide_eq_true_iff, beq_iff_eq]
      omega
/-- The words that a range reaches; none if that is too far. -/
def rchOk (off n : Nat) : Bool := decide (n = 0 ∨ off + n ≤ 717280)
def rchW (off n : Nat) : Int := if n = 0 ∨ 717280 < off + n then 0 else (((off + n : Nat) : Int) + 31) / 32
set_option maxRecDepth 100000 in
set_option maxHeartbeats 4000000 in
theorem reach_okM {a b : Nat} (ha : (a : Int) < W) (hb : (b : Int) < W) (hk : K (.tuple #[.int .u64 (rchW a b), .bool (rchOk a b)]) h) : CallX Hval.prog 338 [.agg (wc a).toArray, .agg (wc b).toArray] h K := by
  refine CallX.of_xf T_ok Hval.func338 rfl (by kernel_rfl) (Nat.le_of_ble_eq_true rfl) ?_; conv => whnf
  refine BoxX.ext fun n1 hn1 en1 => ?_; conv => whnf
  refine BoxX.ext fun n2 hn2 en2 => ?_; conv => whnf
  have hne : n1 ≠ n2 := fun e => by have := hn2.at; rw [← e, hput_same] at this; cases this
  have b1 : hput (hput h n1 ((wc a).toArray.toList, 75)) n2 ((wc b).toArray.toList, 75) n1 = some (wc a, 75) := by rw [hput_ne hne]; exact hput_same ..
  have b2 : hput (hput h n1 ((wc a).toArray.toList, 75)) n2 ((wc b).toArray.toList, 75) n2 = some (wc b, 75) := hput_same ..
  have hdr : Ext h (hput (hput h n1 ((wc a).toArray.toList, 75)) n2 ((wc b).toArray.toList, 75)) := en1.trans en2
  generalize hput (hput h n1 ((wc a).toArray.toList, 75)) n2 ((wc b).toArray.toList, 75) = H at *
  have fin : ∀ x b', rchW a b = x → rchOk a b = b' → K (.tuple #[.int .u64 x, .bool b']) h := fun x b' h1 h2 => by rw [← h1, ← h2]; exact hk
  refine LoadX.all b2 rfl ?_; conv => whnf
  refine eIsZero' (by omega) hb ?_; conv => whnf
  refine CondX.decI (fun h0 => ?_) (fun h0 => ?_) <;> conv => whnf
  · exact RetX.drop hdr (fin 0 true (by unfold rchW; rw [if_pos (by omega)]) (by unfold rchOk; exact decide_eq_true (by omega)))
  refine LoadX.all b2 rfl ?_; conv => whnf
  refine eU64_ok hb ?_; conv => whnf
  refine LoadX.all b1 rfl ?_; conv => whnf
  refine eU64_ok ha ?_; conv => whnf
  have no : 717280 < a + b → K (.tuple #[.int .u64 0, .bool false]) h := fun hgt => fin 0 false (by unfold rchW; rw [if_pos (by omega)]) (by unfold rchOk; exact decide_eq_false (by omega))
  by_cases hb64 : (b : Int) < 18446744073709551616
  · rw [decide_eq_true hb64, if_pos hb64]
    repeat (first | ((with_reducible refine CondX.tt ?_); conv => whnf) | ((with_reducible refine CondX.ff ?_); conv => whnf) | ((with_reducible refine CondX.nT ?_); conv => whnf) | ((with_reducible refine CondX.nF ?_); conv => whnf) | (with_reducible refine CondX.bF ?_) | (with_reducible refine CondX.bT ?_))
    by_cases ha64 : (a : Int) < 18446744073709551616
    · rw [decide_eq_true ha64, if_pos ha64]
      repeat (first | ((with_reducible refine CondX.tt ?_); conv => whnf) | ((with_reducible refine CondX.ff ?_); conv => whnf) | ((with_reducible refine CondX.nT ?_); conv => whnf) | ((with_reducible refine CondX.nF ?_); conv => whnf) | (with_reducible refine CondX.bF ?_) | (with_reducible refine CondX.bT ?_))
      refine CondX.decI (fun h1 => ?_) (fun h1 => ?_) <;> conv => whnf
      · repeat (first | ((with_reducible refine CondX.tt ?_); conv => whnf) | ((with_reducible refine CondX.ff ?_); conv => whnf) | ((with_reducible refine CondX.nT ?_); conv => whnf) | ((with_reducible refine CondX.nF ?_); conv => whnf) | (with_reducible refine CondX.bF ?_) | (with_reducible refine CondX.bT ?_))
        exact RetX.drop hdr (no (by omega))
      · repeat (first | ((with_reducible refine CondX.tt ?_); conv => whnf) | ((with_reducible refine CondX.ff ?_); conv => whnf) | ((with_reducible refine CondX.nT ?_); conv => whnf) | ((with_reducible refine CondX.nF ?_); conv => whnf) | (with_reducible refine CondX.bF ?_) | (with_reducible refine CondX.bT ?_))
        rw [show IntKind.u64.wrap (717280 - (b : Int)) = 717280 - b by rw [wrap_u64']; omega]
        refine CondX.decI (fun h2 => ?_) (fun h2 => ?_) <;> conv => whnf
        · exact RetX.drop hdr (no (by omega))
        · rw [show IntKind.u64.wrap ((a : Int) + b) = ((a + b : Nat) : Int) by rw [wrap_u64']; omega]
          refine wordsE (by omega) ?_; conv => whnf
          exact RetX.drop hdr (fin _ true (by unfold rchW; rw [if_neg (by omega)]) (by unfold rchOk; exact decide_eq_true (by omega)))
    · rw [decide_eq_false ha64]
      repeat (first | ((with_reducible refine CondX.tt ?_); conv => whnf) | ((with_reducible refine CondX.ff ?_); conv => whnf) | ((with_reducible refine CondX.nT ?_); conv => whnf) | ((with_reducible refine CondX.nF ?_); conv => whnf) | (with_reducible refine CondX.bF ?_) | (with_reducible refine CondX.bT ?_))
      exact RetX.drop hdr (no (by omega))
  · rw [decide_eq_false hb64]
    repeat (first | ((with_reducible refine CondX.tt ?_); conv => whnf) | ((with_reducible refine CondX.ff ?_); conv => whnf) | ((with_reducible refine CondX.nT ?_); conv => whnf) | ((with_reducible refine CondX.nF ?_); conv => whnf) | (with_reducible refine CondX.bF ?_) | (with_reducible refine CondX.bT ?_))
    exact RetX.drop hdr (no (by omega))
end
end Go.Proofs.YgvalwGreat.X
