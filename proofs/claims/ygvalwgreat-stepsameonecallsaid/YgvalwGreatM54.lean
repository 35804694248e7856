import Derived.Test.YgvalwGreatG1
set_option linter.unusedVariables false
set_option linter.unusedSimpArgs false
namespace Go.Proofs.YgvalwGreat.X
open Go

def TK (K : Value → Hp → Prop) : Value → Hp → Prop := fun v h' => v = .tuple #[] ∧ K (.tuple #[]) h'
section
variable {h : Hp} {K : Value → Hp → Prop} {eb : Nat}
set_option maxRecDepth 100000 in
set_option maxHeartbeats 4000000 in
theorem e_0 (hk : CallX Hval.prog 199 [.pointer (some ⟨eb, 0, none⟩)] h (TK K)) : CallX Hval.prog 116 [.pointer (some ⟨eb, 0, none⟩), .int .u8 0] h K := by
  refine CallX.of_xf T_ok Hval.func116 rfl (by kernel_rfl) (Nat.le_of_ble_eq_true rfl) ?_; conv => whnf
  repeat (first | (refine CondX.tt ?_; conv => whnf) | (refine CondX.ff ?_; conv => whnf))
  refine CallX.mono hk fun v h' hh => ?_
  obtain ⟨rfl, hh⟩ := hh
  conv => whnf
  exact RetX.same hh
set_option maxRecDepth 100000 in
set_option maxHeartbeats 4000000 in
theorem e_1 (hk : CallX Hval.prog 184 [.pointer (some ⟨eb, 0, none⟩)] h (TK K)) : CallX Hval.prog 116 [.pointer (some ⟨eb, 0, none⟩), .int .u8 1] h K := by
  refine CallX.of_xf T_ok Hval.func116 rfl (by kernel_rfl) (Nat.le_of_ble_eq_true rfl) ?_; conv => whnf
  repeat (first | (refine CondX.tt ?_; conv => whnf) | (refine CondX.ff ?_; conv => whnf))
  refine CallX.mono hk fun v h' hh => ?_
  obtain ⟨rfl, hh⟩ := hh
  conv => whnf
  exact RetX.same hh
set_option maxRecDepth 100000 in
set_option maxHeartbeats 4000000 in
theorem e_2 (hk : CallX Hval.prog 184 [.pointer (some ⟨eb, 0, none⟩)] h (TK K)) : CallX Hval.prog 116 [.pointer (some ⟨eb, 0, none⟩), .int .u8 2] h K := by
  refine CallX.of_xf T_ok Hval.func116 rfl (by kernel_rfl) (Nat.le_of_ble_eq_true rfl) ?_; conv => whnf
  repeat (first | (refine CondX.tt ?_; conv => whnf) | (refine CondX.ff ?_; conv => whnf))
  refine CallX.mono hk fun v h' hh => ?_
  obtain ⟨rfl, hh⟩ := hh
  conv => whnf
  exact RetX.same hh
set_option maxRecDepth 100000 in
set_option maxHeartbeats 4000000 in
theorem e_3 (hk : CallX Hval.prog 184 [.pointer (some ⟨eb, 0, none⟩)] h (TK K)) : CallX Hval.prog 116 [.pointer (some ⟨eb, 0, none⟩), .int .u8 3] h K := by
  refine CallX.of_xf T_ok Hval.func116 rfl (by kernel_rfl) (Nat.le_of_ble_eq_true rfl) ?_; conv => whnf
  repeat (first | (refine CondX.tt ?_; conv => whnf) | (refine CondX.ff ?_; conv => whnf))
  refine CallX.mono hk fun v h' hh => ?_
  obtain ⟨rfl, hh⟩ := hh
  conv => whnf
  exact RetX.same hh
set_option maxRecDepth 100000 in
set_option maxHeartbeats 4000000 in
theorem e_4 (hk : CallX Hval.prog 184 [.pointer (some ⟨eb, 0, none⟩)] h (TK K)) : CallX Hval.prog 116 [.pointer (some ⟨eb, 0, none⟩), .int .u8 4] h K := by
  refine CallX.of_xf T_ok Hval.func116 rfl (by kernel_rfl) (Nat.le_of_ble_eq_true rfl) ?_; conv => whnf
  repeat (first | (refine CondX.tt ?_; conv => whnf) | (refine CondX.ff ?_; conv => whnf))
  refine CallX.mono hk fun v h' hh => ?_
  obtain ⟨rfl, hh⟩ := hh
  conv => whnf
  exact RetX.same hh
set_option maxRecDepth 100000 in
set_option maxHeartbeats 4000000 in
theorem e_5 (hk : CallX Hval.prog 184 [.pointer (some ⟨eb, 0, none⟩)] h (TK K)) : CallX Hval.prog 116 [.pointer (some ⟨eb, 0, none⟩), .int .u8 5] h K := by
  refine CallX.of_xf T_ok Hval.func116 rfl (by kernel_rfl) (Nat.le_of_ble_eq_true rfl) ?_; conv => whnf
  repeat (first | (refine CondX.tt ?_; conv => whnf) | (refine CondX.ff ?_; conv => whnf))
  refine CallX.mono hk fun v h' hh => ?_
  obtain ⟨rfl, hh⟩ := hh
  conv => whnf
  exact RetX.same hh
set_option maxRecDepth 100000 in
set_option maxHeartbeats 4000000 in
theorem e_6 (hk : CallX Hval.prog 184 [.pointer (some ⟨eb, 0, none⟩)] h (TK K)) : CallX Hval.prog 116 [.pointer (some ⟨eb, 0, none⟩), .int .u8 6] h K := by
  refine CallX.of_xf T_ok Hval.func116 rfl (by kernel_rfl) (Nat.le_of_ble_eq_true rfl) ?_; conv => whnf
  repeat (first | (refine CondX.tt ?_; conv => whnf) | (refine CondX.ff ?_; conv => whnf))
  refine CallX.mono hk fun v h' hh => ?_
  obtain ⟨rfl, hh⟩ := hh
  conv => whnf
  exact RetX.same hh
set_option maxRecDepth 100000 in
set_option maxHeartbeats 4000000 in
theorem e_7 (hk : CallX Hval.prog 184 [.pointer (some ⟨eb, 0, none⟩)] h (TK K)) : CallX Hval.prog 116 [.pointer (some ⟨eb, 0, none⟩), .int .u8 7] h K := by
  refine CallX.of_xf T_ok Hval.func116 rfl (by kernel_rfl) (Nat.le_of_ble_eq_true rfl) ?_; conv => whnf
  repeat (first | (refine CondX.tt ?_; conv => whnf) | (refine CondX.ff ?_; conv => whnf))
  refine CallX.mono hk fun v h' hh => ?_
  obtain ⟨rfl, hh⟩ := hh
  conv => whnf
  exact RetX.same hh
set_option maxRecDepth 100000 in
set_option maxHeartbeats 4000000 in
theorem e_8 (hk : CallX Hval.prog 184 [.pointer (some ⟨eb, 0, none⟩)] h (TK K)) : CallX Hval.prog 116 [.pointer (some ⟨eb, 0, none⟩), .int .u8 8] h K := by
  refine CallX.of_xf T_ok Hval.func116 rfl (by kernel_rfl) (Nat.le_of_ble_eq_true rfl) ?_; conv => whnf
  repeat (first | (refine CondX.tt ?_; conv => whnf) | (refine CondX.ff ?_; conv => whnf))
  refine CallX.mono hk fun v h' hh => ?_
  obtain ⟨rfl, hh⟩ := hh
  conv => whnf
  exact RetX.same hh
set_option maxRecDepth 100000 in
set_option maxHeartbeats 4000000 in
theorem e_9 (hk : CallX Hval.prog 184 [.pointer (some ⟨eb, 0, none⟩)] h (TK K)) : CallX Hval.prog 116 [.pointer (some ⟨eb, 0, none⟩), .int .u8 9] h K := by
  refine CallX.of_xf T_ok Hval.func116 rfl (by kernel_rfl) (Nat.le_of_ble_eq_true rfl) ?_; conv => whnf
  repeat (first | (refine CondX.tt ?_; conv => whnf) | (refine CondX.ff ?_; conv => whnf))
  refine CallX.mono hk fun v h' hh => ?_
  obtain ⟨rfl, hh⟩ := hh
  conv => whnf
  exact RetX.same hh
set_option maxRecDepth 100000 in
set_option maxHeartbeats 4000000 in
theorem e_10 (hk : CallX Hval.prog 184 [.pointer (some ⟨eb, 0, none⟩)] h (TK K)) : CallX Hval.prog 116 [.pointer (some ⟨eb, 0, none⟩), .int .u8 10] h K := by
  refine CallX.of_xf T_ok Hval.func116 rfl (by kernel_rfl) (Nat.le_of_ble_eq_true rfl) ?_; conv => whnf
  repeat (first | (refine CondX.tt ?_; conv => whnf) | (refine CondX.ff ?_; conv => whnf))
  refine CallX.mono hk fun v h' hh => ?_
  obtain ⟨rfl, hh⟩ := hh
  conv => whnf
  exact RetX.same hh
set_option maxRecDepth 100000 in
set_option maxHeartbeats 4000000 in
theorem e_11 (hk : CallX Hval.prog 184 [.pointer (some ⟨eb, 0, none⟩)] h (TK K)) : CallX Hval.prog 116 [.pointer (some ⟨eb, 0, none⟩), .int .u8 11] h K := by
  refine CallX.of_xf T_ok Hval.func116 rfl (by kernel_rfl) (Nat.le_of_ble_eq_true rfl) ?_; conv => whnf
  repeat (first | (refine CondX.tt ?_; conv => whnf) | (refine CondX.ff ?_; conv => whnf))
  refine CallX.mono hk fun v h' hh => ?_
  obtain ⟨rfl, hh⟩ := hh
  conv => whnf
  exact RetX.same hh
set_option maxRecDepth 100000 in
set_option maxHeartbeats 4000000 in
theorem e_16 (hk : CallX Hval.prog 185 [.pointer (some ⟨eb, 0, none⟩)] h (TK K)) : CallX Hval.prog 116 [.pointer (some ⟨eb, 0, none⟩), .int .u8 16] h K := by
  refine CallX.of_xf T_ok Hval.func116 rfl (by kernel_rfl) (Nat.le_of_ble_eq_true rfl) ?_; conv => whnf
  repeat (first | (refine CondX.tt ?_; conv => whnf) | (refine CondX.ff ?_; conv => whnf))
  refine CallX.mono hk fun v h' hh => ?_
  obtain ⟨rfl, hh⟩ := hh
  conv => whnf
  exact RetX.same hh
set_option maxRecDepth 100000 in
set_option maxHeartbeats 4000000 in
theorem e_17 (hk : CallX Hval.prog 185 [.pointer (some ⟨eb, 0, none⟩)] h (TK K)) : CallX Hval.prog 116 [.pointer (some ⟨eb, 0, none⟩), .int .u8 17] h K := by
  refine CallX.of_xf T_ok Hval.func116 rfl (by kernel_rfl) (Nat.le_of_ble_eq_true rfl) ?_; conv => whnf
  repeat (first | (refine CondX.tt ?_; conv => whnf) | (refine CondX.ff ?_; conv => whnf))
  refine CallX.mono hk fun v h' hh => ?_
  obtain ⟨rfl, hh⟩ := hh
  conv => whnf
  exact RetX.same hh
set_option maxRecDepth 100000 in
set_option maxHeartbeats 4000000 in
theorem e_18 (hk : CallX Hval.prog 185 [.pointer (some ⟨eb, 0, none⟩)] h (TK K)) : CallX Hval.prog 116 [.pointer (some ⟨eb, 0, none⟩), .int .u8 18] h K := by
  refine CallX.of_xf T_ok Hval.func116 rfl (by kernel_rfl) (Nat.le_of_ble_eq_true rfl) ?_; conv => whnf
  repeat (first | (refine CondX.tt ?_; conv => whnf) | (refine CondX.ff ?_; conv => whnf))
  refine CallX.mono hk fun v h' hh => ?_
  obtain ⟨rfl, hh⟩ := hh
  conv => whnf
  exact RetX.same hh
set_option maxRecDepth 100000 in
set_option maxHeartbeats 4000000 in
theorem e_19 (hk : CallX Hval.prog 185 [.pointer (some ⟨eb, 0, none⟩)] h (TK K)) : CallX Hval.prog 116 [.pointer (some ⟨eb, 0, none⟩), .int .u8 19] h K := by
  refine CallX.of_xf T_ok Hval.func116 rfl (by kernel_rfl) (Nat.le_of_ble_eq_true rfl) ?_; conv => whnf
  repeat (first | (refine CondX.tt ?_; conv => whnf) | (refine CondX.ff ?_; conv => whnf))
  refine CallX.mono hk fun v h' hh => ?_
  obtain ⟨rfl, hh⟩ := hh
  conv => whnf
  exact RetX.same hh
set_option maxRecDepth 100000 in
set_option maxHeartbeats 4000000 in
theorem e_20 (hk : CallX Hval.prog 185 [.pointer (some ⟨eb, 0, none⟩)] h (TK K)) : CallX Hval.prog 116 [.pointer (some ⟨eb, 0, none⟩), .int .u8 20] h K := by
  refine CallX.of_xf T_ok Hval.func116 rfl (by kernel_rfl) (Nat.le_of_ble_eq_true rfl) ?_; conv => whnf
  repeat (first | (refine CondX.tt ?_; conv => whnf) | (refine CondX.ff ?_; conv => whnf))
  refine CallX.mono hk fun v h' hh => ?_
  obtain ⟨rfl, hh⟩ := hh
  conv => whnf
  exact RetX.same hh
set_option maxRecDepth 100000 in
set_option maxHeartbeats 4000000 in
theorem e_21 (hk : CallX Hval.prog 185 [.pointer (some ⟨eb, 0, none⟩)] h (TK K)) : CallX Hval.prog 116 [.pointer (some ⟨eb, 0, none⟩), .int .u8 21] h K := by
  refine CallX.of_xf T_ok Hval.func116 rfl (by kernel_rfl) (Nat.le_of_ble_eq_true rfl) ?_; conv => whnf
  repeat (first | (refine CondX.tt ?_; conv => whnf) | (refine CondX.ff ?_; conv => whnf))
  refine CallX.mono hk fun v h' hh => ?_
  obtain ⟨rfl, hh⟩ := hh
  conv => whnf
  exact RetX.same hh
set_option maxRecDepth 100000 in
set_option maxHeartbeats 4000000 in
theorem e_22 (hk : CallX Hval.prog 186 [.pointer (some ⟨eb, 0, none⟩)] h (TK K)) : CallX Hval.prog 116 [.pointer (some ⟨eb, 0, none⟩), .int .u8 22] h K := by
  refine CallX.of_xf T_ok Hval.func116 rfl (by kernel_rfl) (Nat.le_of_ble_eq_true rfl) ?_; conv => whnf
  repeat (first | (refine CondX.tt ?_; conv => whnf) | (refine CondX.ff ?_; conv => whnf))
  refine CallX.mono hk fun v h' hh => ?_
  obtain ⟨rfl, hh⟩ := hh
  conv => whnf
  exact RetX.same hh
set_option maxRecDepth 100000 in
set_option maxHeartbeats 4000000 in
theorem e_23 (hk : CallX Hval.prog 186 [.pointer (some ⟨eb, 0, none⟩)] h (TK K)) : CallX Hval.prog 116 [.pointer (some ⟨eb, 0, none⟩), .int .u8 23] h K := by
  refine CallX.of_xf T_ok Hval.func116 rfl (by kernel_rfl) (Nat.le_of_ble_eq_true rfl) ?_; conv => whnf
  repeat (first | (refine CondX.tt ?_; conv => whnf) | (refine CondX.ff ?_; conv => whnf))
  refine CallX.mono hk fun v h' hh => ?_
  obtain ⟨rfl, hh⟩ := hh
  conv => whnf
  exact RetX.same hh
set_option maxRecDepth 100000 in
set_option maxHeartbeats 4000000 in
theorem e_24 (hk : CallX Hval.prog 186 [.pointer (some ⟨eb, 0, none⟩)] h (TK K)) : CallX Hval.prog 116 [.pointer (some ⟨eb, 0, none⟩), .int .u8 24] h K := by
  refine CallX.of_xf T_ok Hval.func116 rfl (by kernel_rfl) (Nat.le_of_ble_eq_true rfl) ?_; conv => whnf
  repeat (first | (refine CondX.tt ?_; conv => whnf) | (refine CondX.ff ?_; conv => whnf))
  refine CallX.mono hk fun v h' hh => ?_
  obtain ⟨rfl, hh⟩ := hh
  conv => whnf
  exact RetX.same hh
set_option maxRecDepth 100000 in
set_option maxHeartbeats 4000000 in
theorem e_25 (hk : CallX Hval.prog 186 [.pointer (some ⟨eb, 0, none⟩)] h (TK K)) : CallX Hval.prog 116 [.pointer (some ⟨eb, 0, none⟩), .int .u8 25] h K := by
  refine CallX.of_xf T_ok Hval.func116 rfl (by kernel_rfl) (Nat.le_of_ble_eq_true rfl) ?_; conv => whnf
  repeat (first | (refine CondX.tt ?_; conv => whnf) | (refine CondX.ff ?_; conv => whnf))
  refine CallX.mono hk fun v h' hh => ?_
  obtain ⟨rfl, hh⟩ := hh
  conv => whnf
  exact RetX.same hh
set_option maxRecDepth 100000 in
set_option maxHeartbeats 4000000 in
theorem e_26 (hk : CallX Hval.prog 186 [.pointer (some ⟨eb, 0, none⟩)] h (TK K)) : CallX Hval.prog 116 [.pointer (some ⟨eb, 0, none⟩), .int .u8 26] h K := by
  refine CallX.of_xf T_ok Hval.func116 rfl (by kernel_rfl) (Nat.le_of_ble_eq_true rfl) ?_; conv => whnf
  repeat (first | (refine CondX.tt ?_; conv => whnf) | (refine CondX.ff ?_; conv => whnf))
  refine CallX.mono hk fun v h' hh => ?_
  obtain ⟨rfl, hh⟩ := hh
  conv => whnf
  exact RetX.same hh
set_option maxRecDepth 100000 in
set_option maxHeartbeats 4000000 in
theorem e_27 (hk : CallX Hval.prog 186 [.pointer (some ⟨eb, 0, none⟩)] h (TK K)) : CallX Hval.prog 116 [.pointer (some ⟨eb, 0, none⟩), .int .u8 27] h K := by
  refine CallX.of_xf T_ok Hval.func116 rfl (by kernel_rfl) (Nat.le_of_ble_eq_true rfl) ?_; conv => whnf
  repeat (first | (refine CondX.tt ?_; conv => whnf) | (refine CondX.ff ?_; conv => whnf))
  refine CallX.mono hk fun v h' hh => ?_
  obtain ⟨rfl, hh⟩ := hh
  conv => whnf
  exact RetX.same hh
set_option maxRecDepth 100000 in
set_option maxHeartbeats 4000000 in
theorem e_28 (hk : CallX Hval.prog 186 [.pointer (some ⟨eb, 0, none⟩)] h (TK K)) : CallX Hval.prog 116 [.pointer (some ⟨eb, 0, none⟩), .int .u8 28] h K := by
  refine CallX.of_xf T_ok Hval.func116 rfl (by kernel_rfl) (Nat.le_of_ble_eq_true rfl) ?_; conv => whnf
  repeat (first | (refine CondX.tt ?_; conv => whnf) | (refine CondX.ff ?_; conv => whnf))
  refine CallX.mono hk fun v h' hh => ?_
  obtain ⟨rfl, hh⟩ := hh
  conv => whnf
  exact RetX.same hh
set_option maxRecDepth 100000 in
set_option maxHeartbeats 4000000 in
theorem e_29 (hk : CallX Hval.prog 186 [.pointer (some ⟨eb, 0, none⟩)] h (TK K)) : CallX Hval.prog 116 [.pointer (some ⟨eb, 0, none⟩), .int .u8 29] h K := by
  refine CallX.of_xf T_ok Hval.func116 rfl (by kernel_rfl) (Nat.le_of_ble_eq_true rfl) ?_; conv => whnf
  repeat (first | (refine CondX.tt ?_; conv => whnf) | (refine CondX.ff ?_; conv => whnf))
  refine CallX.mono hk fun v h' hh => ?_
  obtain ⟨rfl, hh⟩ := hh
  conv => whnf
  exact RetX.same hh
set_option maxRecDepth 100000 in
set_option maxHeartbeats 4000000 in
theorem e_32 (hk : CallX Hval.prog 187 [.pointer (some ⟨eb, 0, none⟩)] h (TK K)) : CallX Hval.prog 116 [.pointer (some ⟨eb, 0, none⟩), .int .u8 32] h K := by
  refine CallX.of_xf T_ok Hval.func116 rfl (by kernel_rfl) (Nat.le_of_ble_eq_true rfl) ?_; conv => whnf
  repeat (first | (refine CondX.tt ?_; conv => whnf) | (refine CondX.ff ?_; conv => whnf))
  refine CallX.mono hk fun v h' hh => ?_
  obtain ⟨rfl, hh⟩ := hh
  conv => whnf
  exact RetX.same hh
set_option maxRecDepth 100000 in
set_option maxHeartbeats 4000000 in
theorem e_48 (hk : CallX Hval.prog 189 [.pointer (some ⟨eb, 0, none⟩)] h (TK K)) : CallX Hval.prog 116 [.pointer (some ⟨eb, 0, none⟩), .int .u8 48] h K := by
  refine CallX.of_xf T_ok Hval.func116 rfl (by kernel_rfl) (Nat.le_of_ble_eq_true rfl) ?_; conv => whnf
  repeat (first | (refine CondX.tt ?_; conv => whnf) | (refine CondX.ff ?_; conv => whnf))
  refine CallX.mono hk fun v h' hh => ?_
  obtain ⟨rfl, hh⟩ := hh
  conv => whnf
  exact RetX.same hh
set_option maxRecDepth 100000 in
set_option maxHeartbeats 4000000 in
theorem e_49 (hk : CallX Hval.prog 188 [.pointer (some ⟨eb, 0, none⟩)] h (TK K)) : CallX Hval.prog 116 [.pointer (some ⟨eb, 0, none⟩), .int .u8 49] h K := by
  refine CallX.of_xf T_ok Hval.func116 rfl (by kernel_rfl) (Nat.le_of_ble_eq_true rfl) ?_; conv => whnf
  repeat (first | (refine CondX.tt ?_; conv => whnf) | (refine CondX.ff ?_; conv => whnf))
  refine CallX.mono hk fun v h' hh => ?_
  obtain ⟨rfl, hh⟩ := hh
  conv => whnf
  exact RetX.same hh
set_option maxRecDepth 100000 in
set_option maxHeartbeats 4000000 in
theorem e_50 (hk : CallX Hval.prog 189 [.pointer (some ⟨eb, 0, none⟩)] h (TK K)) : CallX Hval.prog 116 [.pointer (some ⟨eb, 0, none⟩), .int .u8 50] h K := by
  refine CallX.of_xf T_ok Hval.func116 rfl (by kernel_rfl) (Nat.le_of_ble_eq_true rfl) ?_; conv => whnf
  repeat (first | (refine CondX.tt ?_; conv => whnf) | (refine CondX.ff ?_; conv => whnf))
  refine CallX.mono hk fun v h' hh => ?_
  obtain ⟨rfl, hh⟩ := hh
  conv => whnf
  exact RetX.same hh
set_option maxRecDepth 100000 in
set_option maxHeartbeats 4000000 in
theorem e_51 (hk : CallX Hval.prog 189 [.pointer (some ⟨eb, 0, none⟩)] h (TK K)) : CallX Hval.prog 116 [.pointer (some ⟨eb, 0, none⟩), .int .u8 51] h K := by
  refine CallX.of_xf T_ok Hval.func116 rfl (by kernel_rfl) (Nat.le_of_ble_eq_true rfl) ?_; conv => whnf
  repeat (first | (refine CondX.tt ?_; conv => whnf) | (refine CondX.ff ?_; conv => whnf))
  refine CallX.mono hk fun v h' hh => ?_
  obtain ⟨rfl, hh⟩ := hh
  conv => whnf
  exact RetX.same hh
set_option maxRecDepth 100000 in
set_option maxHeartbeats 4000000 in
theorem e_52 (hk : CallX Hval.prog 189 [.pointer (some ⟨eb, 0, none⟩)] h (TK K)) : CallX Hval.prog 116 [.pointer (some ⟨eb, 0, none⟩), .int .u8 52] h K := by
  refine CallX.of_xf T_ok Hval.func116 rfl (by kernel_rfl) (Nat.le_of_ble_eq_true rfl) ?_; conv => whnf
  repeat (first | (refine CondX.tt ?_; conv => whnf) | (refine CondX.ff ?_; conv => whnf))
  refine CallX.mono hk fun v h' hh => ?_
  obtain ⟨rfl, hh⟩ := hh
  conv => whnf
  exact RetX.same hh
set_option maxRecDepth 100000 in
set_option maxHeartbeats 4000000 in
theorem e_53 (hk : CallX Hval.prog 189 [.pointer (some ⟨eb, 0, none⟩)] h (TK K)) : CallX Hval.prog 116 [.pointer (some ⟨eb, 0, none⟩), .int .u8 53] h K := by
  refine CallX.of_xf T_ok Hval.func116 rfl (by kernel_rfl) (Nat.le_of_ble_eq_true rfl) ?_; conv => whnf
  repeat (first | (refine CondX.tt ?_; conv => whnf) | (refine CondX.ff ?_; conv => whnf))
  refine CallX.mono hk fun v h' hh => ?_
  obtain ⟨rfl, hh⟩ := hh
  conv => whnf
  exact RetX.same hh
set_option maxRecDepth 100000 in
set_option maxHeartbeats 4000000 in
theorem e_54 (hk : CallX Hval.prog 189 [.pointer (some ⟨eb, 0, none⟩)] h (TK K)) : CallX Hval.prog 116 [.pointer (some ⟨eb, 0, none⟩), .int .u8 54] h K := by
  refine CallX.of_xf T_ok Hval.func116 rfl (by kernel_rfl) (Nat.le_of_ble_eq_true rfl) ?_; conv => whnf
  repeat (first | (refine CondX.tt ?_; conv => whnf) | (refine CondX.ff ?_; conv => whnf))
  refine CallX.mono hk fun v h' hh => ?_
  obtain ⟨rfl, hh⟩ := hh
  conv => whnf
  exact RetX.same hh
set_option maxRecDepth 100000 in
set_option maxHeartbeats 4000000 in
theorem e_55 (hk : CallX Hval.prog 190 [.pointer (some ⟨eb, 0, none⟩)] h (TK K)) : CallX Hval.prog 116 [.pointer (some ⟨eb, 0, none⟩), .int .u8 55] h K := by
  refine CallX.of_xf T_ok Hval.func116 rfl (by kernel_rfl) (Nat.le_of_ble_eq_true rfl) ?_; conv => whnf
  repeat (first | (refine CondX.tt ?_; conv => whnf) | (refine CondX.ff ?_; conv => whnf))
  refine CallX.mono hk fun v h' hh => ?_
  obtain ⟨rfl, hh⟩ := hh
  conv => whnf
  exact RetX.same hh
set_option maxRecDepth 100000 in
set_option maxHeartbeats 4000000 in
theorem e_56 (hk : CallX Hval.prog 189 [.pointer (some ⟨eb, 0, none⟩)] h (TK K)) : CallX Hval.prog 116 [.pointer (some ⟨eb, 0, none⟩), .int .u8 56] h K := by
  refine CallX.of_xf T_ok Hval.func116 rfl (by kernel_rfl) (Nat.le_of_ble_eq_true rfl) ?_; conv => whnf
  repeat (first | (refine CondX.tt ?_; conv => whnf) | (refine CondX.ff ?_; conv => whnf))
  refine CallX.mono hk fun v h' hh => ?_
  obtain ⟨rfl, hh⟩ := hh
  conv => whnf
  exact RetX.same hh
set_option maxRecDepth 100000 in
set_option maxHeartbeats 4000000 in
theorem e_57 (hk : CallX Hval.prog 190 [.pointer (some ⟨eb, 0, none⟩)] h (TK K)) : CallX Hval.prog 116 [.pointer (some ⟨eb, 0, none⟩), .int .u8 57] h K := by
  refine CallX.of_xf T_ok Hval.func116 rfl (by kernel_rfl) (Nat.le_of_ble_eq_true rfl) ?_; conv => whnf
  repeat (first | (refine CondX.tt ?_; conv => whnf) | (refine CondX.ff ?_; conv => whnf))
  refine CallX.mono hk fun v h' hh => ?_
  obtain ⟨rfl, hh⟩ := hh
  conv => whnf
  exact RetX.same hh
set_option maxRecDepth 100000 in
set_option maxHeartbeats 4000000 in
theorem e_58 (hk : CallX Hval.prog 189 [.pointer (some ⟨eb, 0, none⟩)] h (TK K)) : CallX Hval.prog 116 [.pointer (some ⟨eb, 0, none⟩), .int .u8 58] h K := by
  refine CallX.of_xf T_ok Hval.func116 rfl (by kernel_rfl) (Nat.le_of_ble_eq_true rfl) ?_; conv => whnf
  repeat (first | (refine CondX.tt ?_; conv => whnf) | (refine CondX.ff ?_; conv => whnf))
  refine CallX.mono hk fun v h' hh => ?_
  obtain ⟨rfl, hh⟩ := hh
  conv => whnf
  exact RetX.same hh
set_option maxRecDepth 100000 in
set_option maxHeartbeats 4000000 in
theorem e_59 (hk : CallX Hval.prog 188 [.pointer (some ⟨eb, 0, none⟩)] h (TK K)) : CallX Hval.prog 116 [.pointer (some ⟨eb, 0, none⟩), .int .u8 59] h K := by
  refine CallX.of_xf T_ok Hval.func116 rfl (by kernel_rfl) (Nat.le_of_ble_eq_true rfl) ?_; conv => whnf
  repeat (first | (refine CondX.tt ?_; conv => whnf) | (refine CondX.ff ?_; conv => whnf))
  refine CallX.mono hk fun v h' hh => ?_
  obtain ⟨rfl, hh⟩ := hh
  conv => whnf
  exact RetX.same hh
set_option maxRecDepth 100000 in
set_option maxHeartbeats 4000000 in
theorem e_60 (hk : CallX Hval.prog 190 [.pointer (some ⟨eb, 0, none⟩)] h (TK K)) : CallX Hval.prog 116 [.pointer (some ⟨eb, 0, none⟩), .int .u8 60] h K := by
  refine CallX.of_xf T_ok Hval.func116 rfl (by kernel_rfl) (Nat.le_of_ble_eq_true rfl) ?_; conv => whnf
  repeat (first | (refine CondX.tt ?_; conv => whnf) | (refine CondX.ff ?_; conv => whnf))
  refine CallX.mono hk fun v h' hh => ?_
  obtain ⟨rfl, hh⟩ := hh
  conv => whnf
  exact RetX.same hh
set_option maxRecDepth 100000 in
set_option maxHeartbeats 4000000 in
theorem e_61 (hk : CallX Hval.prog 189 [.pointer (some ⟨eb, 0, none⟩)] h (TK K)) : CallX Hval.prog 116 [.pointer (some ⟨eb, 0, none⟩), .int .u8 61] h K := by
  refine CallX.of_xf T_ok Hval.func116 rfl (by kernel_rfl) (Nat.le_of_ble_eq_true rfl) ?_; conv => whnf
  repeat (first | (refine CondX.tt ?_; conv => whnf) | (refine CondX.ff ?_; conv => whnf))
  refine CallX.mono hk fun v h' hh => ?_
  obtain ⟨rfl, hh⟩ := hh
  conv => whnf
  exact RetX.same hh
set_option maxRecDepth 100000 in
set_option maxHeartbeats 4000000 in
theorem e_62 (hk : CallX Hval.prog 190 [.pointer (some ⟨eb, 0, none⟩)] h (TK K)) : CallX Hval.prog 116 [.pointer (some ⟨eb, 0, none⟩), .int .u8 62] h K := by
  refine CallX.of_xf T_ok Hval.func116 rfl (by kernel_rfl) (Nat.le_of_ble_eq_true rfl) ?_; conv => whnf
  repeat (first | (refine CondX.tt ?_; conv => whnf) | (refine CondX.ff ?_; conv => whnf))
  refine CallX.mono hk fun v h' hh => ?_
  obtain ⟨rfl, hh⟩ := hh
  conv => whnf
  exact RetX.same hh
set_option maxRecDepth 100000 in
set_option maxHeartbeats 4000000 in
theorem e_63 (hk : CallX Hval.prog 188 [.pointer (some ⟨eb, 0, none⟩)] h (TK K)) : CallX Hval.prog 116 [.pointer (some ⟨eb, 0, none⟩), .int .u8 63] h K := by
  refine CallX.of_xf T_ok Hval.func116 rfl (by kernel_rfl) (Nat.le_of_ble_eq_true rfl) ?_; conv => whnf
  repeat (first | (refine CondX.tt ?_; conv => whnf) | (refine CondX.ff ?_; conv => whnf))
  refine CallX.mono hk fun v h' hh => ?_
  obtain ⟨rfl, hh⟩ := hh
  conv => whnf
  exact RetX.same hh
set_option maxRecDepth 100000 in
set_option maxHeartbeats 4000000 in
theorem e_64 (hk : CallX Hval.prog 191 [.pointer (some ⟨eb, 0, none⟩)] h (TK K)) : CallX Hval.prog 116 [.pointer (some ⟨eb, 0, none⟩), .int .u8 64] h K := by
  refine CallX.of_xf T_ok Hval.func116 rfl (by kernel_rfl) (Nat.le_of_ble_eq_true rfl) ?_; conv => whnf
  repeat (first | (refine CondX.tt ?_; conv => whnf) | (refine CondX.ff ?_; conv => whnf))
  refine CallX.mono hk fun v h' hh => ?_
  obtain ⟨rfl, hh⟩ := hh
  conv => whnf
  exact RetX.same hh
set_option maxRecDepth 100000 in
set_option maxHeartbeats 4000000 in
theorem e_65 (hk : CallX Hval.prog 191 [.pointer (some ⟨eb, 0, none⟩)] h (TK K)) : CallX Hval.prog 116 [.pointer (some ⟨eb, 0, none⟩), .int .u8 65] h K := by
  refine CallX.of_xf T_ok Hval.func116 rfl (by kernel_rfl) (Nat.le_of_ble_eq_true rfl) ?_; conv => whnf
  repeat (first | (refine CondX.tt ?_; conv => whnf) | (refine CondX.ff ?_; conv => whnf))
  refine CallX.mono hk fun v h' hh => ?_
  obtain ⟨rfl, hh⟩ := hh
  conv => whnf
  exact RetX.same hh
set_option maxRecDepth 100000 in
set_option maxHeartbeats 4000000 in
theorem e_66 (hk : CallX Hval.prog 191 [.pointer (some ⟨eb, 0, none⟩)] h (TK K)) : CallX Hval.prog 116 [.pointer (some ⟨eb, 0, none⟩), .int .u8 66] h K := by
  refine CallX.of_xf T_ok Hval.func116 rfl (by kernel_rfl) (Nat.le_of_ble_eq_true rfl) ?_; conv => whnf
  repeat (first | (refine CondX.tt ?_; conv => whnf) | (refine CondX.ff ?_; conv => whnf))
  refine CallX.mono hk fun v h' hh => ?_
  obtain ⟨rfl, hh⟩ := hh
  conv => whnf
  exact RetX.same hh
set_option maxRecDepth 100000 in
set_option maxHeartbeats 4000000 in
theorem e_67 (hk : CallX Hval.prog 191 [.pointer (some ⟨eb, 0, none⟩)] h (TK K)) : CallX Hval.prog 116 [.pointer (some ⟨eb, 0, none⟩), .int .u8 67] h K := by
  refine CallX.of_xf T_ok Hval.func116 rfl (by kernel_rfl) (Nat.le_of_ble_eq_true rfl) ?_; conv => whnf
  repeat (first | (refine CondX.tt ?_; conv => whnf) | (refine CondX.ff ?_; conv => whnf))
  refine CallX.mono hk fun v h' hh => ?_
  obtain ⟨rfl, hh⟩ := hh
  conv => whnf
  exact RetX.same hh
set_option maxRecDepth 100000 in
set_option maxHeartbeats 4000000 in
theorem e_68 (hk : CallX Hval.prog 191 [.pointer (some ⟨eb, 0, none⟩)] h (TK K)) : CallX Hval.prog 116 [.pointer (some ⟨eb, 0, none⟩), .int .u8 68] h K := by
  refine CallX.of_xf T_ok Hval.func116 rfl (by kernel_rfl) (Nat.le_of_ble_eq_true rfl) ?_; conv => whnf
  repeat (first | (refine CondX.tt ?_; conv => whnf) | (refine CondX.ff ?_; conv => whnf))
  refine CallX.mono hk fun v h' hh => ?_
  obtain ⟨rfl, hh⟩ := hh
  conv => whnf
  exact RetX.same hh
set_option maxRecDepth 100000 in
set_option maxHeartbeats 4000000 in
theorem e_69 (hk : CallX Hval.prog 191 [.pointer (some ⟨eb, 0, none⟩)] h (TK K)) : CallX Hval.prog 116 [.pointer (some ⟨eb, 0, none⟩), .int .u8 69] h K := by
  refine CallX.of_xf T_ok Hval.func116 rfl (by kernel_rfl) (Nat.le_of_ble_eq_true rfl) ?_; conv => whnf
  repeat (first | (refine CondX.tt ?_; conv => whnf) | (refine CondX.ff ?_; conv => whnf))
  refine CallX.mono hk fun v h' hh => ?_
  obtain ⟨rfl, hh⟩ := hh
  conv => whnf
  exact RetX.same hh
set_option maxRecDepth 100000 in
set_option maxHeartbeats 4000000 in
theorem e_70 (hk : CallX Hval.prog 191 [.pointer (some ⟨eb, 0, none⟩)] h (TK K)) : CallX Hval.prog 116 [.pointer (some ⟨eb, 0, none⟩), .int .u8 70] h K := by
  refine CallX.of_xf T_ok Hval.func116 rfl (by kernel_rfl) (Nat.le_of_ble_eq_true rfl) ?_; conv => whnf
  repeat (first | (refine CondX.tt ?_; conv => whnf) | (refine CondX.ff ?_; conv => whnf))
  refine CallX.mono hk fun v h' hh => ?_
  obtain ⟨rfl, hh⟩ := hh
  conv => whnf
  exact RetX.same hh
set_option maxRecDepth 100000 in
set_option maxHeartbeats 4000000 in
theorem e_71 (hk : CallX Hval.prog 189 [.pointer (some ⟨eb, 0, none⟩)] h (TK K)) : CallX Hval.prog 116 [.pointer (some ⟨eb, 0, none⟩), .int .u8 71] h K := by
  refine CallX.of_xf T_ok Hval.func116 rfl (by kernel_rfl) (Nat.le_of_ble_eq_true rfl) ?_; conv => whnf
  repeat (first | (refine CondX.tt ?_; conv => whnf) | (refine CondX.ff ?_; conv => whnf))
  refine CallX.mono hk fun v h' hh => ?_
  obtain ⟨rfl, hh⟩ := hh
  conv => whnf
  exact RetX.same hh
set_option maxRecDepth 100000 in
set_option maxHeartbeats 4000000 in
theorem e_72 (hk : CallX Hval.prog 191 [.pointer (some ⟨eb, 0, none⟩)] h (TK K)) : CallX Hval.prog 116 [.pointer (some ⟨eb, 0, none⟩), .int .u8 72] h K := by
  refine CallX.of_xf T_ok Hval.func116 rfl (by kernel_rfl) (Nat.le_of_ble_eq_true rfl) ?_; conv => whnf
  repeat (first | (refine CondX.tt ?_; conv => whnf) | (refine CondX.ff ?_; conv => whnf))
  refine CallX.mono hk fun v h' hh => ?_
  obtain ⟨rfl, hh⟩ := hh
  conv => whnf
  exact RetX.same hh
set_option maxRecDepth 100000 in
set_option maxHeartbeats 4000000 in
theorem e_80 (hk : CallX Hval.prog 200 [.pointer (some ⟨eb, 0, none⟩)] h (TK K)) : CallX Hval.prog 116 [.pointer (some ⟨eb, 0, none⟩), .int .u8 80] h K := by
  refine CallX.of_xf T_ok Hval.func116 rfl (by kernel_rfl) (Nat.le_of_ble_eq_true rfl) ?_; conv => whnf
  repeat (first | (refine CondX.tt ?_; conv => whnf) | (refine CondX.ff ?_; conv => whnf))
  refine CallX.mono hk fun v h' hh => ?_
  obtain ⟨rfl, hh⟩ := hh
  conv => whnf
  exact RetX.same hh
set_option maxRecDepth 100000 in
set_option maxHeartbeats 4000000 in
theorem e_81 (hk : CallX Hval.prog 192 [.pointer (some ⟨eb, 0, none⟩)] h (TK K)) : CallX Hval.prog 116 [.pointer (some ⟨eb, 0, none⟩), .int .u8 81] h K := by
  refine CallX.of_xf T_ok Hval.func116 rfl (by kernel_rfl) (Nat.le_of_ble_eq_true rfl) ?_; conv => whnf
  repeat (first | (refine CondX.tt ?_; conv => whnf) | (refine CondX.ff ?_; conv => whnf))
  refine CallX.mono hk fun v h' hh => ?_
  obtain ⟨rfl, hh⟩ := hh
  conv => whnf
  exact RetX.same hh
set_option maxRecDepth 100000 in
set_option maxHeartbeats 4000000 in
theorem e_82 (hk : CallX Hval.prog 192 [.pointer (some ⟨eb, 0, none⟩)] h (TK K)) : CallX Hval.prog 116 [.pointer (some ⟨eb, 0, none⟩), .int .u8 82] h K := by
  refine CallX.of_xf T_ok Hval.func116 rfl (by kernel_rfl) (Nat.le_of_ble_eq_true rfl) ?_; conv => whnf
  repeat (first | (refine CondX.tt ?_; conv => whnf) | (refine CondX.ff ?_; conv => whnf))
  refine CallX.mono hk fun v h' hh => ?_
  obtain ⟨rfl, hh⟩ := hh
  conv => whnf
  exact RetX.same hh
set_option maxRecDepth 100000 in
set_option maxHeartbeats 4000000 in
theorem e_83 (hk : CallX Hval.prog 192 [.pointer (some ⟨eb, 0, none⟩)] h (TK K)) : CallX Hval.prog 116 [.pointer (some ⟨eb, 0, none⟩), .int .u8 83] h K := by
  refine CallX.of_xf T_ok Hval.func116 rfl (by kernel_rfl) (Nat.le_of_ble_eq_true rfl) ?_; conv => whnf
  repeat (first | (refine CondX.tt ?_; conv => whnf) | (refine CondX.ff ?_; conv => whnf))
  refine CallX.mono hk fun v h' hh => ?_
  obtain ⟨rfl, hh⟩ := hh
  conv => whnf
  exact RetX.same hh
set_option maxRecDepth 100000 in
set_option maxHeartbeats 4000000 in
theorem e_84 (hk : CallX Hval.prog 193 [.pointer (some ⟨eb, 0, none⟩)] h (TK K)) : CallX Hval.prog 116 [.pointer (some ⟨eb, 0, none⟩), .int .u8 84] h K := by
  refine CallX.of_xf T_ok Hval.func116 rfl (by kernel_rfl) (Nat.le_of_ble_eq_true rfl) ?_; conv => whnf
  repeat (first | (refine CondX.tt ?_; conv => whnf) | (refine CondX.ff ?_; conv => whnf))
  refine CallX.mono hk fun v h' hh => ?_
  obtain ⟨rfl, hh⟩ := hh
  conv => whnf
  exact RetX.same hh
set_option maxRecDepth 100000 in
set_option maxHeartbeats 4000000 in
theorem e_85 (hk : CallX Hval.prog 193 [.pointer (some ⟨eb, 0, none⟩)] h (TK K)) : CallX Hval.prog 116 [.pointer (some ⟨eb, 0, none⟩), .int .u8 85] h K := by
  refine CallX.of_xf T_ok Hval.func116 rfl (by kernel_rfl) (Nat.le_of_ble_eq_true rfl) ?_; conv => whnf
  repeat (first | (refine CondX.tt ?_; conv => whnf) | (refine CondX.ff ?_; conv => whnf))
  refine CallX.mono hk fun v h' hh => ?_
  obtain ⟨rfl, hh⟩ := hh
  conv => whnf
  exact RetX.same hh
set_option maxRecDepth 100000 in
set_option maxHeartbeats 4000000 in
theorem e_86 (hk : CallX Hval.prog 194 [.pointer (some ⟨eb, 0, none⟩)] h (TK K)) : CallX Hval.prog 116 [.pointer (some ⟨eb, 0, none⟩), .int .u8 86] h K := by
  refine CallX.of_xf T_ok Hval.func116 rfl (by kernel_rfl) (Nat.le_of_ble_eq_true rfl) ?_; conv => whnf
  repeat (first | (refine CondX.tt ?_; conv => whnf) | (refine CondX.ff ?_; conv => whnf))
  refine CallX.mono hk fun v h' hh => ?_
  obtain ⟨rfl, hh⟩ := hh
  conv => whnf
  exact RetX.same hh
set_option maxRecDepth 100000 in
set_option maxHeartbeats 4000000 in
theorem e_87 (hk : CallX Hval.prog 194 [.pointer (some ⟨eb, 0, none⟩)] h (TK K)) : CallX Hval.prog 116 [.pointer (some ⟨eb, 0, none⟩), .int .u8 87] h K := by
  refine CallX.of_xf T_ok Hval.func116 rfl (by kernel_rfl) (Nat.le_of_ble_eq_true rfl) ?_; conv => whnf
  repeat (first | (refine CondX.tt ?_; conv => whnf) | (refine CondX.ff ?_; conv => whnf))
  refine CallX.mono hk fun v h' hh => ?_
  obtain ⟨rfl, hh⟩ := hh
  conv => whnf
  exact RetX.same hh
set_option maxRecDepth 100000 in
set_option maxHeartbeats 4000000 in
theorem e_88 (hk : CallX Hval.prog 189 [.pointer (some ⟨eb, 0, none⟩)] h (TK K)) : CallX Hval.prog 116 [.pointer (some ⟨eb, 0, none⟩), .int .u8 88] h K := by
  refine CallX.of_xf T_ok Hval.func116 rfl (by kernel_rfl) (Nat.le_of_ble_eq_true rfl) ?_; conv => whnf
  repeat (first | (refine CondX.tt ?_; conv => whnf) | (refine CondX.ff ?_; conv => whnf))
  refine CallX.mono hk fun v h' hh => ?_
  obtain ⟨rfl, hh⟩ := hh
  conv => whnf
  exact RetX.same hh
set_option maxRecDepth 100000 in
set_option maxHeartbeats 4000000 in
theorem e_89 (hk : CallX Hval.prog 189 [.pointer (some ⟨eb, 0, none⟩)] h (TK K)) : CallX Hval.prog 116 [.pointer (some ⟨eb, 0, none⟩), .int .u8 89] h K := by
  refine CallX.of_xf T_ok Hval.func116 rfl (by kernel_rfl) (Nat.le_of_ble_eq_true rfl) ?_; conv => whnf
  repeat (first | (refine CondX.tt ?_; conv => whnf) | (refine CondX.ff ?_; conv => whnf))
  refine CallX.mono hk fun v h' hh => ?_
  obtain ⟨rfl, hh⟩ := hh
  conv => whnf
  exact RetX.same hh
set_option maxRecDepth 100000 in
set_option maxHeartbeats 4000000 in
theorem e_90 (hk : CallX Hval.prog 189 [.pointer (some ⟨eb, 0, none⟩)] h (TK K)) : CallX Hval.prog 116 [.pointer (some ⟨eb, 0, none⟩), .int .u8 90] h K := by
  refine CallX.of_xf T_ok Hval.func116 rfl (by kernel_rfl) (Nat.le_of_ble_eq_true rfl) ?_; conv => whnf
  repeat (first | (refine CondX.tt ?_; conv => whnf) | (refine CondX.ff ?_; conv => whnf))
  refine CallX.mono hk fun v h' hh => ?_
  obtain ⟨rfl, hh⟩ := hh
  conv => whnf
  exact RetX.same hh
set_option maxRecDepth 100000 in
set_option maxHeartbeats 4000000 in
theorem e_91 (hk : CallX Hval.prog 194 [.pointer (some ⟨eb, 0, none⟩)] h (TK K)) : CallX Hval.prog 116 [.pointer (some ⟨eb, 0, none⟩), .int .u8 91] h K := by
  refine CallX.of_xf T_ok Hval.func116 rfl (by kernel_rfl) (Nat.le_of_ble_eq_true rfl) ?_; conv => whnf
  repeat (first | (refine CondX.tt ?_; conv => whnf) | (refine CondX.ff ?_; conv => whnf))
  refine CallX.mono hk fun v h' hh => ?_
  obtain ⟨rfl, hh⟩ := hh
  conv => whnf
  exact RetX.same hh
set_option maxRecDepth 100000 in
set_option maxHeartbeats 4000000 in
theorem e_92 (hk : CallX Hval.prog 196 [.pointer (some ⟨eb, 0, none⟩)] h (TK K)) : CallX Hval.prog 116 [.pointer (some ⟨eb, 0, none⟩), .int .u8 92] h K := by
  refine CallX.of_xf T_ok Hval.func116 rfl (by kernel_rfl) (Nat.le_of_ble_eq_true rfl) ?_; conv => whnf
  repeat (first | (refine CondX.tt ?_; conv => whnf) | (refine CondX.ff ?_; conv => whnf))
  refine CallX.mono hk fun v h' hh => ?_
  obtain ⟨rfl, hh⟩ := hh
  conv => whnf
  exact RetX.same hh
set_option maxRecDepth 100000 in
set_option maxHeartbeats 4000000 in
theorem e_93 (hk : CallX Hval.prog 196 [.pointer (some ⟨eb, 0, none⟩)] h (TK K)) : CallX Hval.prog 116 [.pointer (some ⟨eb, 0, none⟩), .int .u8 93] h K := by
  refine CallX.of_xf T_ok Hval.func116 rfl (by kernel_rfl) (Nat.le_of_ble_eq_true rfl) ?_; conv => whnf
  repeat (first | (refine CondX.tt ?_; conv => whnf) | (refine CondX.ff ?_; conv => whnf))
  refine CallX.mono hk fun v h' hh => ?_
  obtain ⟨rfl, hh⟩ := hh
  conv => whnf
  exact RetX.same hh
set_option maxRecDepth 100000 in
set_option maxHeartbeats 4000000 in
theorem e_94 (hk : CallX Hval.prog 190 [.pointer (some ⟨eb, 0, none⟩)] h (TK K)) : CallX Hval.prog 116 [.pointer (some ⟨eb, 0, none⟩), .int .u8 94] h K := by
  refine CallX.of_xf T_ok Hval.func116 rfl (by kernel_rfl) (Nat.le_of_ble_eq_true rfl) ?_; conv => whnf
  repeat (first | (refine CondX.tt ?_; conv => whnf) | (refine CondX.ff ?_; conv => whnf))
  refine CallX.mono hk fun v h' hh => ?_
  obtain ⟨rfl, hh⟩ := hh
  conv => whnf
  exact RetX.same hh
set_option maxRecDepth 100000 in
set_option maxHeartbeats 4000000 in
theorem e_240 (hk : CallX Hval.prog 195 [.pointer (some ⟨eb, 0, none⟩)] h (TK K)) : CallX Hval.prog 116 [.pointer (some ⟨eb, 0, none⟩), .int .u8 240] h K := by
  refine CallX.of_xf T_ok Hval.func116 rfl (by kernel_rfl) (Nat.le_of_ble_eq_true rfl) ?_; conv => whnf
  repeat (first | (refine CondX.tt ?_; conv => whnf) | (refine CondX.ff ?_; conv => whnf))
  refine CallX.mono hk fun v h' hh => ?_
  obtain ⟨rfl, hh⟩ := hh
  conv => whnf
  exact RetX.same hh
set_option maxRecDepth 100000 in
set_option maxHeartbeats 4000000 in
theorem e_241 (hk : CallX Hval.prog 198 [.pointer (some ⟨eb, 0, none⟩)] h (TK K)) : CallX Hval.prog 116 [.pointer (some ⟨eb, 0, none⟩), .int .u8 241] h K := by
  refine CallX.of_xf T_ok Hval.func116 rfl (by kernel_rfl) (Nat.le_of_ble_eq_true rfl) ?_; conv => whnf
  repeat (first | (refine CondX.tt ?_; conv => whnf) | (refine CondX.ff ?_; conv => whnf))
  refine CallX.mono hk fun v h' hh => ?_
  obtain ⟨rfl, hh⟩ := hh
  conv => whnf
  exact RetX.same hh
set_option maxRecDepth 100000 in
set_option maxHeartbeats 4000000 in
theorem e_242 (hk : CallX Hval.prog 198 [.pointer (some ⟨eb, 0, none⟩)] h (TK K)) : CallX Hval.prog 116 [.pointer (some ⟨eb, 0, none⟩), .int .u8 242] h K := by
  refine CallX.of_xf T_ok Hval.func116 rfl (by kernel_rfl) (Nat.le_of_ble_eq_true rfl) ?_; conv => whnf
  repeat (first | (refine CondX.tt ?_; conv => whnf) | (refine CondX.ff ?_; conv => whnf))
  refine CallX.mono hk fun v h' hh => ?_
  obtain ⟨rfl, hh⟩ := hh
  conv => whnf
  exact RetX.same hh
set_option maxRecDepth 100000 in
set_option maxHeartbeats 4000000 in
theorem e_243 (hk : CallX Hval.prog 199 [.pointer (some ⟨eb, 0, none⟩)] h (TK K)) : CallX Hval.prog 116 [.pointer (some ⟨eb, 0, none⟩), .int .u8 243] h K := by
  refine CallX.of_xf T_ok Hval.func116 rfl (by kernel_rfl) (Nat.le_of_ble_eq_true rfl) ?_; conv => whnf
  repeat (first | (refine CondX.tt ?_; conv => whnf) | (refine CondX.ff ?_; conv => whnf))
  refine CallX.mono hk fun v h' hh => ?_
  obtain ⟨rfl, hh⟩ := hh
  conv => whnf
  exact RetX.same hh
set_option maxRecDepth 100000 in
set_option maxHeartbeats 4000000 in
theorem e_244 (hk : CallX Hval.prog 198 [.pointer (some ⟨eb, 0, none⟩)] h (TK K)) : CallX Hval.prog 116 [.pointer (some ⟨eb, 0, none⟩), .int .u8 244] h K := by
  refine CallX.of_xf T_ok Hval.func116 rfl (by kernel_rfl) (Nat.le_of_ble_eq_true rfl) ?_; conv => whnf
  repeat (first | (refine CondX.tt ?_; conv => whnf) | (refine CondX.ff ?_; conv => whnf))
  refine CallX.mono hk fun v h' hh => ?_
  obtain ⟨rfl, hh⟩ := hh
  conv => whnf
  exact RetX.same hh
set_option maxRecDepth 100000 in
set_option maxHeartbeats 4000000 in
theorem e_245 (hk : CallX Hval.prog 195 [.pointer (some ⟨eb, 0, none⟩)] h (TK K)) : CallX Hval.prog 116 [.pointer (some ⟨eb, 0, none⟩), .int .u8 245] h K := by
  refine CallX.of_xf T_ok Hval.func116 rfl (by kernel_rfl) (Nat.le_of_ble_eq_true rfl) ?_; conv => whnf
  repeat (first | (refine CondX.tt ?_; conv => whnf) | (refine CondX.ff ?_; conv => whnf))
  refine CallX.mono hk fun v h' hh => ?_
  obtain ⟨rfl, hh⟩ := hh
  conv => whnf
  exact RetX.same hh
set_option maxRecDepth 100000 in
set_option maxHeartbeats 4000000 in
theorem e_250 (hk : CallX Hval.prog 198 [.pointer (some ⟨eb, 0, none⟩)] h (TK K)) : CallX Hval.prog 116 [.pointer (some ⟨eb, 0, none⟩), .int .u8 250] h K := by
  refine CallX.of_xf T_ok Hval.func116 rfl (by kernel_rfl) (Nat.le_of_ble_eq_true rfl) ?_; conv => whnf
  repeat (first | (refine CondX.tt ?_; conv => whnf) | (refine CondX.ff ?_; conv => whnf))
  refine CallX.mono hk fun v h' hh => ?_
  obtain ⟨rfl, hh⟩ := hh
  conv => whnf
  exact RetX.same hh
set_option maxRecDepth 100000 in
set_option maxHeartbeats 4000000 in
theorem e_253 (hk : CallX Hval.prog 199 [.pointer (some ⟨eb, 0, none⟩)] h (TK K)) : CallX Hval.prog 116 [.pointer (some ⟨eb, 0, none⟩), .int .u8 253] h K := by
  refine CallX.of_xf T_ok Hval.func116 rfl (by kernel_rfl) (Nat.le_of_ble_eq_true rfl) ?_; conv => whnf
  repeat (first | (refine CondX.tt ?_; conv => whnf) | (refine CondX.ff ?_; conv => whnf))
  refine CallX.mono hk fun v h' hh => ?_
  obtain ⟨rfl, hh⟩ := hh
  conv => whnf
  exact RetX.same hh
set_option maxRecDepth 100000 in
set_option maxHeartbeats 4000000 in
theorem e_255 (hk : CallX Hval.prog 197 [.pointer (some ⟨eb, 0, none⟩)] h (TK K)) : CallX Hval.prog 116 [.pointer (some ⟨eb, 0, none⟩), .int .u8 255] h K := by
  refine CallX.of_xf T_ok Hval.func116 rfl (by kernel_rfl) (Nat.le_of_ble_eq_true rfl) ?_; conv => whnf
  repeat (first | (refine CondX.tt ?_; conv => whnf) | (refine CondX.ff ?_; conv => whnf))
  refine CallX.mono hk fun v h' hh => ?_
  obtain ⟨rfl, hh⟩ := hh
  conv => whnf
  exact RetX.same hh
set_option maxRecDepth 100000 in
set_option maxHeartbeats 4000000 in
theorem r_299 {o : Int} (h0 : 95 ≤ o) (h1 : o ≤ 127) (hk : CallX Hval.prog 299 [.pointer (some ⟨eb, 0, none⟩)] h (TK K)) : CallX Hval.prog 201 [.pointer (some ⟨eb, 0, none⟩), .int .u8 o] h K := by
  refine CallX.of_xf T_ok Hval.func201 rfl (by kernel_rfl) (Nat.le_of_ble_eq_true rfl) ?_; conv => whnf
  repeat (first | (refine CondX.dT (by omega) ?_; conv => whnf) | (refine CondX.dF (by omega) ?_; conv => whnf) | (refine CondX.tt ?_; conv => whnf) | (refine CondX.ff ?_; conv => whnf))
  refine CallX.mono hk fun v h' hh => ?_
  obtain ⟨rfl, hh⟩ := hh
  conv => whnf
  exact RetX.same hh
set_option maxRecDepth 100000 in
set_option maxHeartbeats 4000000 in
theorem e_299 {o : Int} (h0 : 95 ≤ o) (h1 : o ≤ 127) (hk : CallX Hval.prog 299 [.pointer (some ⟨eb, 0, none⟩)] h (TK K)) : CallX Hval.prog 116 [.pointer (some ⟨eb, 0, none⟩), .int .u8 o] h K := by
  refine CallX.of_xf T_ok Hval.func116 rfl (by kernel_rfl) (Nat.le_of_ble_eq_true rfl) ?_; conv => whnf
  repeat (first | (refine CondX.eqF (by omega) ?_; conv => whnf) | (refine CondX.tt ?_; conv => whnf) | (refine CondX.ff ?_; conv => whnf))
  refine r_299 h0 h1 (CallX.mono hk fun v h' hh => ?_)
  obtain ⟨rfl, hh⟩ := hh
  refine ⟨rfl, ?_⟩
  conv => whnf
  exact RetX.same hh
set_option maxRecDepth 100000 in
set_option maxHeartbeats 4000000 in
theorem r_300 {o : Int} (h0 : 128 ≤ o) (h1 : o ≤ 143) (hk : CallX Hval.prog 300 [.pointer (some ⟨eb, 0, none⟩)] h (TK K)) : CallX Hval.prog 201 [.pointer (some ⟨eb, 0, none⟩), .int .u8 o] h K := by
  refine CallX.of_xf T_ok Hval.func201 rfl (by kernel_rfl) (Nat.le_of_ble_eq_true rfl) ?_; conv => whnf
  repeat (first | (refine CondX.dT (by omega) ?_; conv => whnf) | (refine CondX.dF (by omega) ?_; conv => whnf) | (refine CondX.tt ?_; conv => whnf) | (refine CondX.ff ?_; conv => whnf))
  refine CallX.mono hk fun v h' hh => ?_
  obtain ⟨rfl, hh⟩ := hh
  conv => whnf
  exact RetX.same hh
set_option maxRecDepth 100000 in
set_option maxHeartbeats 4000000 in
theorem e_300 {o : Int} (h0 : 128 ≤ o) (h1 : o ≤ 143) (hk : CallX Hval.prog 300 [.pointer (some ⟨eb, 0, none⟩)] h (TK K)) : CallX Hval.prog 116 [.pointer (some ⟨eb, 0, none⟩), .int .u8 o] h K := by
  refine CallX.of_xf T_ok Hval.func116 rfl (by kernel_rfl) (Nat.le_of_ble_eq_true rfl) ?_; conv => whnf
  repeat (first | (refine CondX.eqF (by omega) ?_; conv => whnf) | (refine CondX.tt ?_; conv => whnf) | (refine CondX.ff ?_; conv => whnf))
  refine r_300 h0 h1 (CallX.mono hk fun v h' hh => ?_)
  obtain ⟨rfl, hh⟩ := hh
  refine ⟨rfl, ?_⟩
  conv => whnf
  exact RetX.same hh
set_option maxRecDepth 100000 in
set_option maxHeartbeats 4000000 in
theorem r_301 {o : Int} (h0 : 144 ≤ o) (h1 : o ≤ 159) (hk : CallX Hval.prog 301 [.pointer (some ⟨eb, 0, none⟩)] h (TK K)) : CallX Hval.prog 201 [.pointer (some ⟨eb, 0, none⟩), .int .u8 o] h K := by
  refine CallX.of_xf T_ok Hval.func201 rfl (by kernel_rfl) (Nat.le_of_ble_eq_true rfl) ?_; conv => whnf
  repeat (first | (refine CondX.dT (by omega) ?_; conv => whnf) | (refine CondX.dF (by omega) ?_; conv => whnf) | (refine CondX.tt ?_; conv => whnf) | (refine CondX.ff ?_; conv => whnf))
  refine CallX.mono hk fun v h' hh => ?_
  obtain ⟨rfl, hh⟩ := hh
  conv => whnf
  exact RetX.same hh
set_option maxRecDepth 100000 in
set_option maxHeartbeats 4000000 in
theorem e_301 {o : Int} (h0 : 144 ≤ o) (h1 : o ≤ 159) (hk : CallX Hval.prog 301 [.pointer (some ⟨eb, 0, none⟩)] h (TK K)) : CallX Hval.prog 116 [.pointer (some ⟨eb, 0, none⟩), .int .u8 o] h K := by
  refine CallX.of_xf T_ok Hval.func116 rfl (by kernel_rfl) (Nat.le_of_ble_eq_true rfl) ?_; conv => whnf
  repeat (first | (refine CondX.eqF (by omega) ?_; conv => whnf) | (refine CondX.tt ?_; conv => whnf) | (refine CondX.ff ?_; conv => whnf))
  refine r_301 h0 h1 (CallX.mono hk fun v h' hh => ?_)
  obtain ⟨rfl, hh⟩ := hh
  refine ⟨rfl, ?_⟩
  conv => whnf
  exact RetX.same hh
set_option maxRecDepth 100000 in
set_option maxHeartbeats 4000000 in
theorem r_302 {o : Int} (h0 : 160 ≤ o) (h1 : o ≤ 164) (hk : CallX Hval.prog 302 [.pointer (some ⟨eb, 0, none⟩)] h (TK K)) : CallX Hval.prog 201 [.pointer (some ⟨eb, 0, none⟩), .int .u8 o] h K := by
  refine CallX.of_xf T_ok Hval.func201 rfl (by kernel_rfl) (Nat.le_of_ble_eq_true rfl) ?_; conv => whnf
  repeat (first | (refine CondX.dT (by omega) ?_; conv => whnf) | (refine CondX.dF (by omega) ?_; conv => whnf) | (refine CondX.tt ?_; conv => whnf) | (refine CondX.ff ?_; conv => whnf))
  refine CallX.mono hk fun v h' hh => ?_
  obtain ⟨rfl, hh⟩ := hh
  conv => whnf
  exact RetX.same hh
set_option maxRecDepth 100000 in
set_option maxHeartbeats 4000000 in
theorem e_302 {o : Int} (h0 : 160 ≤ o) (h1 : o ≤ 164) (hk : CallX Hval.prog 302 [.pointer (some ⟨eb, 0, none⟩)] h (TK K)) : CallX Hval.prog 116 [.pointer (some ⟨eb, 0, none⟩), .int .u8 o] h K := by
  refine CallX.of_xf T_ok Hval.func116 rfl (by kernel_rfl) (Nat.le_of_ble_eq_true rfl) ?_; conv => whnf
  repeat (first | (refine CondX.eqF (by omega) ?_; conv => whnf) | (refine CondX.tt ?_; conv => whnf) | (refine CondX.ff ?_; conv => whnf))
  refine r_302 h0 h1 (CallX.mono hk fun v h' hh => ?_)
  obtain ⟨rfl, hh⟩ := hh
  refine ⟨rfl, ?_⟩
  conv => whnf
  exact RetX.same hh
end
end Go.Proofs.YgvalwGreat.X
