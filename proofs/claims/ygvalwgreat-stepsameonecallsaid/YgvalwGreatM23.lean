import Derived.Test.YgvalwGreatM22
set_option linter.unusedVariables false
set_option linter.unusedSimpArgs false
namespace Go.Proofs.YgvalwGreat.X
open Go

/-- An instruction's row: what it takes, gives, costs; and whether it is known. -/
structure Row where
  tk : Int
  gv : Int
  sg : Int
  kn : Bool
def rowI (o : Int) : Row :=
  if 96 ≤ o ∧ o ≤ 127 then ⟨0, 1, 3, true⟩ else if 128 ≤ o ∧ o ≤ 143 then ⟨o - 128 + 1, o - 128 + 2, 3, true⟩ else if 144 ≤ o ∧ o ≤ 159 then ⟨o - 144 + 2, o - 144 + 2, 3, true⟩ else if 160 ≤ o ∧ o ≤ 164 then ⟨o - 160 + 2, 0, 375 * (o - 160 + 1), true⟩
  else if o = 0 then ⟨0, 0, 0, true⟩
  else if o = 91 then ⟨0, 0, 1, true⟩
  else if o = 48 ∨ o = 50 ∨ o = 51 ∨ o = 52 ∨ o = 54 ∨ o = 56 ∨ o = 58 ∨ o = 61 ∨ o = 65 ∨ o = 66 ∨ o = 67 ∨ o = 68 ∨ o = 69 ∨ o = 70 ∨ o = 72 ∨ o = 88 ∨ o = 89 ∨ o = 90 ∨ o = 95 then ⟨0, 1, 2, true⟩
  else if o = 71 then ⟨0, 1, 5, true⟩
  else if o = 1 ∨ o = 3 ∨ o = 16 ∨ o = 17 ∨ o = 18 ∨ o = 19 ∨ o = 20 ∨ o = 22 ∨ o = 23 ∨ o = 24 ∨ o = 26 ∨ o = 27 ∨ o = 28 ∨ o = 29 then ⟨2, 1, 3, true⟩
  else if o = 2 ∨ o = 4 ∨ o = 5 ∨ o = 6 ∨ o = 7 ∨ o = 11 then ⟨2, 1, 5, true⟩
  else if o = 10 then ⟨2, 1, 10, true⟩
  else if o = 32 then ⟨2, 1, 30, true⟩
  else if o = 8 ∨ o = 9 then ⟨3, 1, 8, true⟩
  else if o = 21 ∨ o = 25 ∨ o = 53 ∨ o = 81 then ⟨1, 1, 3, true⟩
  else if o = 49 ∨ o = 59 ∨ o = 63 ∨ o = 84 then ⟨1, 1, 0, true⟩
  else if o = 92 then ⟨1, 1, 100, true⟩
  else if o = 93 then ⟨2, 0, 100, true⟩
  else if o = 255 then ⟨1, 0, 5000, true⟩
  else if o = 64 then ⟨1, 1, 20, true⟩
  else if o = 80 then ⟨1, 0, 2, true⟩
  else if o = 86 then ⟨1, 0, 8, true⟩
  else if o = 87 then ⟨2, 0, 10, true⟩
  else if o = 82 ∨ o = 83 then ⟨2, 0, 3, true⟩
  else if o = 85 ∨ o = 243 ∨ o = 253 then ⟨2, 0, 0, true⟩
  else if o = 55 ∨ o = 57 ∨ o = 62 ∨ o = 94 then ⟨3, 0, 3, true⟩
  else if o = 60 then ⟨4, 0, 0, true⟩
  else if o = 240 then ⟨3, 1, 32000, true⟩
  else if o = 245 then ⟨4, 1, 32000, true⟩
  else if o = 241 ∨ o = 242 then ⟨7, 1, 0, true⟩
  else if o = 244 ∨ o = 250 then ⟨6, 1, 0, true⟩
  else ⟨0, 0, 0, false⟩
section
variable {h : Hp} {K : Value → Hp → Prop}
def RoK (o : Int) (h : Hp) (K : Value → Hp → Prop) : Prop := K (.tuple #[.int .u8 (rowI o).tk, .int .u8 (rowI o).gv, .int .u16 (rowI o).sg, .bool (rowI o).kn]) h
set_option maxRecDepth 100000 in
set_option maxHeartbeats 4000000 in
theorem info_0 (hk : RoK 0 h K) : CallX Hval.prog 114 [.int .u8 0] h K := by
  refine CallX.of_xf T_ok Hval.func114 rfl (by kernel_rfl) (Nat.le_of_ble_eq_true rfl) ?_; conv => whnf
  repeat (first | (refine CondX.tt ?_; conv => whnf) | (refine CondX.ff ?_; conv => whnf))
  exact RetX.same hk
set_option maxRecDepth 100000 in
set_option maxHeartbeats 4000000 in
theorem info_91 (hk : RoK 91 h K) : CallX Hval.prog 114 [.int .u8 91] h K := by
  refine CallX.of_xf T_ok Hval.func114 rfl (by kernel_rfl) (Nat.le_of_ble_eq_true rfl) ?_; conv => whnf
  repeat (first | (refine CondX.tt ?_; conv => whnf) | (refine CondX.ff ?_; conv => whnf))
  exact RetX.same hk
set_option maxRecDepth 100000 in
set_option maxHeartbeats 4000000 in
theorem info_48 (hk : RoK 48 h K) : CallX Hval.prog 114 [.int .u8 48] h K := by
  refine CallX.of_xf T_ok Hval.func114 rfl (by kernel_rfl) (Nat.le_of_ble_eq_true rfl) ?_; conv => whnf
  repeat (first | (refine CondX.tt ?_; conv => whnf) | (refine CondX.ff ?_; conv => whnf))
  exact RetX.same hk
set_option maxRecDepth 100000 in
set_option maxHeartbeats 4000000 in
theorem info_50 (hk : RoK 50 h K) : CallX Hval.prog 114 [.int .u8 50] h K := by
  refine CallX.of_xf T_ok Hval.func114 rfl (by kernel_rfl) (Nat.le_of_ble_eq_true rfl) ?_; conv => whnf
  repeat (first | (refine CondX.tt ?_; conv => whnf) | (refine CondX.ff ?_; conv => whnf))
  exact RetX.same hk
set_option maxRecDepth 100000 in
set_option maxHeartbeats 4000000 in
theorem info_51 (hk : RoK 51 h K) : CallX Hval.prog 114 [.int .u8 51] h K := by
  refine CallX.of_xf T_ok Hval.func114 rfl (by kernel_rfl) (Nat.le_of_ble_eq_true rfl) ?_; conv => whnf
  repeat (first | (refine CondX.tt ?_; conv => whnf) | (refine CondX.ff ?_; conv => whnf))
  exact RetX.same hk
set_option maxRecDepth 100000 in
set_option maxHeartbeats 4000000 in
theorem info_52 (hk : RoK 52 h K) : CallX Hval.prog 114 [.int .u8 52] h K := by
  refine CallX.of_xf T_ok Hval.func114 rfl (by kernel_rfl) (Nat.le_of_ble_eq_true rfl) ?_; conv => whnf
  repeat (first | (refine CondX.tt ?_; conv => whnf) | (refine CondX.ff ?_; conv => whnf))
  exact RetX.same hk
set_option maxRecDepth 100000 in
set_option maxHeartbeats 4000000 in
theorem info_54 (hk : RoK 54 h K) : CallX Hval.prog 114 [.int .u8 54] h K := by
  refine CallX.of_xf T_ok Hval.func114 rfl (by kernel_rfl) (Nat.le_of_ble_eq_true rfl) ?_; conv => whnf
  repeat (first | (refine CondX.tt ?_; conv => whnf) | (refine CondX.ff ?_; conv => whnf))
  exact RetX.same hk
set_option maxRecDepth 100000 in
set_option maxHeartbeats 4000000 in
theorem info_56 (hk : RoK 56 h K) : CallX Hval.prog 114 [.int .u8 56] h K := by
  refine CallX.of_xf T_ok Hval.func114 rfl (by kernel_rfl) (Nat.le_of_ble_eq_true rfl) ?_; conv => whnf
  repeat (first | (refine CondX.tt ?_; conv => whnf) | (refine CondX.ff ?_; conv => whnf))
  exact RetX.same hk
set_option maxRecDepth 100000 in
set_option maxHeartbeats 4000000 in
theorem info_58 (hk : RoK 58 h K) : CallX Hval.prog 114 [.int .u8 58] h K := by
  refine CallX.of_xf T_ok Hval.func114 rfl (by kernel_rfl) (Nat.le_of_ble_eq_true rfl) ?_; conv => whnf
  repeat (first | (refine CondX.tt ?_; conv => whnf) | (refine CondX.ff ?_; conv => whnf))
  exact RetX.same hk
set_option maxRecDepth 100000 in
set_option maxHeartbeats 4000000 in
theorem info_61 (hk : RoK 61 h K) : CallX Hval.prog 114 [.int .u8 61] h K := by
  refine CallX.of_xf T_ok Hval.func114 rfl (by kernel_rfl) (Nat.le_of_ble_eq_true rfl) ?_; conv => whnf
  repeat (first | (refine CondX.tt ?_; conv => whnf) | (refine CondX.ff ?_; conv => whnf))
  exact RetX.same hk
set_option maxRecDepth 100000 in
set_option maxHeartbeats 4000000 in
theorem info_65 (hk : RoK 65 h K) : CallX Hval.prog 114 [.int .u8 65] h K := by
  refine CallX.of_xf T_ok Hval.func114 rfl (by kernel_rfl) (Nat.le_of_ble_eq_true rfl) ?_; conv => whnf
  repeat (first | (refine CondX.tt ?_; conv => whnf) | (refine CondX.ff ?_; conv => whnf))
  exact RetX.same hk
set_option maxRecDepth 100000 in
set_option maxHeartbeats 4000000 in
theorem info_66 (hk : RoK 66 h K) : CallX Hval.prog 114 [.int .u8 66] h K := by
  refine CallX.of_xf T_ok Hval.func114 rfl (by kernel_rfl) (Nat.le_of_ble_eq_true rfl) ?_; conv => whnf
  repeat (first | (refine CondX.tt ?_; conv => whnf) | (refine CondX.ff ?_; conv => whnf))
  exact RetX.same hk
set_option maxRecDepth 100000 in
set_option maxHeartbeats 4000000 in
theorem info_67 (hk : RoK 67 h K) : CallX Hval.prog 114 [.int .u8 67] h K := by
  refine CallX.of_xf T_ok Hval.func114 rfl (by kernel_rfl) (Nat.le_of_ble_eq_true rfl) ?_; conv => whnf
  repeat (first | (refine CondX.tt ?_; conv => whnf) | (refine CondX.ff ?_; conv => whnf))
  exact RetX.same hk
set_option maxRecDepth 100000 in
set_option maxHeartbeats 4000000 in
theorem info_68 (hk : RoK 68 h K) : CallX Hval.prog 114 [.int .u8 68] h K := by
  refine CallX.of_xf T_ok Hval.func114 rfl (by kernel_rfl) (Nat.le_of_ble_eq_true rfl) ?_; conv => whnf
  repeat (first | (refine CondX.tt ?_; conv => whnf) | (refine CondX.ff ?_; conv => whnf))
  exact RetX.same hk
set_option maxRecDepth 100000 in
set_option maxHeartbeats 4000000 in
theorem info_69 (hk : RoK 69 h K) : CallX Hval.prog 114 [.int .u8 69] h K := by
  refine CallX.of_xf T_ok Hval.func114 rfl (by kernel_rfl) (Nat.le_of_ble_eq_true rfl) ?_; conv => whnf
  repeat (first | (refine CondX.tt ?_; conv => whnf) | (refine CondX.ff ?_; conv => whnf))
  exact RetX.same hk
set_option maxRecDepth 100000 in
set_option maxHeartbeats 4000000 in
theorem info_70 (hk : RoK 70 h K) : CallX Hval.prog 114 [.int .u8 70] h K := by
  refine CallX.of_xf T_ok Hval.func114 rfl (by kernel_rfl) (Nat.le_of_ble_eq_true rfl) ?_; conv => whnf
  repeat (first | (refine CondX.tt ?_; conv => whnf) | (refine CondX.ff ?_; conv => whnf))
  exact RetX.same hk
set_option maxRecDepth 100000 in
set_option maxHeartbeats 4000000 in
theorem info_72 (hk : RoK 72 h K) : CallX Hval.prog 114 [.int .u8 72] h K := by
  refine CallX.of_xf T_ok Hval.func114 rfl (by kernel_rfl) (Nat.le_of_ble_eq_true rfl) ?_; conv => whnf
  repeat (first | (refine CondX.tt ?_; conv => whnf) | (refine CondX.ff ?_; conv => whnf))
  exact RetX.same hk
set_option maxRecDepth 100000 in
set_option maxHeartbeats 4000000 in
theorem info_88 (hk : RoK 88 h K) : CallX Hval.prog 114 [.int .u8 88] h K := by
  refine CallX.of_xf T_ok Hval.func114 rfl (by kernel_rfl) (Nat.le_of_ble_eq_true rfl) ?_; conv => whnf
  repeat (first | (refine CondX.tt ?_; conv => whnf) | (refine CondX.ff ?_; conv => whnf))
  exact RetX.same hk
set_option maxRecDepth 100000 in
set_option maxHeartbeats 4000000 in
theorem info_89 (hk : RoK 89 h K) : CallX Hval.prog 114 [.int .u8 89] h K := by
  refine CallX.of_xf T_ok Hval.func114 rfl (by kernel_rfl) (Nat.le_of_ble_eq_true rfl) ?_; conv => whnf
  repeat (first | (refine CondX.tt ?_; conv => whnf) | (refine CondX.ff ?_; conv => whnf))
  exact RetX.same hk
set_option maxRecDepth 100000 in
set_option maxHeartbeats 4000000 in
theorem info_90 (hk : RoK 90 h K) : CallX Hval.prog 114 [.int .u8 90] h K := by
  refine CallX.of_xf T_ok Hval.func114 rfl (by kernel_rfl) (Nat.le_of_ble_eq_true rfl) ?_; conv => whnf
  repeat (first | (refine CondX.tt ?_; conv => whnf) | (refine CondX.ff ?_; conv => whnf))
  exact RetX.same hk
set_option maxRecDepth 100000 in
set_option maxHeartbeats 4000000 in
theorem info_95 (hk : RoK 95 h K) : CallX Hval.prog 114 [.int .u8 95] h K := by
  refine CallX.of_xf T_ok Hval.func114 rfl (by kernel_rfl) (Nat.le_of_ble_eq_true rfl) ?_; conv => whnf
  repeat (first | (refine CondX.tt ?_; conv => whnf) | (refine CondX.ff ?_; conv => whnf))
  exact RetX.same hk
set_option maxRecDepth 100000 in
set_option maxHeartbeats 4000000 in
theorem info_71 (hk : RoK 71 h K) : CallX Hval.prog 114 [.int .u8 71] h K := by
  refine CallX.of_xf T_ok Hval.func114 rfl (by kernel_rfl) (Nat.le_of_ble_eq_true rfl) ?_; conv => whnf
  repeat (first | (refine CondX.tt ?_; conv => whnf) | (refine CondX.ff ?_; conv => whnf))
  exact RetX.same hk
set_option maxRecDepth 100000 in
set_option maxHeartbeats 4000000 in
theorem info_1 (hk : RoK 1 h K) : CallX Hval.prog 114 [.int .u8 1] h K := by
  refine CallX.of_xf T_ok Hval.func114 rfl (by kernel_rfl) (Nat.le_of_ble_eq_true rfl) ?_; conv => whnf
  repeat (first | (refine CondX.tt ?_; conv => whnf) | (refine CondX.ff ?_; conv => whnf))
  exact RetX.same hk
set_option maxRecDepth 100000 in
set_option maxHeartbeats 4000000 in
theorem info_3 (hk : RoK 3 h K) : CallX Hval.prog 114 [.int .u8 3] h K := by
  refine CallX.of_xf T_ok Hval.func114 rfl (by kernel_rfl) (Nat.le_of_ble_eq_true rfl) ?_; conv => whnf
  repeat (first | (refine CondX.tt ?_; conv => whnf) | (refine CondX.ff ?_; conv => whnf))
  exact RetX.same hk
set_option maxRecDepth 100000 in
set_option maxHeartbeats 4000000 in
theorem info_16 (hk : RoK 16 h K) : CallX Hval.prog 114 [.int .u8 16] h K := by
  refine CallX.of_xf T_ok Hval.func114 rfl (by kernel_rfl) (Nat.le_of_ble_eq_true rfl) ?_; conv => whnf
  repeat (first | (refine CondX.tt ?_; conv => whnf) | (refine CondX.ff ?_; conv => whnf))
  exact RetX.same hk
set_option maxRecDepth 100000 in
set_option maxHeartbeats 4000000 in
theorem info_17 (hk : RoK 17 h K) : CallX Hval.prog 114 [.int .u8 17] h K := by
  refine CallX.of_xf T_ok Hval.func114 rfl (by kernel_rfl) (Nat.le_of_ble_eq_true rfl) ?_; conv => whnf
  repeat (first | (refine CondX.tt ?_; conv => whnf) | (refine CondX.ff ?_; conv => whnf))
  exact RetX.same hk
set_option maxRecDepth 100000 in
set_option maxHeartbeats 4000000 in
theorem info_18 (hk : RoK 18 h K) : CallX Hval.prog 114 [.int .u8 18] h K := by
  refine CallX.of_xf T_ok Hval.func114 rfl (by kernel_rfl) (Nat.le_of_ble_eq_true rfl) ?_; conv => whnf
  repeat (first | (refine CondX.tt ?_; conv => whnf) | (refine CondX.ff ?_; conv => whnf))
  exact RetX.same hk
set_option maxRecDepth 100000 in
set_option maxHeartbeats 4000000 in
theorem info_19 (hk : RoK 19 h K) : CallX Hval.prog 114 [.int .u8 19] h K := by
  refine CallX.of_xf T_ok Hval.func114 rfl (by kernel_rfl) (Nat.le_of_ble_eq_true rfl) ?_; conv => whnf
  repeat (first | (refine CondX.tt ?_; conv => whnf) | (refine CondX.ff ?_; conv => whnf))
  exact RetX.same hk
set_option maxRecDepth 100000 in
set_option maxHeartbeats 4000000 in
theorem info_20 (hk : RoK 20 h K) : CallX Hval.prog 114 [.int .u8 20] h K := by
  refine CallX.of_xf T_ok Hval.func114 rfl (by kernel_rfl) (Nat.le_of_ble_eq_true rfl) ?_; conv => whnf
  repeat (first | (refine CondX.tt ?_; conv => whnf) | (refine CondX.ff ?_; conv => whnf))
  exact RetX.same hk
set_option maxRecDepth 100000 in
set_option maxHeartbeats 4000000 in
theorem info_22 (hk : RoK 22 h K) : CallX Hval.prog 114 [.int .u8 22] h K := by
  refine CallX.of_xf T_ok Hval.func114 rfl (by kernel_rfl) (Nat.le_of_ble_eq_true rfl) ?_; conv => whnf
  repeat (first | (refine CondX.tt ?_; conv => whnf) | (refine CondX.ff ?_; conv => whnf))
  exact RetX.same hk
set_option maxRecDepth 100000 in
set_option maxHeartbeats 4000000 in
theorem info_23 (hk : RoK 23 h K) : CallX Hval.prog 114 [.int .u8 23] h K := by
  refine CallX.of_xf T_ok Hval.func114 rfl (by kernel_rfl) (Nat.le_of_ble_eq_true rfl) ?_; conv => whnf
  repeat (first | (refine CondX.tt ?_; conv => whnf) | (refine CondX.ff ?_; conv => whnf))
  exact RetX.same hk
set_option maxRecDepth 100000 in
set_option maxHeartbeats 4000000 in
theorem info_24 (hk : RoK 24 h K) : CallX Hval.prog 114 [.int .u8 24] h K := by
  refine CallX.of_xf T_ok Hval.func114 rfl (by kernel_rfl) (Nat.le_of_ble_eq_true rfl) ?_; conv => whnf
  repeat (first | (refine CondX.tt ?_; conv => whnf) | (refine CondX.ff ?_; conv => whnf))
  exact RetX.same hk
set_option maxRecDepth 100000 in
set_option maxHeartbeats 4000000 in
theorem info_26 (hk : RoK 26 h K) : CallX Hval.prog 114 [.int .u8 26] h K := by
  refine CallX.of_xf T_ok Hval.func114 rfl (by kernel_rfl) (Nat.le_of_ble_eq_true rfl) ?_; conv => whnf
  repeat (first | (refine CondX.tt ?_; conv => whnf) | (refine CondX.ff ?_; conv => whnf))
  exact RetX.same hk
set_option maxRecDepth 100000 in
set_option maxHeartbeats 4000000 in
theorem info_27 (hk : RoK 27 h K) : CallX Hval.prog 114 [.int .u8 27] h K := by
  refine CallX.of_xf T_ok Hval.func114 rfl (by kernel_rfl) (Nat.le_of_ble_eq_true rfl) ?_; conv => whnf
  repeat (first | (refine CondX.tt ?_; conv => whnf) | (refine CondX.ff ?_; conv => whnf))
  exact RetX.same hk
set_option maxRecDepth 100000 in
set_option maxHeartbeats 4000000 in
theorem info_28 (hk : RoK 28 h K) : CallX Hval.prog 114 [.int .u8 28] h K := by
  refine CallX.of_xf T_ok Hval.func114 rfl (by kernel_rfl) (Nat.le_of_ble_eq_true rfl) ?_; conv => whnf
  repeat (first | (refine CondX.tt ?_; conv => whnf) | (refine CondX.ff ?_; conv => whnf))
  exact RetX.same hk
set_option maxRecDepth 100000 in
set_option maxHeartbeats 4000000 in
theorem info_29 (hk : RoK 29 h K) : CallX Hval.prog 114 [.int .u8 29] h K := by
  refine CallX.of_xf T_ok Hval.func114 rfl (by kernel_rfl) (Nat.le_of_ble_eq_true rfl) ?_; conv => whnf
  repeat (first | (refine CondX.tt ?_; conv => whnf) | (refine CondX.ff ?_; conv => whnf))
  exact RetX.same hk
set_option maxRecDepth 100000 in
set_option maxHeartbeats 4000000 in
theorem info_2 (hk : RoK 2 h K) : CallX Hval.prog 114 [.int .u8 2] h K := by
  refine CallX.of_xf T_ok Hval.func114 rfl (by kernel_rfl) (Nat.le_of_ble_eq_true rfl) ?_; conv => whnf
  repeat (first | (refine CondX.tt ?_; conv => whnf) | (refine CondX.ff ?_; conv => whnf))
  exact RetX.same hk
set_option maxRecDepth 100000 in
set_option maxHeartbeats 4000000 in
theorem info_4 (hk : RoK 4 h K) : CallX Hval.prog 114 [.int .u8 4] h K := by
  refine CallX.of_xf T_ok Hval.func114 rfl (by kernel_rfl) (Nat.le_of_ble_eq_true rfl) ?_; conv => whnf
  repeat (first | (refine CondX.tt ?_; conv => whnf) | (refine CondX.ff ?_; conv => whnf))
  exact RetX.same hk
set_option maxRecDepth 100000 in
set_option maxHeartbeats 4000000 in
theorem info_5 (hk : RoK 5 h K) : CallX Hval.prog 114 [.int .u8 5] h K := by
  refine CallX.of_xf T_ok Hval.func114 rfl (by kernel_rfl) (Nat.le_of_ble_eq_true rfl) ?_; conv => whnf
  repeat (first | (refine CondX.tt ?_; conv => whnf) | (refine CondX.ff ?_; conv => whnf))
  exact RetX.same hk
set_option maxRecDepth 100000 in
set_option maxHeartbeats 4000000 in
theorem info_6 (hk : RoK 6 h K) : CallX Hval.prog 114 [.int .u8 6] h K := by
  refine CallX.of_xf T_ok Hval.func114 rfl (by kernel_rfl) (Nat.le_of_ble_eq_true rfl) ?_; conv => whnf
  repeat (first | (refine CondX.tt ?_; conv => whnf) | (refine CondX.ff ?_; conv => whnf))
  exact RetX.same hk
set_option maxRecDepth 100000 in
set_option maxHeartbeats 4000000 in
theorem info_7 (hk : RoK 7 h K) : CallX Hval.prog 114 [.int .u8 7] h K := by
  refine CallX.of_xf T_ok Hval.func114 rfl (by kernel_rfl) (Nat.le_of_ble_eq_true rfl) ?_; conv => whnf
  repeat (first | (refine CondX.tt ?_; conv => whnf) | (refine CondX.ff ?_; conv => whnf))
  exact RetX.same hk
set_option maxRecDepth 100000 in
set_option maxHeartbeats 4000000 in
theorem info_11 (hk : RoK 11 h K) : CallX Hval.prog 114 [.int .u8 11] h K := by
  refine CallX.of_xf T_ok Hval.func114 rfl (by kernel_rfl) (Nat.le_of_ble_eq_true rfl) ?_; conv => whnf
  repeat (first | (refine CondX.tt ?_; conv => whnf) | (refine CondX.ff ?_; conv => whnf))
  exact RetX.same hk
set_option maxRecDepth 100000 in
set_option maxHeartbeats 4000000 in
theorem info_10 (hk : RoK 10 h K) : CallX Hval.prog 114 [.int .u8 10] h K := by
  refine CallX.of_xf T_ok Hval.func114 rfl (by kernel_rfl) (Nat.le_of_ble_eq_true rfl) ?_; conv => whnf
  repeat (first | (refine CondX.tt ?_; conv => whnf) | (refine CondX.ff ?_; conv => whnf))
  exact RetX.same hk
set_option maxRecDepth 100000 in
set_option maxHeartbeats 4000000 in
theorem info_32 (hk : RoK 32 h K) : CallX Hval.prog 114 [.int .u8 32] h K := by
  refine CallX.of_xf T_ok Hval.func114 rfl (by kernel_rfl) (Nat.le_of_ble_eq_true rfl) ?_; conv => whnf
  repeat (first | (refine CondX.tt ?_; conv => whnf) | (refine CondX.ff ?_; conv => whnf))
  exact RetX.same hk
set_option maxRecDepth 100000 in
set_option maxHeartbeats 4000000 in
theorem info_8 (hk : RoK 8 h K) : CallX Hval.prog 114 [.int .u8 8] h K := by
  refine CallX.of_xf T_ok Hval.func114 rfl (by kernel_rfl) (Nat.le_of_ble_eq_true rfl) ?_; conv => whnf
  repeat (first | (refine CondX.tt ?_; conv => whnf) | (refine CondX.ff ?_; conv => whnf))
  exact RetX.same hk
set_option maxRecDepth 100000 in
set_option maxHeartbeats 4000000 in
theorem info_9 (hk : RoK 9 h K) : CallX Hval.prog 114 [.int .u8 9] h K := by
  refine CallX.of_xf T_ok Hval.func114 rfl (by kernel_rfl) (Nat.le_of_ble_eq_true rfl) ?_; conv => whnf
  repeat (first | (refine CondX.tt ?_; conv => whnf) | (refine CondX.ff ?_; conv => whnf))
  exact RetX.same hk
set_option maxRecDepth 100000 in
set_option maxHeartbeats 4000000 in
theorem info_21 (hk : RoK 21 h K) : CallX Hval.prog 114 [.int .u8 21] h K := by
  refine CallX.of_xf T_ok Hval.func114 rfl (by kernel_rfl) (Nat.le_of_ble_eq_true rfl) ?_; conv => whnf
  repeat (first | (refine CondX.tt ?_; conv => whnf) | (refine CondX.ff ?_; conv => whnf))
  exact RetX.same hk
set_option maxRecDepth 100000 in
set_option maxHeartbeats 4000000 in
theorem info_25 (hk : RoK 25 h K) : CallX Hval.prog 114 [.int .u8 25] h K := by
  refine CallX.of_xf T_ok Hval.func114 rfl (by kernel_rfl) (Nat.le_of_ble_eq_true rfl) ?_; conv => whnf
  repeat (first | (refine CondX.tt ?_; conv => whnf) | (refine CondX.ff ?_; conv => whnf))
  exact RetX.same hk
set_option maxRecDepth 100000 in
set_option maxHeartbeats 4000000 in
theorem info_53 (hk : RoK 53 h K) : CallX Hval.prog 114 [.int .u8 53] h K := by
  refine CallX.of_xf T_ok Hval.func114 rfl (by kernel_rfl) (Nat.le_of_ble_eq_true rfl) ?_; conv => whnf
  repeat (first | (refine CondX.tt ?_; conv => whnf) | (refine CondX.ff ?_; conv => whnf))
  exact RetX.same hk
set_option maxRecDepth 100000 in
set_option maxHeartbeats 4000000 in
theorem info_81 (hk : RoK 81 h K) : CallX Hval.prog 114 [.int .u8 81] h K := by
  refine CallX.of_xf T_ok Hval.func114 rfl (by kernel_rfl) (Nat.le_of_ble_eq_true rfl) ?_; conv => whnf
  repeat (first | (refine CondX.tt ?_; conv => whnf) | (refine CondX.ff ?_; conv => whnf))
  exact RetX.same hk
set_option maxRecDepth 100000 in
set_option maxHeartbeats 4000000 in
theorem info_49 (hk : RoK 49 h K) : CallX Hval.prog 114 [.int .u8 49] h K := by
  refine CallX.of_xf T_ok Hval.func114 rfl (by kernel_rfl) (Nat.le_of_ble_eq_true rfl) ?_; conv => whnf
  repeat (first | (refine CondX.tt ?_; conv => whnf) | (refine CondX.ff ?_; conv => whnf))
  exact RetX.same hk
set_option maxRecDepth 100000 in
set_option maxHeartbeats 4000000 in
theorem info_59 (hk : RoK 59 h K) : CallX Hval.prog 114 [.int .u8 59] h K := by
  refine CallX.of_xf T_ok Hval.func114 rfl (by kernel_rfl) (Nat.le_of_ble_eq_true rfl) ?_; conv => whnf
  repeat (first | (refine CondX.tt ?_; conv => whnf) | (refine CondX.ff ?_; conv => whnf))
  exact RetX.same hk
set_option maxRecDepth 100000 in
set_option maxHeartbeats 4000000 in
theorem info_63 (hk : RoK 63 h K) : CallX Hval.prog 114 [.int .u8 63] h K := by
  refine CallX.of_xf T_ok Hval.func114 rfl (by kernel_rfl) (Nat.le_of_ble_eq_true rfl) ?_; conv => whnf
  repeat (first | (refine CondX.tt ?_; conv => whnf) | (refine CondX.ff ?_; conv => whnf))
  exact RetX.same hk
set_option maxRecDepth 100000 in
set_option maxHeartbeats 4000000 in
theorem info_84 (hk : RoK 84 h K) : CallX Hval.prog 114 [.int .u8 84] h K := by
  refine CallX.of_xf T_ok Hval.func114 rfl (by kernel_rfl) (Nat.le_of_ble_eq_true rfl) ?_; conv => whnf
  repeat (first | (refine CondX.tt ?_; conv => whnf) | (refine CondX.ff ?_; conv => whnf))
  exact RetX.same hk
set_option maxRecDepth 100000 in
set_option maxHeartbeats 4000000 in
theorem info_92 (hk : RoK 92 h K) : CallX Hval.prog 114 [.int .u8 92] h K := by
  refine CallX.of_xf T_ok Hval.func114 rfl (by kernel_rfl) (Nat.le_of_ble_eq_true rfl) ?_; conv => whnf
  repeat (first | (refine CondX.tt ?_; conv => whnf) | (refine CondX.ff ?_; conv => whnf))
  exact RetX.same hk
set_option maxRecDepth 100000 in
set_option maxHeartbeats 4000000 in
theorem info_93 (hk : RoK 93 h K) : CallX Hval.prog 114 [.int .u8 93] h K := by
  refine CallX.of_xf T_ok Hval.func114 rfl (by kernel_rfl) (Nat.le_of_ble_eq_true rfl) ?_; conv => whnf
  repeat (first | (refine CondX.tt ?_; conv => whnf) | (refine CondX.ff ?_; conv => whnf))
  exact RetX.same hk
set_option maxRecDepth 100000 in
set_option maxHeartbeats 4000000 in
theorem info_255 (hk : RoK 255 h K) : CallX Hval.prog 114 [.int .u8 255] h K := by
  refine CallX.of_xf T_ok Hval.func114 rfl (by kernel_rfl) (Nat.le_of_ble_eq_true rfl) ?_; conv => whnf
  repeat (first | (refine CondX.tt ?_; conv => whnf) | (refine CondX.ff ?_; conv => whnf))
  exact RetX.same hk
set_option maxRecDepth 100000 in
set_option maxHeartbeats 4000000 in
theorem info_64 (hk : RoK 64 h K) : CallX Hval.prog 114 [.int .u8 64] h K := by
  refine CallX.of_xf T_ok Hval.func114 rfl (by kernel_rfl) (Nat.le_of_ble_eq_true rfl) ?_; conv => whnf
  repeat (first | (refine CondX.tt ?_; conv => whnf) | (refine CondX.ff ?_; conv => whnf))
  exact RetX.same hk
set_option maxRecDepth 100000 in
set_option maxHeartbeats 4000000 in
theorem info_80 (hk : RoK 80 h K) : CallX Hval.prog 114 [.int .u8 80] h K := by
  refine CallX.of_xf T_ok Hval.func114 rfl (by kernel_rfl) (Nat.le_of_ble_eq_true rfl) ?_; conv => whnf
  repeat (first | (refine CondX.tt ?_; conv => whnf) | (refine CondX.ff ?_; conv => whnf))
  exact RetX.same hk
set_option maxRecDepth 100000 in
set_option maxHeartbeats 4000000 in
theorem info_86 (hk : RoK 86 h K) : CallX Hval.prog 114 [.int .u8 86] h K := by
  refine CallX.of_xf T_ok Hval.func114 rfl (by kernel_rfl) (Nat.le_of_ble_eq_true rfl) ?_; conv => whnf
  repeat (first | (refine CondX.tt ?_; conv => whnf) | (refine CondX.ff ?_; conv => whnf))
  exact RetX.same hk
set_option maxRecDepth 100000 in
set_option maxHeartbeats 4000000 in
theorem info_87 (hk : RoK 87 h K) : CallX Hval.prog 114 [.int .u8 87] h K := by
  refine CallX.of_xf T_ok Hval.func114 rfl (by kernel_rfl) (Nat.le_of_ble_eq_true rfl) ?_; conv => whnf
  repeat (first | (refine CondX.tt ?_; conv => whnf) | (refine CondX.ff ?_; conv => whnf))
  exact RetX.same hk
set_option maxRecDepth 100000 in
set_option maxHeartbeats 4000000 in
theorem info_82 (hk : RoK 82 h K) : CallX Hval.prog 114 [.int .u8 82] h K := by
  refine CallX.of_xf T_ok Hval.func114 rfl (by kernel_rfl) (Nat.le_of_ble_eq_true rfl) ?_; conv => whnf
  repeat (first | (refine CondX.tt ?_; conv => whnf) | (refine CondX.ff ?_; conv => whnf))
  exact RetX.same hk
set_option maxRecDepth 100000 in
set_option maxHeartbeats 4000000 in
theorem info_83 (hk : RoK 83 h K) : CallX Hval.prog 114 [.int .u8 83] h K := by
  refine CallX.of_xf T_ok Hval.func114 rfl (by kernel_rfl) (Nat.le_of_ble_eq_true rfl) ?_; conv => whnf
  repeat (first | (refine CondX.tt ?_; conv => whnf) | (refine CondX.ff ?_; conv => whnf))
  exact RetX.same hk
set_option maxRecDepth 100000 in
set_option maxHeartbeats 4000000 in
theorem info_85 (hk : RoK 85 h K) : CallX Hval.prog 114 [.int .u8 85] h K := by
  refine CallX.of_xf T_ok Hval.func114 rfl (by kernel_rfl) (Nat.le_of_ble_eq_true rfl) ?_; conv => whnf
  repeat (first | (refine CondX.tt ?_; conv => whnf) | (refine CondX.ff ?_; conv => whnf))
  exact RetX.same hk
set_option maxRecDepth 100000 in
set_option maxHeartbeats 4000000 in
theorem info_243 (hk : RoK 243 h K) : CallX Hval.prog 114 [.int .u8 243] h K := by
  refine CallX.of_xf T_ok Hval.func114 rfl (by kernel_rfl) (Nat.le_of_ble_eq_true rfl) ?_; conv => whnf
  repeat (first | (refine CondX.tt ?_; conv => whnf) | (refine CondX.ff ?_; conv => whnf))
  exact RetX.same hk
set_option maxRecDepth 100000 in
set_option maxHeartbeats 4000000 in
theorem info_253 (hk : RoK 253 h K) : CallX Hval.prog 114 [.int .u8 253] h K := by
  refine CallX.of_xf T_ok Hval.func114 rfl (by kernel_rfl) (Nat.le_of_ble_eq_true rfl) ?_; conv => whnf
  repeat (first | (refine CondX.tt ?_; conv => whnf) | (refine CondX.ff ?_; conv => whnf))
  exact RetX.same hk
set_option maxRecDepth 100000 in
set_option maxHeartbeats 4000000 in
theorem info_55 (hk : RoK 55 h K) : CallX Hval.prog 114 [.int .u8 55] h K := by
  refine CallX.of_xf T_ok Hval.func114 rfl (by kernel_rfl) (Nat.le_of_ble_eq_true rfl) ?_; conv => whnf
  repeat (first | (refine CondX.tt ?_; conv => whnf) | (refine CondX.ff ?_; conv => whnf))
  exact RetX.same hk
set_option maxRecDepth 100000 in
set_option maxHeartbeats 4000000 in
theorem info_57 (hk : RoK 57 h K) : CallX Hval.prog 114 [.int .u8 57] h K := by
  refine CallX.of_xf T_ok Hval.func114 rfl (by kernel_rfl) (Nat.le_of_ble_eq_true rfl) ?_; conv => whnf
  repeat (first | (refine CondX.tt ?_; conv => whnf) | (refine CondX.ff ?_; conv => whnf))
  exact RetX.same hk
set_option maxRecDepth 100000 in
set_option maxHeartbeats 4000000 in
theorem info_62 (hk : RoK 62 h K) : CallX Hval.prog 114 [.int .u8 62] h K := by
  refine CallX.of_xf T_ok Hval.func114 rfl (by kernel_rfl) (Nat.le_of_ble_eq_true rfl) ?_; conv => whnf
  repeat (first | (refine CondX.tt ?_; conv => whnf) | (refine CondX.ff ?_; conv => whnf))
  exact RetX.same hk
set_option maxRecDepth 100000 in
set_option maxHeartbeats 4000000 in
theorem info_94 (hk : RoK 94 h K) : CallX Hval.prog 114 [.int .u8 94] h K := by
  refine CallX.of_xf T_ok Hval.func114 rfl (by kernel_rfl) (Nat.le_of_ble_eq_true rfl) ?_; conv => whnf
  repeat (first | (refine CondX.tt ?_; conv => whnf) | (refine CondX.ff ?_; conv => whnf))
  exact RetX.same hk
set_option maxRecDepth 100000 in
set_option maxHeartbeats 4000000 in
theorem info_60 (hk : RoK 60 h K) : CallX Hval.prog 114 [.int .u8 60] h K := by
  refine CallX.of_xf T_ok Hval.func114 rfl (by kernel_rfl) (Nat.le_of_ble_eq_true rfl) ?_; conv => whnf
  repeat (first | (refine CondX.tt ?_; conv => whnf) | (refine CondX.ff ?_; conv => whnf))
  exact RetX.same hk
set_option maxRecDepth 100000 in
set_option maxHeartbeats 4000000 in
theorem info_240 (hk : RoK 240 h K) : CallX Hval.prog 114 [.int .u8 240] h K := by
  refine CallX.of_xf T_ok Hval.func114 rfl (by kernel_rfl) (Nat.le_of_ble_eq_true rfl) ?_; conv => whnf
  repeat (first | (refine CondX.tt ?_; conv => whnf) | (refine CondX.ff ?_; conv => whnf))
  exact RetX.same hk
set_option maxRecDepth 100000 in
set_option maxHeartbeats 4000000 in
theorem info_245 (hk : RoK 245 h K) : CallX Hval.prog 114 [.int .u8 245] h K := by
  refine CallX.of_xf T_ok Hval.func114 rfl (by kernel_rfl) (Nat.le_of_ble_eq_true rfl) ?_; conv => whnf
  repeat (first | (refine CondX.tt ?_; conv => whnf) | (refine CondX.ff ?_; conv => whnf))
  exact RetX.same hk
set_option maxRecDepth 100000 in
set_option maxHeartbeats 4000000 in
theorem info_241 (hk : RoK 241 h K) : CallX Hval.prog 114 [.int .u8 241] h K := by
  refine CallX.of_xf T_ok Hval.func114 rfl (by kernel_rfl) (Nat.le_of_ble_eq_true rfl) ?_; conv => whnf
  repeat (first | (refine CondX.tt ?_; conv => whnf) | (refine CondX.ff ?_; conv => whnf))
  exact RetX.same hk
set_option maxRecDepth 100000 in
set_option maxHeartbeats 4000000 in
theorem info_242 (hk : RoK 242 h K) : CallX Hval.prog 114 [.int .u8 242] h K := by
  refine CallX.of_xf T_ok Hval.func114 rfl (by kernel_rfl) (Nat.le_of_ble_eq_true rfl) ?_; conv => whnf
  repeat (first | (refine CondX.tt ?_; conv => whnf) | (refine CondX.ff ?_; conv => whnf))
  exact RetX.same hk
set_option maxRecDepth 100000 in
set_option maxHeartbeats 4000000 in
theorem info_244 (hk : RoK 244 h K) : CallX Hval.prog 114 [.int .u8 244] h K := by
  refine CallX.of_xf T_ok Hval.func114 rfl (by kernel_rfl) (Nat.le_of_ble_eq_true rfl) ?_; conv => whnf
  repeat (first | (refine CondX.tt ?_; conv => whnf) | (refine CondX.ff ?_; conv => whnf))
  exact RetX.same hk
set_option maxRecDepth 100000 in
set_option maxHeartbeats 4000000 in
theorem info_250 (hk : RoK 250 h K) : CallX Hval.prog 114 [.int .u8 250] h K := by
  refine CallX.of_xf T_ok Hval.func114 rfl (by kernel_rfl) (Nat.le_of_ble_eq_true rfl) ?_; conv => whnf
  repeat (first | (refine CondX.tt ?_; conv => whnf) | (refine CondX.ff ?_; conv => whnf))
  exact RetX.same hk
set_option maxRecDepth 100000 in
set_option maxHeartbeats 4000000 in
theorem info_push {o : Int} (h1 : 96 ≤ o ∧ o ≤ 127) (hk : RoK o h K) : CallX Hval.prog 114 [.int .u8 o] h K := by
  unfold RoK rowI at hk
  rw [if_pos h1] at hk
  refine CallX.of_xf T_ok Hval.func114 rfl (by kernel_rfl) (Nat.le_of_ble_eq_true rfl) ?_; conv => whnf
  refine CondX.dT (by omega) ?_; conv => whnf
  repeat (first | ((with_reducible refine CondX.tt ?_); conv => whnf) | ((with_reducible refine CondX.ff ?_); conv => whnf) | ((with_reducible refine CondX.nT ?_); conv => whnf) | ((with_reducible refine CondX.nF ?_); conv => whnf) | (with_reducible refine CondX.bF ?_) | (with_reducible refine CondX.bT ?_))
  refine CondX.dT (by omega) ?_; conv => whnf
  exact RetX.same hk
set_option maxRecDepth 100000 in
set_option maxHeartbeats 4000000 in
theorem info_dup {o : Int} (h1 : 128 ≤ o ∧ o ≤ 143) (hk : RoK o h K) : CallX Hval.prog 114 [.int .u8 o] h K := by
  unfold RoK rowI at hk
  rw [if_neg (by omega), if_pos h1] at hk
  refine CallX.of_xf T_ok Hval.func114 rfl (by kernel_rfl) (Nat.le_of_ble_eq_true rfl) ?_; conv => whnf
  refine CondX.dT (by omega) ?_; conv => whnf
  repeat (first | ((with_reducible refine CondX.tt ?_); conv => whnf) | ((with_reducible refine CondX.ff ?_); conv => whnf) | ((with_reducible refine CondX.nT ?_); conv => whnf) | ((with_reducible refine CondX.nF ?_); conv => whnf) | (with_reducible refine CondX.bF ?_) | (with_reducible refine CondX.bT ?_))
  refine CondX.dF (by omega) ?_; conv => whnf
  refine CondX.dT (by omega) ?_; conv => whnf
  repeat (first | ((with_reducible refine CondX.tt ?_); conv => whnf) | ((with_reducible refine CondX.ff ?_); conv => whnf) | ((with_reducible refine CondX.nT ?_); conv => whnf) | ((with_reducible refine CondX.nF ?_); conv => whnf) | (with_reducible refine CondX.bF ?_) | (with_reducible refine CondX.bT ?_))
  refine CondX.dT (by omega) ?_; conv => whnf
  rw [show IntKind.u8.wrap (o - 128) = o - 128 by rw [wrap_u8]; omega, show IntKind.u8.wrap (o - 128 + 1) = o - 128 + 1 by rw [wrap_u8]; omega, show IntKind.u8.wrap (o - 128 + 2) = o - 128 + 2 by rw [wrap_u8]; omega]
  exact RetX.same hk
set_option maxRecDepth 100000 in
set_option maxHeartbeats 4000000 in
theorem info_swap {o : Int} (h1 : 144 ≤ o ∧ o ≤ 159) (hk : RoK o h K) : CallX Hval.prog 114 [.int .u8 o] h K := by
  unfold RoK rowI at hk
  rw [if_neg (by omega), if_neg (by omega), if_pos h1] at hk
  refine CallX.of_xf T_ok Hval.func114 rfl (by kernel_rfl) (Nat.le_of_ble_eq_true rfl) ?_; conv => whnf
  refine CondX.dT (by omega) ?_; conv => whnf
  repeat (first | ((with_reducible refine CondX.tt ?_); conv => whnf) | ((with_reducible refine CondX.ff ?_); conv => whnf) | ((with_reducible refine CondX.nT ?_); conv => whnf) | ((with_reducible refine CondX.nF ?_); conv => whnf) | (with_reducible refine CondX.bF ?_) | (with_reducible refine CondX.bT ?_))
  refine CondX.dF (by omega) ?_; conv => whnf
  refine CondX.dT (by omega) ?_; conv => whnf
  repeat (first | ((with_reducible refine CondX.tt ?_); conv => whnf) | ((with_reducible refine CondX.ff ?_); conv => whnf) | ((with_reducible refine CondX.nT ?_); conv => whnf) | ((with_reducible refine CondX.nF ?_); conv => whnf) | (with_reducible refine CondX.bF ?_) | (with_reducible refine CondX.bT ?_))
  refine CondX.dF (by omega) ?_; conv => whnf
  refine CondX.dT (by omega) ?_; conv => whnf
  repeat (first | ((with_reducible refine CondX.tt ?_); conv => whnf) | ((with_reducible refine CondX.ff ?_); conv => whnf) | ((with_reducible refine CondX.nT ?_); conv => whnf) | ((with_reducible refine CondX.nF ?_); conv => whnf) | (with_reducible refine CondX.bF ?_) | (with_reducible refine CondX.bT ?_))
  refine CondX.dT (by omega) ?_; conv => whnf
  rw [show IntKind.u8.wrap (o - 144) = o - 144 by rw [wrap_u8]; omega, show IntKind.u8.wrap (o - 144 + 2) = o - 144 + 2 by rw [wrap_u8]; omega]
  exact RetX.same hk
set_option maxRecDepth 100000 in
set_option maxHeartbeats 4000000 in
theorem info_log {o : Int} (h1 : 160 ≤ o ∧ o ≤ 164) (hk : RoK o h K) : CallX Hval.prog 114 [.int .u8 o] h K := by
  unfold RoK rowI at hk
  rw [if_neg (by omega), if_neg (by omega), if_neg (by omega), if_pos h1] at hk
  refine CallX.of_xf T_ok Hval.func114 rfl (by kernel_rfl) (Nat.le_of_ble_eq_true rfl) ?_; conv => whnf
  refine CondX.dT (by omega) ?_; conv => whnf
  repeat (first | ((with_reducible refine CondX.tt ?_); conv => whnf) | ((with_reducible refine CondX.ff ?_); conv => whnf) | ((with_reducible refine CondX.nT ?_); conv => whnf) | ((with_reducible refine CondX.nF ?_); conv => whnf) | (with_reducible refine CondX.bF ?_) | (with_reducible refine CondX.bT ?_))
  refine CondX.dF (by omega) ?_; conv => whnf
  refine CondX.dT (by omega) ?_; conv => whnf
  repeat (first | ((with_reducible refine CondX.tt ?_); conv => whnf) | ((with_reducible refine CondX.ff ?_); conv => whnf) | ((with_reducible refine CondX.nT ?_); conv => whnf) | ((with_reducible refine CondX.nF ?_); conv => whnf) | (with_reducible refine CondX.bF ?_) | (with_reducible refine CondX.bT ?_))
  refine CondX.dF (by omega) ?_; conv => whnf
  refine CondX.dT (by omega) ?_; conv => whnf
  repeat (first | ((with_reducible refine CondX.tt ?_); conv => whnf) | ((with_reducible refine CondX.ff ?_); conv => whnf) | ((with_reducible refine CondX.nT ?_); conv => whnf) | ((with_reducible refine CondX.nF ?_); conv => whnf) | (with_reducible refine CondX.bF ?_) | (with_reducible refine CondX.bT ?_))
  refine CondX.dF (by omega) ?_; conv => whnf
  refine CondX.dT (by omega) ?_; conv => whnf
  repeat (first | ((with_reducible refine CondX.tt ?_); conv => whnf) | ((with_reducible refine CondX.ff ?_); conv => whnf) | ((with_reducible refine CondX.nT ?_); conv => whnf) | ((with_reducible refine CondX.nF ?_); conv => whnf) | (with_reducible refine CondX.bF ?_) | (with_reducible refine CondX.bT ?_))
  refine CondX.dT (by omega) ?_; conv => whnf
  rw [show IntKind.u8.wrap (o - 160) = o - 160 by rw [wrap_u8]; omega, show IntKind.u8.wrap (o - 160 + 2) = o - 160 + 2 by rw [wrap_u8]; omega, show IntKind.u16.wrap (o - 160) = o - 160 by rw [wrap_u16]; omega, show IntKind.u16.wrap (o - 160 + 1) = o - 160 + 1 by rw [wrap_u16]; omega, show IntKind.u16.wrap (375 * (o - 160 + 1)) = 375 * (o - 160 + 1) by rw [wrap_u16]; omega]
  exact RetX.same hk
set_option maxRecDepth 100000 in
set_option maxHeartbeats 4000000 in
theorem info_no {o : Int} (h96 : ¬ (96 ≤ o ∧ o ≤ 164)) (g0 : o ≠ 0) (g91 : o ≠ 91) (g48 : o ≠ 48) (g50 : o ≠ 50) (g51 : o ≠ 51) (g52 : o ≠ 52) (g54 : o ≠ 54) (g56 : o ≠ 56) (g58 : o ≠ 58) (g61 : o ≠ 61) (g65 : o ≠ 65) (g66 : o ≠ 66) (g67 : o ≠ 67) (g68 : o ≠ 68) (g69 : o ≠ 69) (g70 : o ≠ 70) (g72 : o ≠ 72) (g88 : o ≠ 88) (g89 : o ≠ 89) (g90 : o ≠ 90) (g95 : o ≠ 95) (g71 : o ≠ 71) (g1 : o ≠ 1) (g3 : o ≠ 3) (g16 : o ≠ 16) (g17 : o ≠ 17) (g18 : o ≠ 18) (g19 : o ≠ 19) (g20 : o ≠ 20) (g22 : o ≠ 22) (g23 : o ≠ 23) (g24 : o ≠ 24) (g26 : o ≠ 26) (g27 : o ≠ 27) (g28 : o ≠ 28) (g29 : o ≠ 29) (g2 : o ≠ 2) (g4 : o ≠ 4) (g5 : o ≠ 5) (g6 : o ≠ 6) (g7 : o ≠ 7) (g11 : o ≠ 11) (g10 : o ≠ 10) (g32 : o ≠ 32) (g8 : o ≠ 8) (g9 : o ≠ 9) (g21 : o ≠ 21) (g25 : o ≠ 25) (g53 : o ≠ 53) (g81 : o ≠ 81) (g49 : o ≠ 49) (g59 : o ≠ 59) (g63 : o ≠ 63) (g84 : o ≠ 84) (g92 : o ≠ 92) (g93 : o ≠ 93) (g255 : o ≠ 255) (g64 : o ≠ 64) (g80 : o ≠ 80) (g86 : o ≠ 86) (g87 : o ≠ 87) (g82 : o ≠ 82) (g83 : o ≠ 83) (g85 : o ≠ 85) (g243 : o ≠ 243) (g253 : o ≠ 253) (g55 : o ≠ 55) (g57 : o ≠ 57) (g62 : o ≠ 62) (g94 : o ≠ 94) (g60 : o ≠ 60) (g240 : o ≠ 240) (g245 : o ≠ 245) (g241 : o ≠ 241) (g242 : o ≠ 242) (g244 : o ≠ 244) (g250 : o ≠ 250) (hk : RoK o h K) : CallX Hval.prog 114 [.int .u8 o] h K := by
  have hr : rowI o = ⟨0, 0, 0, false⟩ := by
    unfold rowI
    rw [if_neg (by omega), if_neg (by omega), if_neg (by omega), if_neg (by omega)]
    simp [*]
  unfold RoK at hk
  rw [hr] at hk
  refine CallX.of_xf T_ok Hval.func114 rfl (by kernel_rfl) (Nat.le_of_ble_eq_true rfl) ?_; conv => whnf
  by_cases hlo : o < 96
  · refine CondX.dF (by omega) ?_; conv => whnf
    repeat (first | ((with_reducible refine CondX.tt ?_); conv => whnf) | ((with_reducible refine CondX.ff ?_); conv => whnf) | ((with_reducible refine CondX.nT ?_); conv => whnf) | ((with_reducible refine CondX.nF ?_); conv => whnf) | (with_reducible refine CondX.bF ?_) | (with_reducible refine CondX.bT ?_))
    refine CondX.dF (by omega) ?_; conv => whnf
    repeat (first | ((with_reducible refine CondX.tt ?_); conv => whnf) | ((with_reducible refine CondX.ff ?_); conv => whnf) | ((with_reducible refine CondX.nT ?_); conv => whnf) | ((with_reducible refine CondX.nF ?_); conv => whnf) | (with_reducible refine CondX.bF ?_) | (with_reducible refine CondX.bT ?_))
    refine CondX.dF (by omega) ?_; conv => whnf
    repeat (first | ((with_reducible refine CondX.tt ?_); conv => whnf) | ((with_reducible refine CondX.ff ?_); conv => whnf) | ((with_reducible refine CondX.nT ?_); conv => whnf) | ((with_reducible refine CondX.nF ?_); conv => whnf) | (with_reducible refine CondX.bF ?_) | (with_reducible refine CondX.bT ?_))
    refine CondX.dF (by omega) ?_; conv => whnf
    repeat (first | ((with_reducible refine CondX.tt ?_); conv => whnf) | ((with_reducible refine CondX.ff ?_); conv => whnf) | ((with_reducible refine CondX.nT ?_); conv => whnf) | ((with_reducible refine CondX.nF ?_); conv => whnf) | (with_reducible refine CondX.bF ?_) | (with_reducible refine CondX.bT ?_))
    repeat' (first | (refine CondX.eqF (by assumption) ?_; conv => whnf))
    exact RetX.same hk
  · refine CondX.dT (by omega) ?_; conv => whnf
    repeat (first | ((with_reducible refine CondX.tt ?_); conv => whnf) | ((with_reducible refine CondX.ff ?_); conv => whnf) | ((with_reducible refine CondX.nT ?_); conv => whnf) | ((with_reducible refine CondX.nF ?_); conv => whnf) | (with_reducible refine CondX.bF ?_) | (with_reducible refine CondX.bT ?_))
    refine CondX.dF (by omega) ?_; conv => whnf
    refine CondX.dT (by omega) ?_; conv => whnf
    repeat (first | ((with_reducible refine CondX.tt ?_); conv => whnf) | ((with_reducible refine CondX.ff ?_); conv => whnf) | ((with_reducible refine CondX.nT ?_); conv => whnf) | ((with_reducible refine CondX.nF ?_); conv => whnf) | (with_reducible refine CondX.bF ?_) | (with_reducible refine CondX.bT ?_))
    refine CondX.dF (by omega) ?_; conv => whnf
    refine CondX.dT (by omega) ?_; conv => whnf
    repeat (first | ((with_reducible refine CondX.tt ?_); conv => whnf) | ((with_reducible refine CondX.ff ?_); conv => whnf) | ((with_reducible refine CondX.nT ?_); conv => whnf) | ((with_reducible refine CondX.nF ?_); conv => whnf) | (with_reducible refine CondX.bF ?_) | (with_reducible refine CondX.bT ?_))
    refine CondX.dF (by omega) ?_; conv => whnf
    refine CondX.dT (by omega) ?_; conv => whnf
    repeat (first | ((with_reducible refine CondX.tt ?_); conv => whnf) | ((with_reducible refine CondX.ff ?_); conv => whnf) | ((with_reducible refine CondX.nT ?_); conv => whnf) | ((with_reducible refine CondX.nF ?_); conv => whnf) | (with_reducible refine CondX.bF ?_) | (with_reducible refine CondX.bT ?_))
    refine CondX.dF (by omega) ?_; conv => whnf
    repeat' (first | (refine CondX.eqF (by assumption) ?_; conv => whnf))
    exact RetX.same hk
theorem info_ok {o : Int} (hk : RoK o h K) : CallX Hval.prog 114 [.int .u8 o] h K := by
  by_cases p1 : 96 ≤ o ∧ o ≤ 127
  · exact info_push p1 hk
  by_cases p2 : 128 ≤ o ∧ o ≤ 143
  · exact info_dup p2 hk
  by_cases p3 : 144 ≤ o ∧ o ≤ 159
  · exact info_swap p3 hk
  by_cases p4 : 160 ≤ o ∧ o ≤ 164
  · exact info_log p4 hk
  by_cases g0 : o = 0
  · subst g0; exact info_0 hk
  by_cases g91 : o = 91
  · subst g91; exact info_91 hk
  by_cases g48 : o = 48
  · subst g48; exact info_48 hk
  by_cases g50 : o = 50
  · subst g50; exact info_50 hk
  by_cases g51 : o = 51
  · subst g51; exact info_51 hk
  by_cases g52 : o = 52
  · subst g52; exact info_52 hk
  by_cases g54 : o = 54
  · subst g54; exact info_54 hk
  by_cases g56 : o = 56
  · subst g56; exact info_56 hk
  by_cases g58 : o = 58
  · subst g58; exact info_58 hk
  by_cases g61 : o = 61
  · subst g61; exact info_61 hk
  by_cases g65 : o = 65
  · subst g65; exact info_65 hk
  by_cases g66 : o = 66
  · subst g66; exact info_66 hk
  by_cases g67 : o = 67
  · subst g67; exact info_67 hk
  by_cases g68 : o = 68
  · subst g68; exact info_68 hk
  by_cases g69 : o = 69
  · subst g69; exact info_69 hk
  by_cases g70 : o = 70
  · subst g70; exact info_70 hk
  by_cases g72 : o = 72
  · subst g72; exact info_72 hk
  by_cases g88 : o = 88
  · subst g88; exact info_88 hk
  by_cases g89 : o = 89
  · subst g89; exact info_89 hk
  by_cases g90 : o = 90
  · subst g90; exact info_90 hk
  by_cases g95 : o = 95
  · subst g95; exact info_95 hk
  by_cases g71 : o = 71
  · subst g71; exact info_71 hk
  by_cases g1 : o = 1
  · subst g1; exact info_1 hk
  by_cases g3 : o = 3
  · subst g3; exact info_3 hk
  by_cases g16 : o = 16
  · subst g16; exact info_16 hk
  by_cases g17 : o = 17
  · subst g17; exact info_17 hk
  by_cases g18 : o = 18
  · subst g18; exact info_18 hk
  by_cases g19 : o = 19
  · subst g19; exact info_19 hk
  by_cases g20 : o = 20
  · subst g20; exact info_20 hk
  by_cases g22 : o = 22
  · subst g22; exact info_22 hk
  by_cases g23 : o = 23
  · subst g23; exact info_23 hk
  by_cases g24 : o = 24
  · subst g24; exact info_24 hk
  by_cases g26 : o = 26
  · subst g26; exact info_26 hk
  by_cases g27 : o = 27
  · subst g27; exact info_27 hk
  by_cases g28 : o = 28
  · subst g28; exact info_28 hk
  by_cases g29 : o = 29
  · subst g29; exact info_29 hk
  by_cases g2 : o = 2
  · subst g2; exact info_2 hk
  by_cases g4 : o = 4
  · subst g4; exact info_4 hk
  by_cases g5 : o = 5
  · subst g5; exact info_5 hk
  by_cases g6 : o = 6
  · subst g6; exact info_6 hk
  by_cases g7 : o = 7
  · subst g7; exact info_7 hk
  by_cases g11 : o = 11
  · subst g11; exact info_11 hk
  by_cases g10 : o = 10
  · subst g10; exact info_10 hk
  by_cases g32 : o = 32
  · subst g32; exact info_32 hk
  by_cases g8 : o = 8
  · subst g8; exact info_8 hk
  by_cases g9 : o = 9
  · subst g9; exact info_9 hk
  by_cases g21 : o = 21
  · subst g21; exact info_21 hk
  by_cases g25 : o = 25
  · subst g25; exact info_25 hk
  by_cases g53 : o = 53
  · subst g53; exact info_53 hk
  by_cases g81 : o = 81
  · subst g81; exact info_81 hk
  by_cases g49 : o = 49
  · subst g49; exact info_49 hk
  by_cases g59 : o = 59
  · subst g59; exact info_59 hk
  by_cases g63 : o = 63
  · subst g63; exact info_63 hk
  by_cases g84 : o = 84
  · subst g84; exact info_84 hk
  by_cases g92 : o = 92
  · subst g92; exact info_92 hk
  by_cases g93 : o = 93
  · subst g93; exact info_93 hk
  by_cases g255 : o = 255
  · subst g255; exact info_255 hk
  by_cases g64 : o = 64
  · subst g64; exact info_64 hk
  by_cases g80 : o = 80
  · subst g80; exact info_80 hk
  by_cases g86 : o = 86
  · subst g86; exact info_86 hk
  by_cases g87 : o = 87
  · subst g87; exact info_87 hk
  by_cases g82 : o = 82
  · subst g82; exact info_82 hk
  by_cases g83 : o = 83
  · subst g83; exact info_83 hk
  by_cases g85 : o = 85
  · subst g85; exact info_85 hk
  by_cases g243 : o = 243
  · subst g243; exact info_243 hk
  by_cases g253 : o = 253
  · subst g253; exact info_253 hk
  by_cases g55 : o = 55
  · subst g55; exact info_55 hk
  by_cases g57 : o = 57
  · subst g57; exact info_57 hk
  by_cases g62 : o = 62
  · subst g62; exact info_62 hk
  by_cases g94 : o = 94
  · subst g94; exact info_94 hk
  by_cases g60 : o = 60
  · subst g60; exact info_60 hk
  by_cases g240 : o = 240
  · subst g240; exact info_240 hk
  by_cases g245 : o = 245
  · subst g245; exact info_245 hk
  by_cases g241 : o = 241
  · subst g241; exact info_241 hk
  by_cases g242 : o = 242
  · subst g242; exact info_242 hk
  by_cases g244 : o = 244
  · subst g244; exact info_244 hk
  by_cases g250 : o = 250
  · subst g250; exact info_250 hk
  exact info_no (by omega) g0 g91 g48 g50 g51 g52 g54 g56 g58 g61 g65 g66 g67 g68 g69 g70 g72 g88 g89 g90 g95 g71 g1 g3 g16 g17 g18 g19 g20 g22 g23 g24 g26 g27 g28 g29 g2 g4 g5 g6 g7 g11 g10 g32 g8 g9 g21 g25 g53 g81 g49 g59 g63 g84 g92 g93 g255 g64 g80 g86 g87 g82 g83 g85 g243 g253 g55 g57 g62 g94 g60 g240 g245 g241 g242 g244 g250 hk
end
end Go.Proofs.YgvalwGreat.X
