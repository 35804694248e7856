import Derived.Test.YgvalwGreatM21
set_option linter.unusedVariables false
set_option linter.unusedSimpArgs false
namespace Go.Proofs.YgvalwGreat.X
open Go

section
variable {hi hm h : Hp} {K : Value → Hp → Prop} {v : VS} {eb : Nat} {w : AW} {sn : List AW} {m : MS} {t : Nat} {A : Nat → Nat}
theorem accA_bd2 (w : AW) (a : List Int) : 0 ≤ accA w a ∧ accA w a ≤ 2600 := by unfold accA; split <;> omega
theorem nbI_bd {b : Nat} (hb : (b : Int) < W) : 0 ≤ nbI b ∧ nbI b ≤ 32 := by
  have hb' : b < 2 ^ 256 := by
    have := toNat_bd (x := (b : Int)) (by omega) hb
    simpa using this
  unfold nbI bitsI
  split
  · simp
  · have h1 : Nat.log2 ((b : Int)).toNat < 256 := by
      rw [Int.toNat_natCast]
      by_cases h0 : b = 0
      · subst h0; decide
      · exact (Nat.log2_lt h0).2 hb'
    omega
set_option maxRecDepth 100000 in
set_option maxHeartbeats 4000000 in
theorem dyn_10 (M : MA hi hm eb m t w sn v) (he : Ext (join hi hm) h) (hA : ∀ i, argM m t i = A i) (hk : K (.int .u64 (50 * nbI (A 1))) h) : CallX Hval.prog 252 [.pointer (some ⟨eb, 0, none⟩), .pointer (some ⟨eb, 1803 + t * 65, none⟩), .int .u8 10] h K := by
  have q : ∀ i, (A i : Int) < W := fun i => hA i ▸ (argM_W M i).2
  have F := M.f
  have h7 := M.t7
  refine CallX.of_xf T_ok Hval.func252 rfl (by kernel_rfl) (Nat.le_of_ble_eq_true rfl) ?_; conv => whnf
  repeat (first | (refine CondX.tt ?_; conv => whnf) | (refine CondX.ff ?_; conv => whnf))
  refine arg_okM (i := 1) M he (by decide) ?_
  rw [hA]; conv => whnf
  refine eExpCost_ok (q 1) ?_; conv => whnf
  have hnb : 0 ≤ nbI (A 1) ∧ nbI (A 1) ≤ 32 := nbI_bd (q 1)
  rw [show IntKind.u64.wrap (10 + 50 * nbI (A 1) - 10) = 50 * nbI (A 1) by rw [wrap_u64']; omega]
  exact RetX.same hk
set_option maxRecDepth 100000 in
set_option maxHeartbeats 4000000 in
theorem dyn_32 (M : MA hi hm eb m t w sn v) (he : Ext (join hi hm) h) (hA : ∀ i, argM m t i = A i) (hl : A 1 ≤ 717280) (hk : K (.int .u64 (6 * (((A 1 : Int) + 31) / 32))) h) : CallX Hval.prog 252 [.pointer (some ⟨eb, 0, none⟩), .pointer (some ⟨eb, 1803 + t * 65, none⟩), .int .u8 32] h K := by
  have q : ∀ i, (A i : Int) < W := fun i => hA i ▸ (argM_W M i).2
  have F := M.f
  have h7 := M.t7
  refine CallX.of_xf T_ok Hval.func252 rfl (by kernel_rfl) (Nat.le_of_ble_eq_true rfl) ?_; conv => whnf
  repeat (first | (refine CondX.tt ?_; conv => whnf) | (refine CondX.ff ?_; conv => whnf))
  refine arg_okM (i := 1) M he (by decide) ?_
  rw [hA]; conv => whnf
  refine length_ok (q 1) (by omega) ?_; conv => whnf
  refine wordsE (by omega) ?_; conv => whnf
  rw [show IntKind.u64.wrap (6 * (((A 1 : Int) + 31) / 32)) = 6 * (((A 1 : Int) + 31) / 32) by rw [wrap_u64']; omega]
  exact RetX.same hk
set_option maxRecDepth 100000 in
set_option maxHeartbeats 4000000 in
theorem dyn_240 (M : MA hi hm eb m t w sn v) (he : Ext (join hi hm) h) (hA : ∀ i, argM m t i = A i) (hl : A 2 ≤ 717280) (hk : K (.int .u64 (2 * (((A 2 : Int) + 31) / 32))) h) : CallX Hval.prog 252 [.pointer (some ⟨eb, 0, none⟩), .pointer (some ⟨eb, 1803 + t * 65, none⟩), .int .u8 240] h K := by
  have q : ∀ i, (A i : Int) < W := fun i => hA i ▸ (argM_W M i).2
  have F := M.f
  have h7 := M.t7
  refine CallX.of_xf T_ok Hval.func252 rfl (by kernel_rfl) (Nat.le_of_ble_eq_true rfl) ?_; conv => whnf
  repeat (first | (refine CondX.tt ?_; conv => whnf) | (refine CondX.ff ?_; conv => whnf))
  refine arg_okM (i := 2) M he (by decide) ?_
  rw [hA]; conv => whnf
  refine length_ok (q 2) (by omega) ?_; conv => whnf
  refine wordsE (by omega) ?_; conv => whnf
  rw [show IntKind.u64.wrap (2 * (((A 2 : Int) + 31) / 32)) = 2 * (((A 2 : Int) + 31) / 32) by rw [wrap_u64']; omega]
  exact RetX.same hk
set_option maxRecDepth 100000 in
set_option maxHeartbeats 4000000 in
theorem dyn_245 (M : MA hi hm eb m t w sn v) (he : Ext (join hi hm) h) (hA : ∀ i, argM m t i = A i) (hl : A 2 ≤ 717280) (hk : K (.int .u64 (8 * (((A 2 : Int) + 31) / 32))) h) : CallX Hval.prog 252 [.pointer (some ⟨eb, 0, none⟩), .pointer (some ⟨eb, 1803 + t * 65, none⟩), .int .u8 245] h K := by
  have q : ∀ i, (A i : Int) < W := fun i => hA i ▸ (argM_W M i).2
  have F := M.f
  have h7 := M.t7
  refine CallX.of_xf T_ok Hval.func252 rfl (by kernel_rfl) (Nat.le_of_ble_eq_true rfl) ?_; conv => whnf
  repeat (first | (refine CondX.tt ?_; conv => whnf) | (refine CondX.ff ?_; conv => whnf))
  refine arg_okM (i := 2) M he (by decide) ?_
  rw [hA]; conv => whnf
  refine length_ok (q 2) (by omega) ?_; conv => whnf
  refine wordsE (by omega) ?_; conv => whnf
  rw [show IntKind.u64.wrap (8 * (((A 2 : Int) + 31) / 32)) = 8 * (((A 2 : Int) + 31) / 32) by rw [wrap_u64']; omega]
  exact RetX.same hk
set_option maxRecDepth 100000 in
set_option maxHeartbeats 4000000 in
theorem dyn_55 (M : MA hi hm eb m t w sn v) (he : Ext (join hi hm) h) (hA : ∀ i, argM m t i = A i) (hl : A 2 ≤ 717280) (hk : K (.int .u64 (3 * (((A 2 : Int) + 31) / 32))) h) : CallX Hval.prog 252 [.pointer (some ⟨eb, 0, none⟩), .pointer (some ⟨eb, 1803 + t * 65, none⟩), .int .u8 55] h K := by
  have q : ∀ i, (A i : Int) < W := fun i => hA i ▸ (argM_W M i).2
  have F := M.f
  have h7 := M.t7
  refine CallX.of_xf T_ok Hval.func252 rfl (by kernel_rfl) (Nat.le_of_ble_eq_true rfl) ?_; conv => whnf
  repeat (first | (refine CondX.tt ?_; conv => whnf) | (refine CondX.ff ?_; conv => whnf))
  refine arg_okM (i := 2) M he (by decide) ?_
  rw [hA]; conv => whnf
  refine length_ok (q 2) (by omega) ?_; conv => whnf
  refine copyCost_ok (by omega) ?_; conv => whnf
  exact RetX.same hk
set_option maxRecDepth 100000 in
set_option maxHeartbeats 4000000 in
theorem dyn_57 (M : MA hi hm eb m t w sn v) (he : Ext (join hi hm) h) (hA : ∀ i, argM m t i = A i) (hl : A 2 ≤ 717280) (hk : K (.int .u64 (3 * (((A 2 : Int) + 31) / 32))) h) : CallX Hval.prog 252 [.pointer (some ⟨eb, 0, none⟩), .pointer (some ⟨eb, 1803 + t * 65, none⟩), .int .u8 57] h K := by
  have q : ∀ i, (A i : Int) < W := fun i => hA i ▸ (argM_W M i).2
  have F := M.f
  have h7 := M.t7
  refine CallX.of_xf T_ok Hval.func252 rfl (by kernel_rfl) (Nat.le_of_ble_eq_true rfl) ?_; conv => whnf
  repeat (first | (refine CondX.tt ?_; conv => whnf) | (refine CondX.ff ?_; conv => whnf))
  refine arg_okM (i := 2) M he (by decide) ?_
  rw [hA]; conv => whnf
  refine length_ok (q 2) (by omega) ?_; conv => whnf
  refine copyCost_ok (by omega) ?_; conv => whnf
  exact RetX.same hk
set_option maxRecDepth 100000 in
set_option maxHeartbeats 4000000 in
theorem dyn_62 (M : MA hi hm eb m t w sn v) (he : Ext (join hi hm) h) (hA : ∀ i, argM m t i = A i) (hl : A 2 ≤ 717280) (hk : K (.int .u64 (3 * (((A 2 : Int) + 31) / 32))) h) : CallX Hval.prog 252 [.pointer (some ⟨eb, 0, none⟩), .pointer (some ⟨eb, 1803 + t * 65, none⟩), .int .u8 62] h K := by
  have q : ∀ i, (A i : Int) < W := fun i => hA i ▸ (argM_W M i).2
  have F := M.f
  have h7 := M.t7
  refine CallX.of_xf T_ok Hval.func252 rfl (by kernel_rfl) (Nat.le_of_ble_eq_true rfl) ?_; conv => whnf
  repeat (first | (refine CondX.tt ?_; conv => whnf) | (refine CondX.ff ?_; conv => whnf))
  refine arg_okM (i := 2) M he (by decide) ?_
  rw [hA]; conv => whnf
  refine length_ok (q 2) (by omega) ?_; conv => whnf
  refine copyCost_ok (by omega) ?_; conv => whnf
  exact RetX.same hk
set_option maxRecDepth 100000 in
set_option maxHeartbeats 4000000 in
theorem dyn_94 (M : MA hi hm eb m t w sn v) (he : Ext (join hi hm) h) (hA : ∀ i, argM m t i = A i) (hl : A 2 ≤ 717280) (hk : K (.int .u64 (3 * (((A 2 : Int) + 31) / 32))) h) : CallX Hval.prog 252 [.pointer (some ⟨eb, 0, none⟩), .pointer (some ⟨eb, 1803 + t * 65, none⟩), .int .u8 94] h K := by
  have q : ∀ i, (A i : Int) < W := fun i => hA i ▸ (argM_W M i).2
  have F := M.f
  have h7 := M.t7
  refine CallX.of_xf T_ok Hval.func252 rfl (by kernel_rfl) (Nat.le_of_ble_eq_true rfl) ?_; conv => whnf
  repeat (first | (refine CondX.tt ?_; conv => whnf) | (refine CondX.ff ?_; conv => whnf))
  refine arg_okM (i := 2) M he (by decide) ?_
  rw [hA]; conv => whnf
  refine length_ok (q 2) (by omega) ?_; conv => whnf
  refine copyCost_ok (by omega) ?_; conv => whnf
  exact RetX.same hk
set_option maxRecDepth 100000 in
set_option maxHeartbeats 4000000 in
theorem dyn_49 (M : MA hi hm eb m t w sn v) (he : Ext (join hi hm) h) (hA : ∀ i, argM m t i = A i) (hk : K (.int .u64 (accA w (addrI (A 0)))) h) : CallX Hval.prog 252 [.pointer (some ⟨eb, 0, none⟩), .pointer (some ⟨eb, 1803 + t * 65, none⟩), .int .u8 49] h K := by
  have q : ∀ i, (A i : Int) < W := fun i => hA i ▸ (argM_W M i).2
  have F := M.f
  have h7 := M.t7
  refine CallX.of_xf T_ok Hval.func252 rfl (by kernel_rfl) (Nat.le_of_ble_eq_true rfl) ?_; conv => whnf
  repeat (first | (refine CondX.tt ?_; conv => whnf) | (refine CondX.ff ?_; conv => whnf))
  refine arg_okM (i := 0) M he (by decide) ?_
  rw [hA]; conv => whnf
  refine access_okM M he (q 0) ?_; conv => whnf
  exact RetX.same hk
set_option maxRecDepth 100000 in
set_option maxHeartbeats 4000000 in
theorem dyn_59 (M : MA hi hm eb m t w sn v) (he : Ext (join hi hm) h) (hA : ∀ i, argM m t i = A i) (hk : K (.int .u64 (accA w (addrI (A 0)))) h) : CallX Hval.prog 252 [.pointer (some ⟨eb, 0, none⟩), .pointer (some ⟨eb, 1803 + t * 65, none⟩), .int .u8 59] h K := by
  have q : ∀ i, (A i : Int) < W := fun i => hA i ▸ (argM_W M i).2
  have F := M.f
  have h7 := M.t7
  refine CallX.of_xf T_ok Hval.func252 rfl (by kernel_rfl) (Nat.le_of_ble_eq_true rfl) ?_; conv => whnf
  repeat (first | (refine CondX.tt ?_; conv => whnf) | (refine CondX.ff ?_; conv => whnf))
  refine arg_okM (i := 0) M he (by decide) ?_
  rw [hA]; conv => whnf
  refine access_okM M he (q 0) ?_; conv => whnf
  exact RetX.same hk
set_option maxRecDepth 100000 in
set_option maxHeartbeats 4000000 in
theorem dyn_63 (M : MA hi hm eb m t w sn v) (he : Ext (join hi hm) h) (hA : ∀ i, argM m t i = A i) (hk : K (.int .u64 (accA w (addrI (A 0)))) h) : CallX Hval.prog 252 [.pointer (some ⟨eb, 0, none⟩), .pointer (some ⟨eb, 1803 + t * 65, none⟩), .int .u8 63] h K := by
  have q : ∀ i, (A i : Int) < W := fun i => hA i ▸ (argM_W M i).2
  have F := M.f
  have h7 := M.t7
  refine CallX.of_xf T_ok Hval.func252 rfl (by kernel_rfl) (Nat.le_of_ble_eq_true rfl) ?_; conv => whnf
  repeat (first | (refine CondX.tt ?_; conv => whnf) | (refine CondX.ff ?_; conv => whnf))
  refine arg_okM (i := 0) M he (by decide) ?_
  rw [hA]; conv => whnf
  refine access_okM M he (q 0) ?_; conv => whnf
  exact RetX.same hk
set_option maxRecDepth 100000 in
set_option maxHeartbeats 4000000 in
theorem dyn_244 (M : MA hi hm eb m t w sn v) (he : Ext (join hi hm) h) (hA : ∀ i, argM m t i = A i) (hk : K (.int .u64 (accA w (addrI (A 1)))) h) : CallX Hval.prog 252 [.pointer (some ⟨eb, 0, none⟩), .pointer (some ⟨eb, 1803 + t * 65, none⟩), .int .u8 244] h K := by
  have q : ∀ i, (A i : Int) < W := fun i => hA i ▸ (argM_W M i).2
  have F := M.f
  have h7 := M.t7
  refine CallX.of_xf T_ok Hval.func252 rfl (by kernel_rfl) (Nat.le_of_ble_eq_true rfl) ?_; conv => whnf
  repeat (first | (refine CondX.tt ?_; conv => whnf) | (refine CondX.ff ?_; conv => whnf))
  refine arg_okM (i := 1) M he (by decide) ?_
  rw [hA]; conv => whnf
  refine access_okM M he (q 1) ?_; conv => whnf
  exact RetX.same hk
set_option maxRecDepth 100000 in
set_option maxHeartbeats 4000000 in
theorem dyn_250 (M : MA hi hm eb m t w sn v) (he : Ext (join hi hm) h) (hA : ∀ i, argM m t i = A i) (hk : K (.int .u64 (accA w (addrI (A 1)))) h) : CallX Hval.prog 252 [.pointer (some ⟨eb, 0, none⟩), .pointer (some ⟨eb, 1803 + t * 65, none⟩), .int .u8 250] h K := by
  have q : ∀ i, (A i : Int) < W := fun i => hA i ▸ (argM_W M i).2
  have F := M.f
  have h7 := M.t7
  refine CallX.of_xf T_ok Hval.func252 rfl (by kernel_rfl) (Nat.le_of_ble_eq_true rfl) ?_; conv => whnf
  repeat (first | (refine CondX.tt ?_; conv => whnf) | (refine CondX.ff ?_; conv => whnf))
  refine arg_okM (i := 1) M he (by decide) ?_
  rw [hA]; conv => whnf
  refine access_okM M he (q 1) ?_; conv => whnf
  exact RetX.same hk
set_option maxRecDepth 100000 in
set_option maxHeartbeats 4000000 in
theorem dyn_60 (M : MA hi hm eb m t w sn v) (he : Ext (join hi hm) h) (hA : ∀ i, argM m t i = A i) (hl : A 3 ≤ 717280) (hk : K (.int .u64 (accA w (addrI (A 0)) + 3 * (((A 3 : Int) + 31) / 32))) h) : CallX Hval.prog 252 [.pointer (some ⟨eb, 0, none⟩), .pointer (some ⟨eb, 1803 + t * 65, none⟩), .int .u8 60] h K := by
  have q : ∀ i, (A i : Int) < W := fun i => hA i ▸ (argM_W M i).2
  have F := M.f
  have h7 := M.t7
  refine CallX.of_xf T_ok Hval.func252 rfl (by kernel_rfl) (Nat.le_of_ble_eq_true rfl) ?_; conv => whnf
  repeat (first | (refine CondX.tt ?_; conv => whnf) | (refine CondX.ff ?_; conv => whnf))
  refine arg_okM (i := 0) M he (by decide) ?_
  rw [hA]; conv => whnf
  refine access_okM M he (q 0) ?_; conv => whnf
  refine arg_okM (i := 3) M he (by decide) ?_
  rw [hA]; conv => whnf
  refine length_ok (q 3) (by omega) ?_; conv => whnf
  refine copyCost_ok (by omega) ?_; conv => whnf
  have hacc := accA_bd2 w (addrI (A 0))
  rw [show IntKind.u64.wrap (accA w (addrI (A 0)) + 3 * (((A 3 : Int) + 31) / 32)) = accA w (addrI (A 0)) + 3 * (((A 3 : Int) + 31) / 32) by rw [wrap_u64']; omega]
  exact RetX.same hk
set_option maxRecDepth 100000 in
set_option maxHeartbeats 4000000 in
theorem dyn_160 (M : MA hi hm eb m t w sn v) (he : Ext (join hi hm) h) (hA : ∀ i, argM m t i = A i) (hl : A 1 ≤ 717280) (hk : K (.int .u64 (8 * (A 1 : Int))) h) : CallX Hval.prog 252 [.pointer (some ⟨eb, 0, none⟩), .pointer (some ⟨eb, 1803 + t * 65, none⟩), .int .u8 160] h K := by
  have q : ∀ i, (A i : Int) < W := fun i => hA i ▸ (argM_W M i).2
  have F := M.f
  have h7 := M.t7
  refine CallX.of_xf T_ok Hval.func252 rfl (by kernel_rfl) (Nat.le_of_ble_eq_true rfl) ?_; conv => whnf
  repeat (first | (refine CondX.tt ?_; conv => whnf) | (refine CondX.ff ?_; conv => whnf))
  refine arg_okM (i := 1) M he (by decide) ?_
  rw [hA]; conv => whnf
  refine length_ok (q 1) (by omega) ?_; conv => whnf
  rw [show IntKind.u64.wrap (8 * (A 1 : Int)) = 8 * (A 1 : Int) by rw [wrap_u64']; omega]
  exact RetX.same hk
set_option maxRecDepth 100000 in
set_option maxHeartbeats 4000000 in
theorem dyn_161 (M : MA hi hm eb m t w sn v) (he : Ext (join hi hm) h) (hA : ∀ i, argM m t i = A i) (hl : A 1 ≤ 717280) (hk : K (.int .u64 (8 * (A 1 : Int))) h) : CallX Hval.prog 252 [.pointer (some ⟨eb, 0, none⟩), .pointer (some ⟨eb, 1803 + t * 65, none⟩), .int .u8 161] h K := by
  have q : ∀ i, (A i : Int) < W := fun i => hA i ▸ (argM_W M i).2
  have F := M.f
  have h7 := M.t7
  refine CallX.of_xf T_ok Hval.func252 rfl (by kernel_rfl) (Nat.le_of_ble_eq_true rfl) ?_; conv => whnf
  repeat (first | (refine CondX.tt ?_; conv => whnf) | (refine CondX.ff ?_; conv => whnf))
  refine arg_okM (i := 1) M he (by decide) ?_
  rw [hA]; conv => whnf
  refine length_ok (q 1) (by omega) ?_; conv => whnf
  rw [show IntKind.u64.wrap (8 * (A 1 : Int)) = 8 * (A 1 : Int) by rw [wrap_u64']; omega]
  exact RetX.same hk
set_option maxRecDepth 100000 in
set_option maxHeartbeats 4000000 in
theorem dyn_162 (M : MA hi hm eb m t w sn v) (he : Ext (join hi hm) h) (hA : ∀ i, argM m t i = A i) (hl : A 1 ≤ 717280) (hk : K (.int .u64 (8 * (A 1 : Int))) h) : CallX Hval.prog 252 [.pointer (some ⟨eb, 0, none⟩), .pointer (some ⟨eb, 1803 + t * 65, none⟩), .int .u8 162] h K := by
  have q : ∀ i, (A i : Int) < W := fun i => hA i ▸ (argM_W M i).2
  have F := M.f
  have h7 := M.t7
  refine CallX.of_xf T_ok Hval.func252 rfl (by kernel_rfl) (Nat.le_of_ble_eq_true rfl) ?_; conv => whnf
  repeat (first | (refine CondX.tt ?_; conv => whnf) | (refine CondX.ff ?_; conv => whnf))
  refine arg_okM (i := 1) M he (by decide) ?_
  rw [hA]; conv => whnf
  refine length_ok (q 1) (by omega) ?_; conv => whnf
  rw [show IntKind.u64.wrap (8 * (A 1 : Int)) = 8 * (A 1 : Int) by rw [wrap_u64']; omega]
  exact RetX.same hk
set_option maxRecDepth 100000 in
set_option maxHeartbeats 4000000 in
theorem dyn_163 (M : MA hi hm eb m t w sn v) (he : Ext (join hi hm) h) (hA : ∀ i, argM m t i = A i) (hl : A 1 ≤ 717280) (hk : K (.int .u64 (8 * (A 1 : Int))) h) : CallX Hval.prog 252 [.pointer (some ⟨eb, 0, none⟩), .pointer (some ⟨eb, 1803 + t * 65, none⟩), .int .u8 163] h K := by
  have q : ∀ i, (A i : Int) < W := fun i => hA i ▸ (argM_W M i).2
  have F := M.f
  have h7 := M.t7
  refine CallX.of_xf T_ok Hval.func252 rfl (by kernel_rfl) (Nat.le_of_ble_eq_true rfl) ?_; conv => whnf
  repeat (first | (refine CondX.tt ?_; conv => whnf) | (refine CondX.ff ?_; conv => whnf))
  refine arg_okM (i := 1) M he (by decide) ?_
  rw [hA]; conv => whnf
  refine length_ok (q 1) (by omega) ?_; conv => whnf
  rw [show IntKind.u64.wrap (8 * (A 1 : Int)) = 8 * (A 1 : Int) by rw [wrap_u64']; omega]
  exact RetX.same hk
set_option maxRecDepth 100000 in
set_option maxHeartbeats 4000000 in
theorem dyn_164 (M : MA hi hm eb m t w sn v) (he : Ext (join hi hm) h) (hA : ∀ i, argM m t i = A i) (hl : A 1 ≤ 717280) (hk : K (.int .u64 (8 * (A 1 : Int))) h) : CallX Hval.prog 252 [.pointer (some ⟨eb, 0, none⟩), .pointer (some ⟨eb, 1803 + t * 65, none⟩), .int .u8 164] h K := by
  have q : ∀ i, (A i : Int) < W := fun i => hA i ▸ (argM_W M i).2
  have F := M.f
  have h7 := M.t7
  refine CallX.of_xf T_ok Hval.func252 rfl (by kernel_rfl) (Nat.le_of_ble_eq_true rfl) ?_; conv => whnf
  repeat (first | (refine CondX.tt ?_; conv => whnf) | (refine CondX.ff ?_; conv => whnf))
  refine arg_okM (i := 1) M he (by decide) ?_
  rw [hA]; conv => whnf
  refine length_ok (q 1) (by omega) ?_; conv => whnf
  rw [show IntKind.u64.wrap (8 * (A 1 : Int)) = 8 * (A 1 : Int) by rw [wrap_u64']; omega]
  exact RetX.same hk
set_option maxRecDepth 100000 in
set_option maxHeartbeats 4000000 in
theorem dyn_84 (M : MA hi hm eb m t w sn v) (he : Ext (join hi hm) h) (hA : ∀ i, argM m t i = A i) (hk : K (.int .u64 (if w.warmS (m.fr t).self (A 0) = true then 100 else 2100)) h) : CallX Hval.prog 252 [.pointer (some ⟨eb, 0, none⟩), .pointer (some ⟨eb, 1803 + t * 65, none⟩), .int .u8 84] h K := by
  have q : ∀ i, (A i : Int) < W := fun i => hA i ▸ (argM_W M i).2
  have F := M.f
  have h7 := M.t7
  refine CallX.of_xf T_ok Hval.func252 rfl (by kernel_rfl) (Nat.le_of_ble_eq_true rfl) ?_; conv => whnf
  repeat (first | (refine CondX.tt ?_; conv => whnf) | (refine CondX.ff ?_; conv => whnf))
  have hb := M.blk he
  have hself : (fnv (31, y31).snd.size fun i => eC (mC eb m) v (1803 + t * 65 + 9 + i)) = bcells (m.fr t).self := mR_self h7 F.self.1
  refine DrawX.go T_ok hM Hval.func252 (tb := dr252) rfl (by kernel_rfl) ?_; conv => whnf
  refine LoadX.fn hb 0 rfl (by omega) ?_
  rw [mR_S]; conv => whnf
  refine LoadX.fnA hb (1803 + t * 65 + 9) rfl (by show 1803 + t * 65 + 9 + 20 ≤ 27024; omega) ?_
  rw [hself]; conv => whnf
  refine arg_okM (i := 0) M he (by decide) ?_
  rw [hA]; conv => whnf
  repeat (refine Ob.mk (by first | exact ldV_fn hb 0 rfl (by omega) | exact (ldV_fnA hb (1803 + t * 65 + 9) rfl (by show 1803 + t * 65 + 9 + 20 ≤ 27024; omega)).trans (by rw [hself]; rfl)) ?_; conv => whnf)
  refine eWarmSlot_ok F.self.1 F.self.2 (q 0) M.A he ?_; conv => whnf
  cases hw : w.warmS (m.fr t).self (A 0) with
  | true =>
    refine CondX.tt ?_; conv => whnf
    rw [hw, if_pos rfl] at hk
    exact RetX.same hk
  | false =>
    refine CondX.ff ?_; conv => whnf
    rw [hw, if_neg (show ¬ (false = true) by decide)] at hk
    exact RetX.same hk
set_option maxRecDepth 100000 in
set_option maxHeartbeats 4000000 in
theorem dyn_85 (M : MA hi hm eb m t w sn v) (he : Ext (join hi hm) h) (hA : ∀ i, argM m t i = A i) (hk : K (.int .u64 (sstoreC ((w.acct (m.fr t).self).slot (A 0)) (A 1) (!w.warmS (m.fr t).self (A 0)))) h) : CallX Hval.prog 252 [.pointer (some ⟨eb, 0, none⟩), .pointer (some ⟨eb, 1803 + t * 65, none⟩), .int .u8 85] h K := by
  have q : ∀ i, (A i : Int) < W := fun i => hA i ▸ (argM_W M i).2
  have F := M.f
  have h7 := M.t7
  refine CallX.of_xf T_ok Hval.func252 rfl (by kernel_rfl) (Nat.le_of_ble_eq_true rfl) ?_; conv => whnf
  repeat (first | (refine CondX.tt ?_; conv => whnf) | (refine CondX.ff ?_; conv => whnf))
  refine sstore_okM M he (hA 0) (hA 1) ?_; conv => whnf
  exact RetX.same hk
set_option maxRecDepth 100000 in
set_option maxHeartbeats 4000000 in
theorem dyn_255 (M : MA hi hm eb m t w sn v) (he : Ext (join hi hm) h) (hA : ∀ i, argM m t i = A i) (hk : K (.int .u64 ((if w.warmA (addrI (A 0)) = true then 0 else 2600) + (if emptyAA (w.acct (addrI (A 0))) = true ∧ (w.acct (m.fr t).self).bal ≠ 0 then 25000 else 0))) h) : CallX Hval.prog 252 [.pointer (some ⟨eb, 0, none⟩), .pointer (some ⟨eb, 1803 + t * 65, none⟩), .int .u8 255] h K := by
  have q : ∀ i, (A i : Int) < W := fun i => hA i ▸ (argM_W M i).2
  have F := M.f
  have h7 := M.t7
  refine CallX.of_xf T_ok Hval.func252 rfl (by kernel_rfl) (Nat.le_of_ble_eq_true rfl) ?_; conv => whnf
  repeat (first | (refine CondX.tt ?_; conv => whnf) | (refine CondX.ff ?_; conv => whnf))
  refine destroyCost_okM M he (hA 0) ?_; conv => whnf
  exact RetX.same hk
set_option maxRecDepth 100000 in
set_option maxHeartbeats 4000000 in
theorem dyn_241 (M : MA hi hm eb m t w sn v) (he : Ext (join hi hm) h) (hA : ∀ i, argM m t i = A i) (hk : K (.int .u64 (accA w (addrI (A 1)) + (if A 2 ≠ 0 then 9000 + (if emptyAA (w.acct (addrI (A 1))) = true then 25000 else 0) else 0))) h) : CallX Hval.prog 252 [.pointer (some ⟨eb, 0, none⟩), .pointer (some ⟨eb, 1803 + t * 65, none⟩), .int .u8 241] h K := by
  have q : ∀ i, (A i : Int) < W := fun i => hA i ▸ (argM_W M i).2
  have F := M.f
  have h7 := M.t7
  refine CallX.of_xf T_ok Hval.func252 rfl (by kernel_rfl) (Nat.le_of_ble_eq_true rfl) ?_; conv => whnf
  repeat (first | (refine CondX.tt ?_; conv => whnf) | (refine CondX.ff ?_; conv => whnf))
  refine arg_okM (i := 1) M he (by decide) ?_
  rw [hA]; conv => whnf
  refine access_okM M he (q 1) ?_; conv => whnf
  refine arg_okM (i := 2) M he (by decide) ?_
  rw [hA]; conv => whnf
  have hacc := accA_bd2 w (addrI (A 1))
  refine BoxX.ext fun n1 hn1 en1 => ?_; conv => whnf
  refine Ob.mk ⟨rfl, rfl⟩ ?_; conv => whnf
  refine StoreX.whole (c := (75, y75).snd.zero) (t := 75) (hput_same ..) rfl ?_
  rw [hput_hput]; conv => whnf
  have en1' : Ext h (hput h n1 ((wc (A 2)).toArray.toList, 75)) := Ext.new hn1.at
  have c1 : hput h n1 ((wc (A 2)).toArray.toList, 75) n1 = some (wc (A 2), 75) := hput_same ..
  generalize hput h n1 ((wc (A 2)).toArray.toList, 75) = H1 at *
  have he1 := he.trans en1'
  have hb := M.blk he1
  refine LoadX.all c1 rfl ?_; conv => whnf
  refine eIsZero' (by omega) (q 2) ?_; conv => whnf
  by_cases hz : A 2 = 0
  · rw [decide_eq_true (show (A 2 : Int) = 0 by omega)]
    repeat (first | (refine CondX.tt ?_; conv => whnf) | (refine CondX.ff ?_; conv => whnf))
    rw [if_neg (fun hc => hc hz), Int.add_zero] at hk
    exact RetX.drop en1' hk
  · rw [decide_eq_false (show ¬ (A 2 : Int) = 0 by omega)]
    repeat (first | (refine CondX.tt ?_; conv => whnf) | (refine CondX.ff ?_; conv => whnf))
    rw [if_pos hz] at hk
    rw [show IntKind.u64.wrap (accA w (addrI (A 1)) + 9000) = accA w (addrI (A 1)) + 9000 by rw [wrap_u64']; omega]
    refine DrawX.go T_ok hM Hval.func252 (tb := dr252) rfl (by kernel_rfl) ?_; conv => whnf
    repeat (first | (refine CondX.tt ?_; conv => whnf) | (refine CondX.ff ?_; conv => whnf))
    refine LoadX.fn hb 0 rfl (by omega) ?_
    rw [mR_S]; conv => whnf
    repeat (first | (refine CondX.tt ?_; conv => whnf) | (refine CondX.ff ?_; conv => whnf))
    refine arg_okM (i := 1) M he1 (by decide) ?_
    rw [hA]; conv => whnf
    repeat (refine Ob.mk (by first | exact ldV_fn hb 0 rfl (by omega)) ?_; conv => whnf)
    repeat (first | (refine CondX.tt ?_; conv => whnf) | (refine CondX.ff ?_; conv => whnf))
    refine addrOf_okM (q 1) ?_; conv => whnf
    repeat (refine Ob.mk (by first | exact ldV_fn hb 0 rfl (by omega)) ?_; conv => whnf)
    repeat (first | (refine CondX.tt ?_; conv => whnf) | (refine CondX.ff ?_; conv => whnf))
    refine isEmpty_ok (addrI_length _) (isB_addrI _) M.A he1 ?_; conv => whnf
    repeat (refine Ob.mk (by first | exact ldV_fn hb 0 rfl (by omega)) ?_; conv => whnf)
    cases hem : emptyAA (w.acct (addrI (A 1))) with
    | true =>
      repeat (first | (refine CondX.tt ?_; conv => whnf) | (refine CondX.ff ?_; conv => whnf))
      rw [hem, if_pos rfl] at hk
      rw [show IntKind.u64.wrap (accA w (addrI (A 1)) + 9000 + 25000) = accA w (addrI (A 1)) + (9000 + 25000) by rw [wrap_u64']; omega]
      exact RetX.drop en1' hk
    | false =>
      repeat (first | (refine CondX.tt ?_; conv => whnf) | (refine CondX.ff ?_; conv => whnf))
      rw [hem, if_neg (show ¬ (false = true) by decide), show accA w (addrI (A 1)) + (9000 + 0) = accA w (addrI (A 1)) + 9000 by omega] at hk
      exact RetX.drop en1' hk
set_option maxRecDepth 100000 in
set_option maxHeartbeats 4000000 in
theorem dyn_242 (M : MA hi hm eb m t w sn v) (he : Ext (join hi hm) h) (hA : ∀ i, argM m t i = A i) (hk : K (.int .u64 (accA w (addrI (A 1)) + (if A 2 ≠ 0 then 9000 + (0) else 0))) h) : CallX Hval.prog 252 [.pointer (some ⟨eb, 0, none⟩), .pointer (some ⟨eb, 1803 + t * 65, none⟩), .int .u8 242] h K := by
  have q : ∀ i, (A i : Int) < W := fun i => hA i ▸ (argM_W M i).2
  have F := M.f
  have h7 := M.t7
  refine CallX.of_xf T_ok Hval.func252 rfl (by kernel_rfl) (Nat.le_of_ble_eq_true rfl) ?_; conv => whnf
  repeat (first | (refine CondX.tt ?_; conv => whnf) | (refine CondX.ff ?_; conv => whnf))
  refine arg_okM (i := 1) M he (by decide) ?_
  rw [hA]; conv => whnf
  refine access_okM M he (q 1) ?_; conv => whnf
  refine arg_okM (i := 2) M he (by decide) ?_
  rw [hA]; conv => whnf
  have hacc := accA_bd2 w (addrI (A 1))
  refine BoxX.ext fun n1 hn1 en1 => ?_; conv => whnf
  refine Ob.mk ⟨rfl, rfl⟩ ?_; conv => whnf
  refine StoreX.whole (c := (75, y75).snd.zero) (t := 75) (hput_same ..) rfl ?_
  rw [hput_hput]; conv => whnf
  have en1' : Ext h (hput h n1 ((wc (A 2)).toArray.toList, 75)) := Ext.new hn1.at
  have c1 : hput h n1 ((wc (A 2)).toArray.toList, 75) n1 = some (wc (A 2), 75) := hput_same ..
  generalize hput h n1 ((wc (A 2)).toArray.toList, 75) = H1 at *
  have he1 := he.trans en1'
  have hb := M.blk he1
  refine LoadX.all c1 rfl ?_; conv => whnf
  refine eIsZero' (by omega) (q 2) ?_; conv => whnf
  by_cases hz : A 2 = 0
  · rw [decide_eq_true (show (A 2 : Int) = 0 by omega)]
    repeat (first | (refine CondX.tt ?_; conv => whnf) | (refine CondX.ff ?_; conv => whnf))
    rw [if_neg (fun hc => hc hz), Int.add_zero] at hk
    exact RetX.drop en1' hk
  · rw [decide_eq_false (show ¬ (A 2 : Int) = 0 by omega)]
    repeat (first | (refine CondX.tt ?_; conv => whnf) | (refine CondX.ff ?_; conv => whnf))
    rw [if_pos hz] at hk
    rw [show IntKind.u64.wrap (accA w (addrI (A 1)) + 9000) = accA w (addrI (A 1)) + 9000 by rw [wrap_u64']; omega]
    refine DrawX.go T_ok hM Hval.func252 (tb := dr252) rfl (by kernel_rfl) ?_; conv => whnf
    repeat (first | (refine CondX.tt ?_; conv => whnf) | (refine CondX.ff ?_; conv => whnf))
    rw [show accA w (addrI (A 1)) + (9000 + 0) = accA w (addrI (A 1)) + 9000 by omega] at hk
    exact RetX.drop en1' hk
set_option maxRecDepth 100000 in
set_option maxHeartbeats 4000000 in
theorem dyn_no {o : Int} (hno : o ≠ 10 ∧ o ≠ 32 ∧ o ≠ 49 ∧ o ≠ 55 ∧ o ≠ 57 ∧ o ≠ 59 ∧ o ≠ 60 ∧ o ≠ 62 ∧ o ≠ 63 ∧ o ≠ 84 ∧ o ≠ 85 ∧ o ≠ 94 ∧ o ≠ 160 ∧ o ≠ 161 ∧ o ≠ 162 ∧ o ≠ 163 ∧ o ≠ 164 ∧ o ≠ 240 ∧ o ≠ 241 ∧ o ≠ 242 ∧ o ≠ 244 ∧ o ≠ 245 ∧ o ≠ 250 ∧ o ≠ 255) (hk : K (.int .u64 0) h) : CallX Hval.prog 252 [.pointer (some ⟨eb, 0, none⟩), .pointer (some ⟨eb, 1803 + t * 65, none⟩), .int .u8 o] h K := by
  obtain ⟨g10, g32, g49, g55, g57, g59, g60, g62, g63, g84, g85, g94, g160, g161, g162, g163, g164, g240, g241, g242, g244, g245, g250, g255⟩ := hno
  refine CallX.of_xf T_ok Hval.func252 rfl (by kernel_rfl) (Nat.le_of_ble_eq_true rfl) ?_; conv => whnf
  repeat' (first | (refine CondX.eqF (by assumption) ?_; conv => whnf))
  exact RetX.same hk
end
end Go.Proofs.YgvalwGreat.X
