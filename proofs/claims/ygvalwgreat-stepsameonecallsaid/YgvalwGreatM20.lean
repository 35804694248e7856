import Derived.Test.YgvalwGreatM19
set_option linter.unusedVariables false
set_option linter.unusedSimpArgs false
namespace Go.Proofs.YgvalwGreat.X
open Go

section
variable {hi hm h : Hp} {K : Value → Hp → Prop} {v : VS} {eb : Nat} {w : AW} {sn : List AW} {m : MS} {t : Nat} {A : Nat → Nat}
def RcK (o : Int) (A : Nat → Int) (h : Hp) (K : Value → Hp → Prop) : Prop := ∀ (x : Int) (b : Bool), (b = true → reachI o A ≤ 717280 ∧ x = needI o A) → (b = false → 717280 < reachI o A) → K (.tuple #[.int .u64 x, .bool b]) h
theorem rch_ok {a b : Nat} : rchOk a b = true → endI a b ≤ 717280 ∧ rchW a b = (endI a b + 31) / 32 := fun hh => by
  have hh := of_decide_eq_true hh
  unfold endI rchW
  by_cases h0 : b = 0
  · rw [if_pos (by omega), if_pos (by omega)]; omega
  · rw [if_neg (by omega), if_neg (by omega)]; omega
theorem rch_no {a b : Nat} : rchOk a b = false → 717280 < endI a b := fun hh => by
  have hh := of_decide_eq_false hh
  unfold endI
  rw [if_neg (by omega)]; omega
theorem rc1 {o : Int} {a b : Nat} {A : Nat → Int} (he : reachI o A = endI a b) (hk : RcK o A h K) : K (.tuple #[.int .u64 (rchW a b), .bool (rchOk a b)]) h :=
  hk _ _ (fun hb => by unfold needI; rw [he]; exact rch_ok hb) (fun hb => by rw [he]; exact rch_no hb)
theorem rc2 {o : Int} {a b c d : Nat} {A : Nat → Int} (he : reachI o A = max (endI a b) (endI c d)) (hk : RcK o A h K) : K (.tuple #[.int .u64 (max (rchW a b) (rchW c d)), .bool (rchOk a b && rchOk c d)]) h :=
  hk _ _ (fun hb => by
    rw [Bool.and_eq_true] at hb
    have h1 := rch_ok hb.1
    have h2 := rch_ok hb.2
    unfold needI
    rw [he, h1.2, h2.2]
    omega) (fun hb => by
    rw [Bool.and_eq_false_iff] at hb
    rw [he]
    rcases hb with hb | hb
    · have := rch_no hb; omega
    · have := rch_no hb; omega)
set_option maxRecDepth 100000 in
set_option maxHeartbeats 4000000 in
theorem reaches_32 (M : MA hi hm eb m t w sn v) (he : Ext (join hi hm) h) (hA : ∀ i, argM m t i = A i) (hk : RcK 32 (fun i => (A i : Int)) h K) : CallX Hval.prog 251 [.pointer (some ⟨eb, 0, none⟩), .pointer (some ⟨eb, 1803 + t * 65, none⟩), .int .u8 32] h K := by
  have q : ∀ i, (A i : Int) < W := fun i => hA i ▸ (argM_W M i).2
  refine CallX.of_xf T_ok Hval.func251 rfl (by kernel_rfl) (Nat.le_of_ble_eq_true rfl) ?_; conv => whnf
  repeat (first | (refine CondX.tt ?_; conv => whnf) | (refine CondX.ff ?_; conv => whnf))
  refine arg_okM (i := 0) M he (by decide) ?_
  rw [hA]; conv => whnf
  refine arg_okM (i := 1) M he (by decide) ?_
  rw [hA]; conv => whnf
  refine reach_okM (q 0) (q 1) ?_; conv => whnf
  exact RetX.same (rc1 rfl hk)
set_option maxRecDepth 100000 in
set_option maxHeartbeats 4000000 in
theorem reaches_243 (M : MA hi hm eb m t w sn v) (he : Ext (join hi hm) h) (hA : ∀ i, argM m t i = A i) (hk : RcK 243 (fun i => (A i : Int)) h K) : CallX Hval.prog 251 [.pointer (some ⟨eb, 0, none⟩), .pointer (some ⟨eb, 1803 + t * 65, none⟩), .int .u8 243] h K := by
  have q : ∀ i, (A i : Int) < W := fun i => hA i ▸ (argM_W M i).2
  refine CallX.of_xf T_ok Hval.func251 rfl (by kernel_rfl) (Nat.le_of_ble_eq_true rfl) ?_; conv => whnf
  repeat (first | (refine CondX.tt ?_; conv => whnf) | (refine CondX.ff ?_; conv => whnf))
  refine arg_okM (i := 0) M he (by decide) ?_
  rw [hA]; conv => whnf
  refine arg_okM (i := 1) M he (by decide) ?_
  rw [hA]; conv => whnf
  refine reach_okM (q 0) (q 1) ?_; conv => whnf
  exact RetX.same (rc1 rfl hk)
set_option maxRecDepth 100000 in
set_option maxHeartbeats 4000000 in
theorem reaches_253 (M : MA hi hm eb m t w sn v) (he : Ext (join hi hm) h) (hA : ∀ i, argM m t i = A i) (hk : RcK 253 (fun i => (A i : Int)) h K) : CallX Hval.prog 251 [.pointer (some ⟨eb, 0, none⟩), .pointer (some ⟨eb, 1803 + t * 65, none⟩), .int .u8 253] h K := by
  have q : ∀ i, (A i : Int) < W := fun i => hA i ▸ (argM_W M i).2
  refine CallX.of_xf T_ok Hval.func251 rfl (by kernel_rfl) (Nat.le_of_ble_eq_true rfl) ?_; conv => whnf
  repeat (first | (refine CondX.tt ?_; conv => whnf) | (refine CondX.ff ?_; conv => whnf))
  refine arg_okM (i := 0) M he (by decide) ?_
  rw [hA]; conv => whnf
  refine arg_okM (i := 1) M he (by decide) ?_
  rw [hA]; conv => whnf
  refine reach_okM (q 0) (q 1) ?_; conv => whnf
  exact RetX.same (rc1 rfl hk)
set_option maxRecDepth 100000 in
set_option maxHeartbeats 4000000 in
theorem reaches_160 (M : MA hi hm eb m t w sn v) (he : Ext (join hi hm) h) (hA : ∀ i, argM m t i = A i) (hk : RcK 160 (fun i => (A i : Int)) h K) : CallX Hval.prog 251 [.pointer (some ⟨eb, 0, none⟩), .pointer (some ⟨eb, 1803 + t * 65, none⟩), .int .u8 160] h K := by
  have q : ∀ i, (A i : Int) < W := fun i => hA i ▸ (argM_W M i).2
  refine CallX.of_xf T_ok Hval.func251 rfl (by kernel_rfl) (Nat.le_of_ble_eq_true rfl) ?_; conv => whnf
  repeat (first | (refine CondX.tt ?_; conv => whnf) | (refine CondX.ff ?_; conv => whnf))
  refine arg_okM (i := 0) M he (by decide) ?_
  rw [hA]; conv => whnf
  refine arg_okM (i := 1) M he (by decide) ?_
  rw [hA]; conv => whnf
  refine reach_okM (q 0) (q 1) ?_; conv => whnf
  exact RetX.same (rc1 rfl hk)
set_option maxRecDepth 100000 in
set_option maxHeartbeats 4000000 in
theorem reaches_161 (M : MA hi hm eb m t w sn v) (he : Ext (join hi hm) h) (hA : ∀ i, argM m t i = A i) (hk : RcK 161 (fun i => (A i : Int)) h K) : CallX Hval.prog 251 [.pointer (some ⟨eb, 0, none⟩), .pointer (some ⟨eb, 1803 + t * 65, none⟩), .int .u8 161] h K := by
  have q : ∀ i, (A i : Int) < W := fun i => hA i ▸ (argM_W M i).2
  refine CallX.of_xf T_ok Hval.func251 rfl (by kernel_rfl) (Nat.le_of_ble_eq_true rfl) ?_; conv => whnf
  repeat (first | (refine CondX.tt ?_; conv => whnf) | (refine CondX.ff ?_; conv => whnf))
  refine arg_okM (i := 0) M he (by decide) ?_
  rw [hA]; conv => whnf
  refine arg_okM (i := 1) M he (by decide) ?_
  rw [hA]; conv => whnf
  refine reach_okM (q 0) (q 1) ?_; conv => whnf
  exact RetX.same (rc1 rfl hk)
set_option maxRecDepth 100000 in
set_option maxHeartbeats 4000000 in
theorem reaches_162 (M : MA hi hm eb m t w sn v) (he : Ext (join hi hm) h) (hA : ∀ i, argM m t i = A i) (hk : RcK 162 (fun i => (A i : Int)) h K) : CallX Hval.prog 251 [.pointer (some ⟨eb, 0, none⟩), .pointer (some ⟨eb, 1803 + t * 65, none⟩), .int .u8 162] h K := by
  have q : ∀ i, (A i : Int) < W := fun i => hA i ▸ (argM_W M i).2
  refine CallX.of_xf T_ok Hval.func251 rfl (by kernel_rfl) (Nat.le_of_ble_eq_true rfl) ?_; conv => whnf
  repeat (first | (refine CondX.tt ?_; conv => whnf) | (refine CondX.ff ?_; conv => whnf))
  refine arg_okM (i := 0) M he (by decide) ?_
  rw [hA]; conv => whnf
  refine arg_okM (i := 1) M he (by decide) ?_
  rw [hA]; conv => whnf
  refine reach_okM (q 0) (q 1) ?_; conv => whnf
  exact RetX.same (rc1 rfl hk)
set_option maxRecDepth 100000 in
set_option maxHeartbeats 4000000 in
theorem reaches_163 (M : MA hi hm eb m t w sn v) (he : Ext (join hi hm) h) (hA : ∀ i, argM m t i = A i) (hk : RcK 163 (fun i => (A i : Int)) h K) : CallX Hval.prog 251 [.pointer (some ⟨eb, 0, none⟩), .pointer (some ⟨eb, 1803 + t * 65, none⟩), .int .u8 163] h K := by
  have q : ∀ i, (A i : Int) < W := fun i => hA i ▸ (argM_W M i).2
  refine CallX.of_xf T_ok Hval.func251 rfl (by kernel_rfl) (Nat.le_of_ble_eq_true rfl) ?_; conv => whnf
  repeat (first | (refine CondX.tt ?_; conv => whnf) | (refine CondX.ff ?_; conv => whnf))
  refine arg_okM (i := 0) M he (by decide) ?_
  rw [hA]; conv => whnf
  refine arg_okM (i := 1) M he (by decide) ?_
  rw [hA]; conv => whnf
  refine reach_okM (q 0) (q 1) ?_; conv => whnf
  exact RetX.same (rc1 rfl hk)
set_option maxRecDepth 100000 in
set_option maxHeartbeats 4000000 in
theorem reaches_164 (M : MA hi hm eb m t w sn v) (he : Ext (join hi hm) h) (hA : ∀ i, argM m t i = A i) (hk : RcK 164 (fun i => (A i : Int)) h K) : CallX Hval.prog 251 [.pointer (some ⟨eb, 0, none⟩), .pointer (some ⟨eb, 1803 + t * 65, none⟩), .int .u8 164] h K := by
  have q : ∀ i, (A i : Int) < W := fun i => hA i ▸ (argM_W M i).2
  refine CallX.of_xf T_ok Hval.func251 rfl (by kernel_rfl) (Nat.le_of_ble_eq_true rfl) ?_; conv => whnf
  repeat (first | (refine CondX.tt ?_; conv => whnf) | (refine CondX.ff ?_; conv => whnf))
  refine arg_okM (i := 0) M he (by decide) ?_
  rw [hA]; conv => whnf
  refine arg_okM (i := 1) M he (by decide) ?_
  rw [hA]; conv => whnf
  refine reach_okM (q 0) (q 1) ?_; conv => whnf
  exact RetX.same (rc1 rfl hk)
set_option maxRecDepth 100000 in
set_option maxHeartbeats 4000000 in
theorem reaches_55 (M : MA hi hm eb m t w sn v) (he : Ext (join hi hm) h) (hA : ∀ i, argM m t i = A i) (hk : RcK 55 (fun i => (A i : Int)) h K) : CallX Hval.prog 251 [.pointer (some ⟨eb, 0, none⟩), .pointer (some ⟨eb, 1803 + t * 65, none⟩), .int .u8 55] h K := by
  have q : ∀ i, (A i : Int) < W := fun i => hA i ▸ (argM_W M i).2
  refine CallX.of_xf T_ok Hval.func251 rfl (by kernel_rfl) (Nat.le_of_ble_eq_true rfl) ?_; conv => whnf
  repeat (first | (refine CondX.tt ?_; conv => whnf) | (refine CondX.ff ?_; conv => whnf))
  refine arg_okM (i := 0) M he (by decide) ?_
  rw [hA]; conv => whnf
  refine arg_okM (i := 2) M he (by decide) ?_
  rw [hA]; conv => whnf
  refine reach_okM (q 0) (q 2) ?_; conv => whnf
  exact RetX.same (rc1 rfl hk)
set_option maxRecDepth 100000 in
set_option maxHeartbeats 4000000 in
theorem reaches_57 (M : MA hi hm eb m t w sn v) (he : Ext (join hi hm) h) (hA : ∀ i, argM m t i = A i) (hk : RcK 57 (fun i => (A i : Int)) h K) : CallX Hval.prog 251 [.pointer (some ⟨eb, 0, none⟩), .pointer (some ⟨eb, 1803 + t * 65, none⟩), .int .u8 57] h K := by
  have q : ∀ i, (A i : Int) < W := fun i => hA i ▸ (argM_W M i).2
  refine CallX.of_xf T_ok Hval.func251 rfl (by kernel_rfl) (Nat.le_of_ble_eq_true rfl) ?_; conv => whnf
  repeat (first | (refine CondX.tt ?_; conv => whnf) | (refine CondX.ff ?_; conv => whnf))
  refine arg_okM (i := 0) M he (by decide) ?_
  rw [hA]; conv => whnf
  refine arg_okM (i := 2) M he (by decide) ?_
  rw [hA]; conv => whnf
  refine reach_okM (q 0) (q 2) ?_; conv => whnf
  exact RetX.same (rc1 rfl hk)
set_option maxRecDepth 100000 in
set_option maxHeartbeats 4000000 in
theorem reaches_62 (M : MA hi hm eb m t w sn v) (he : Ext (join hi hm) h) (hA : ∀ i, argM m t i = A i) (hk : RcK 62 (fun i => (A i : Int)) h K) : CallX Hval.prog 251 [.pointer (some ⟨eb, 0, none⟩), .pointer (some ⟨eb, 1803 + t * 65, none⟩), .int .u8 62] h K := by
  have q : ∀ i, (A i : Int) < W := fun i => hA i ▸ (argM_W M i).2
  refine CallX.of_xf T_ok Hval.func251 rfl (by kernel_rfl) (Nat.le_of_ble_eq_true rfl) ?_; conv => whnf
  repeat (first | (refine CondX.tt ?_; conv => whnf) | (refine CondX.ff ?_; conv => whnf))
  refine arg_okM (i := 0) M he (by decide) ?_
  rw [hA]; conv => whnf
  refine arg_okM (i := 2) M he (by decide) ?_
  rw [hA]; conv => whnf
  refine reach_okM (q 0) (q 2) ?_; conv => whnf
  exact RetX.same (rc1 rfl hk)
set_option maxRecDepth 100000 in
set_option maxHeartbeats 4000000 in
theorem reaches_60 (M : MA hi hm eb m t w sn v) (he : Ext (join hi hm) h) (hA : ∀ i, argM m t i = A i) (hk : RcK 60 (fun i => (A i : Int)) h K) : CallX Hval.prog 251 [.pointer (some ⟨eb, 0, none⟩), .pointer (some ⟨eb, 1803 + t * 65, none⟩), .int .u8 60] h K := by
  have q : ∀ i, (A i : Int) < W := fun i => hA i ▸ (argM_W M i).2
  refine CallX.of_xf T_ok Hval.func251 rfl (by kernel_rfl) (Nat.le_of_ble_eq_true rfl) ?_; conv => whnf
  repeat (first | (refine CondX.tt ?_; conv => whnf) | (refine CondX.ff ?_; conv => whnf))
  refine arg_okM (i := 1) M he (by decide) ?_
  rw [hA]; conv => whnf
  refine arg_okM (i := 3) M he (by decide) ?_
  rw [hA]; conv => whnf
  refine reach_okM (q 1) (q 3) ?_; conv => whnf
  exact RetX.same (rc1 rfl hk)
set_option maxRecDepth 100000 in
set_option maxHeartbeats 4000000 in
theorem reaches_240 (M : MA hi hm eb m t w sn v) (he : Ext (join hi hm) h) (hA : ∀ i, argM m t i = A i) (hk : RcK 240 (fun i => (A i : Int)) h K) : CallX Hval.prog 251 [.pointer (some ⟨eb, 0, none⟩), .pointer (some ⟨eb, 1803 + t * 65, none⟩), .int .u8 240] h K := by
  have q : ∀ i, (A i : Int) < W := fun i => hA i ▸ (argM_W M i).2
  refine CallX.of_xf T_ok Hval.func251 rfl (by kernel_rfl) (Nat.le_of_ble_eq_true rfl) ?_; conv => whnf
  repeat (first | (refine CondX.tt ?_; conv => whnf) | (refine CondX.ff ?_; conv => whnf))
  refine arg_okM (i := 1) M he (by decide) ?_
  rw [hA]; conv => whnf
  refine arg_okM (i := 2) M he (by decide) ?_
  rw [hA]; conv => whnf
  refine reach_okM (q 1) (q 2) ?_; conv => whnf
  exact RetX.same (rc1 rfl hk)
set_option maxRecDepth 100000 in
set_option maxHeartbeats 4000000 in
theorem reaches_245 (M : MA hi hm eb m t w sn v) (he : Ext (join hi hm) h) (hA : ∀ i, argM m t i = A i) (hk : RcK 245 (fun i => (A i : Int)) h K) : CallX Hval.prog 251 [.pointer (some ⟨eb, 0, none⟩), .pointer (some ⟨eb, 1803 + t * 65, none⟩), .int .u8 245] h K := by
  have q : ∀ i, (A i : Int) < W := fun i => hA i ▸ (argM_W M i).2
  refine CallX.of_xf T_ok Hval.func251 rfl (by kernel_rfl) (Nat.le_of_ble_eq_true rfl) ?_; conv => whnf
  repeat (first | (refine CondX.tt ?_; conv => whnf) | (refine CondX.ff ?_; conv => whnf))
  refine arg_okM (i := 1) M he (by decide) ?_
  rw [hA]; conv => whnf
  refine arg_okM (i := 2) M he (by decide) ?_
  rw [hA]; conv => whnf
  refine reach_okM (q 1) (q 2) ?_; conv => whnf
  exact RetX.same (rc1 rfl hk)
set_option maxRecDepth 100000 in
set_option maxHeartbeats 4000000 in
theorem reaches_81 (M : MA hi hm eb m t w sn v) (he : Ext (join hi hm) h) (hA : ∀ i, argM m t i = A i) (hk : RcK 81 (fun i => (A i : Int)) h K) : CallX Hval.prog 251 [.pointer (some ⟨eb, 0, none⟩), .pointer (some ⟨eb, 1803 + t * 65, none⟩), .int .u8 81] h K := by
  have q : ∀ i, (A i : Int) < W := fun i => hA i ▸ (argM_W M i).2
  refine CallX.of_xf T_ok Hval.func251 rfl (by kernel_rfl) (Nat.le_of_ble_eq_true rfl) ?_; conv => whnf
  repeat (first | (refine CondX.tt ?_; conv => whnf) | (refine CondX.ff ?_; conv => whnf))
  refine arg_okM (i := 0) M he (by decide) ?_
  rw [hA]; conv => whnf
  refine reach_okM (b := 32) (q 0) (by rw [W_val]; decide) ?_; conv => whnf
  exact RetX.same (rc1 (b := 32) rfl hk)
set_option maxRecDepth 100000 in
set_option maxHeartbeats 4000000 in
theorem reaches_82 (M : MA hi hm eb m t w sn v) (he : Ext (join hi hm) h) (hA : ∀ i, argM m t i = A i) (hk : RcK 82 (fun i => (A i : Int)) h K) : CallX Hval.prog 251 [.pointer (some ⟨eb, 0, none⟩), .pointer (some ⟨eb, 1803 + t * 65, none⟩), .int .u8 82] h K := by
  have q : ∀ i, (A i : Int) < W := fun i => hA i ▸ (argM_W M i).2
  refine CallX.of_xf T_ok Hval.func251 rfl (by kernel_rfl) (Nat.le_of_ble_eq_true rfl) ?_; conv => whnf
  repeat (first | (refine CondX.tt ?_; conv => whnf) | (refine CondX.ff ?_; conv => whnf))
  refine arg_okM (i := 0) M he (by decide) ?_
  rw [hA]; conv => whnf
  refine reach_okM (b := 32) (q 0) (by rw [W_val]; decide) ?_; conv => whnf
  exact RetX.same (rc1 (b := 32) rfl hk)
set_option maxRecDepth 100000 in
set_option maxHeartbeats 4000000 in
theorem reaches_83 (M : MA hi hm eb m t w sn v) (he : Ext (join hi hm) h) (hA : ∀ i, argM m t i = A i) (hk : RcK 83 (fun i => (A i : Int)) h K) : CallX Hval.prog 251 [.pointer (some ⟨eb, 0, none⟩), .pointer (some ⟨eb, 1803 + t * 65, none⟩), .int .u8 83] h K := by
  have q : ∀ i, (A i : Int) < W := fun i => hA i ▸ (argM_W M i).2
  refine CallX.of_xf T_ok Hval.func251 rfl (by kernel_rfl) (Nat.le_of_ble_eq_true rfl) ?_; conv => whnf
  repeat (first | (refine CondX.tt ?_; conv => whnf) | (refine CondX.ff ?_; conv => whnf))
  refine arg_okM (i := 0) M he (by decide) ?_
  rw [hA]; conv => whnf
  refine reach_okM (b := 1) (q 0) (by rw [W_val]; decide) ?_; conv => whnf
  exact RetX.same (rc1 (b := 1) rfl hk)
set_option maxRecDepth 100000 in
set_option maxHeartbeats 4000000 in
theorem reaches_94 (M : MA hi hm eb m t w sn v) (he : Ext (join hi hm) h) (hA : ∀ i, argM m t i = A i) (hk : RcK 94 (fun i => (A i : Int)) h K) : CallX Hval.prog 251 [.pointer (some ⟨eb, 0, none⟩), .pointer (some ⟨eb, 1803 + t * 65, none⟩), .int .u8 94] h K := by
  have q : ∀ i, (A i : Int) < W := fun i => hA i ▸ (argM_W M i).2
  refine CallX.of_xf T_ok Hval.func251 rfl (by kernel_rfl) (Nat.le_of_ble_eq_true rfl) ?_; conv => whnf
  repeat (first | (refine CondX.tt ?_; conv => whnf) | (refine CondX.ff ?_; conv => whnf))
  refine arg_okM (i := 0) M he (by decide) ?_
  rw [hA]; conv => whnf
  refine arg_okM (i := 2) M he (by decide) ?_
  rw [hA]; conv => whnf
  refine arg_okM (i := 1) M he (by decide) ?_
  rw [hA]; conv => whnf
  refine arg_okM (i := 2) M he (by decide) ?_
  rw [hA]; conv => whnf
  refine reach2_ok (q 0) (q 2) (q 1) (q 2) ?_; conv => whnf
  exact RetX.same (rc2 rfl hk)
set_option maxRecDepth 100000 in
set_option maxHeartbeats 4000000 in
theorem reaches_241 (M : MA hi hm eb m t w sn v) (he : Ext (join hi hm) h) (hA : ∀ i, argM m t i = A i) (hk : RcK 241 (fun i => (A i : Int)) h K) : CallX Hval.prog 251 [.pointer (some ⟨eb, 0, none⟩), .pointer (some ⟨eb, 1803 + t * 65, none⟩), .int .u8 241] h K := by
  have q : ∀ i, (A i : Int) < W := fun i => hA i ▸ (argM_W M i).2
  refine CallX.of_xf T_ok Hval.func251 rfl (by kernel_rfl) (Nat.le_of_ble_eq_true rfl) ?_; conv => whnf
  repeat (first | (refine CondX.tt ?_; conv => whnf) | (refine CondX.ff ?_; conv => whnf))
  refine arg_okM (i := 3) M he (by decide) ?_
  rw [hA]; conv => whnf
  refine arg_okM (i := 4) M he (by decide) ?_
  rw [hA]; conv => whnf
  refine arg_okM (i := 5) M he (by decide) ?_
  rw [hA]; conv => whnf
  refine arg_okM (i := 6) M he (by decide) ?_
  rw [hA]; conv => whnf
  refine reach2_ok (q 3) (q 4) (q 5) (q 6) ?_; conv => whnf
  exact RetX.same (rc2 rfl hk)
set_option maxRecDepth 100000 in
set_option maxHeartbeats 4000000 in
theorem reaches_242 (M : MA hi hm eb m t w sn v) (he : Ext (join hi hm) h) (hA : ∀ i, argM m t i = A i) (hk : RcK 242 (fun i => (A i : Int)) h K) : CallX Hval.prog 251 [.pointer (some ⟨eb, 0, none⟩), .pointer (some ⟨eb, 1803 + t * 65, none⟩), .int .u8 242] h K := by
  have q : ∀ i, (A i : Int) < W := fun i => hA i ▸ (argM_W M i).2
  refine CallX.of_xf T_ok Hval.func251 rfl (by kernel_rfl) (Nat.le_of_ble_eq_true rfl) ?_; conv => whnf
  repeat (first | (refine CondX.tt ?_; conv => whnf) | (refine CondX.ff ?_; conv => whnf))
  refine arg_okM (i := 3) M he (by decide) ?_
  rw [hA]; conv => whnf
  refine arg_okM (i := 4) M he (by decide) ?_
  rw [hA]; conv => whnf
  refine arg_okM (i := 5) M he (by decide) ?_
  rw [hA]; conv => whnf
  refine arg_okM (i := 6) M he (by decide) ?_
  rw [hA]; conv => whnf
  refine reach2_ok (q 3) (q 4) (q 5) (q 6) ?_; conv => whnf
  exact RetX.same (rc2 rfl hk)
set_option maxRecDepth 100000 in
set_option maxHeartbeats 4000000 in
theorem reaches_244 (M : MA hi hm eb m t w sn v) (he : Ext (join hi hm) h) (hA : ∀ i, argM m t i = A i) (hk : RcK 244 (fun i => (A i : Int)) h K) : CallX Hval.prog 251 [.pointer (some ⟨eb, 0, none⟩), .pointer (some ⟨eb, 1803 + t * 65, none⟩), .int .u8 244] h K := by
  have q : ∀ i, (A i : Int) < W := fun i => hA i ▸ (argM_W M i).2
  refine CallX.of_xf T_ok Hval.func251 rfl (by kernel_rfl) (Nat.le_of_ble_eq_true rfl) ?_; conv => whnf
  repeat (first | (refine CondX.tt ?_; conv => whnf) | (refine CondX.ff ?_; conv => whnf))
  refine arg_okM (i := 2) M he (by decide) ?_
  rw [hA]; conv => whnf
  refine arg_okM (i := 3) M he (by decide) ?_
  rw [hA]; conv => whnf
  refine arg_okM (i := 4) M he (by decide) ?_
  rw [hA]; conv => whnf
  refine arg_okM (i := 5) M he (by decide) ?_
  rw [hA]; conv => whnf
  refine reach2_ok (q 2) (q 3) (q 4) (q 5) ?_; conv => whnf
  exact RetX.same (rc2 rfl hk)
set_option maxRecDepth 100000 in
set_option maxHeartbeats 4000000 in
theorem reaches_250 (M : MA hi hm eb m t w sn v) (he : Ext (join hi hm) h) (hA : ∀ i, argM m t i = A i) (hk : RcK 250 (fun i => (A i : Int)) h K) : CallX Hval.prog 251 [.pointer (some ⟨eb, 0, none⟩), .pointer (some ⟨eb, 1803 + t * 65, none⟩), .int .u8 250] h K := by
  have q : ∀ i, (A i : Int) < W := fun i => hA i ▸ (argM_W M i).2
  refine CallX.of_xf T_ok Hval.func251 rfl (by kernel_rfl) (Nat.le_of_ble_eq_true rfl) ?_; conv => whnf
  repeat (first | (refine CondX.tt ?_; conv => whnf) | (refine CondX.ff ?_; conv => whnf))
  refine arg_okM (i := 2) M he (by decide) ?_
  rw [hA]; conv => whnf
  refine arg_okM (i := 3) M he (by decide) ?_
  rw [hA]; conv => whnf
  refine arg_okM (i := 4) M he (by decide) ?_
  rw [hA]; conv => whnf
  refine arg_okM (i := 5) M he (by decide) ?_
  rw [hA]; conv => whnf
  refine reach2_ok (q 2) (q 3) (q 4) (q 5) ?_; conv => whnf
  exact RetX.same (rc2 rfl hk)
set_option maxRecDepth 100000 in
set_option maxHeartbeats 4000000 in
theorem reaches_no {o : Int} (M : MA hi hm eb m t w sn v) (he : Ext (join hi hm) h) (hno : o ≠ 32 ∧ o ≠ 55 ∧ o ≠ 57 ∧ o ≠ 60 ∧ o ≠ 62 ∧ o ≠ 81 ∧ o ≠ 82 ∧ o ≠ 83 ∧ o ≠ 94 ∧ o ≠ 160 ∧ o ≠ 161 ∧ o ≠ 162 ∧ o ≠ 163 ∧ o ≠ 164 ∧ o ≠ 240 ∧ o ≠ 241 ∧ o ≠ 242 ∧ o ≠ 243 ∧ o ≠ 244 ∧ o ≠ 245 ∧ o ≠ 250 ∧ o ≠ 253) (hk : RcK o (fun i => (A i : Int)) h K) : CallX Hval.prog 251 [.pointer (some ⟨eb, 0, none⟩), .pointer (some ⟨eb, 1803 + t * 65, none⟩), .int .u8 o] h K := by
  obtain ⟨g32, g55, g57, g60, g62, g81, g82, g83, g94, g160, g161, g162, g163, g164, g240, g241, g242, g243, g244, g245, g250, g253⟩ := hno
  have hr : reachI o (fun i => (A i : Int)) = 0 := by unfold reachI; simp [*]; omega
  refine CallX.of_xf T_ok Hval.func251 rfl (by kernel_rfl) (Nat.le_of_ble_eq_true rfl) ?_; conv => whnf
  repeat' (first | (refine CondX.eqF (by assumption) ?_; conv => whnf))
  exact RetX.same (hk 0 true (fun _ => by unfold needI; rw [hr]; decide) (fun hc => by cases hc))
theorem reaches_ok {o : Int} (M : MA hi hm eb m t w sn v) (he : Ext (join hi hm) h) (hA : ∀ i, argM m t i = A i) (hk : RcK o (fun i => (A i : Int)) h K) : CallX Hval.prog 251 [.pointer (some ⟨eb, 0, none⟩), .pointer (some ⟨eb, 1803 + t * 65, none⟩), .int .u8 o] h K := by
  by_cases g32 : o = 32
  · subst g32; exact reaches_32 M he hA hk
  by_cases g55 : o = 55
  · subst g55; exact reaches_55 M he hA hk
  by_cases g57 : o = 57
  · subst g57; exact reaches_57 M he hA hk
  by_cases g60 : o = 60
  · subst g60; exact reaches_60 M he hA hk
  by_cases g62 : o = 62
  · subst g62; exact reaches_62 M he hA hk
  by_cases g81 : o = 81
  · subst g81; exact reaches_81 M he hA hk
  by_cases g82 : o = 82
  · subst g82; exact reaches_82 M he hA hk
  by_cases g83 : o = 83
  · subst g83; exact reaches_83 M he hA hk
  by_cases g94 : o = 94
  · subst g94; exact reaches_94 M he hA hk
  by_cases g160 : o = 160
  · subst g160; exact reaches_160 M he hA hk
  by_cases g161 : o = 161
  · subst g161; exact reaches_161 M he hA hk
  by_cases g162 : o = 162
  · subst g162; exact reaches_162 M he hA hk
  by_cases g163 : o = 163
  · subst g163; exact reaches_163 M he hA hk
  by_cases g164 : o = 164
  · subst g164; exact reaches_164 M he hA hk
  by_cases g240 : o = 240
  · subst g240; exact reaches_240 M he hA hk
  by_cases g241 : o = 241
  · subst g241; exact reaches_241 M he hA hk
  by_cases g242 : o = 242
  · subst g242; exact reaches_242 M he hA hk
  by_cases g243 : o = 243
  · subst g243; exact reaches_243 M he hA hk
  by_cases g244 : o = 244
  · subst g244; exact reaches_244 M he hA hk
  by_cases g245 : o = 245
  · subst g245; exact reaches_245 M he hA hk
  by_cases g250 : o = 250
  · subst g250; exact reaches_250 M he hA hk
  by_cases g253 : o = 253
  · subst g253; exact reaches_253 M he hA hk
  exact reaches_no M he ⟨g32, g55, g57, g60, g62, g81, g82, g83, g94, g160, g161, g162, g163, g164, g240, g241, g242, g243, g244, g245, g250, g253⟩ hk
end
end Go.Proofs.YgvalwGreat.X
