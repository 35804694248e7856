import Derived.Test.YgvalwGreatK3
set_option linter.unusedVariables false
set_option linter.unusedSimpArgs false
namespace Go.Proofs.YgvalwGreat.X
open Go

theorem rotl_0 {x : Nat} (h : x < 2 ^ 64) : rotl x 0 = x := by
  unfold rotl
  rw [Nat.shiftLeft_zero, show x >>> (64 - 0) = 0 by rw [Nat.shiftRight_eq_div_pow]; exact Nat.div_eq_of_lt h, Nat.or_zero, Nat.mod_eq_of_lt h]
section
variable {h : Hp} {K : Value → Hp → Prop}
def rcL : List Nat := [1, 32898, 9223372036854808714, 9223372039002292224, 32907, 2147483649, 9223372039002292353, 9223372036854808585, 138, 136, 2147516425, 2147483658, 2147516555, 9223372036854775947, 9223372036854808713, 9223372036854808579, 9223372036854808578, 9223372036854775936, 32778, 9223372039002259466, 9223372039002292353, 9223372036854808704, 2147483649, 9223372039002292232]
theorem rcL_ok : ∀ i : Fin 24, rcL[i.val]? = some (constN i.val) := by decide +kernel
set_option maxRecDepth 100000 in
set_option maxHeartbeats 4000000 in
theorem rc_ok {i : Nat} (hi : i < 24) (hk : K (.int .u64 (constN i)) h) : CallX Hval.prog 367 [.int .u8 i] h K := by
  refine CallX.of_xf T_ok Hval.func367 rfl (by kernel_rfl) (Nat.le_of_ble_eq_true rfl) ?_; conv => whnf
  refine CondX.dF (by omega) ?_; conv => whnf
  refine Ob.mk ⟨by omega, by omega, rfl, rfl⟩ ?_
  intro v hv
  have h1 : (rcL.map fun n : Nat => Value.int .u64 (n : Int))[i]? = some (Value.int .u64 v) := hv
  rw [List.getElem?_map, rcL_ok ⟨i, hi⟩] at h1
  injection h1 with h1
  injection h1 with _ h1
  dsimp only at h1
  rw [← h1]
  conv => whnf
  exact RetX.same hk
theorem notx64 {a : Nat} (ha : a < 2 ^ 64) : IntKind.u64.wrap ((BitVec.ofInt IntKind.u64.bits (if IntKind.u64.signed = true then -1 else IntKind.u64.max) ^^^ BitVec.ofInt IntKind.u64.bits (a : Int)).toNat : Int) = ((ntL a : Nat) : Int) := by
  rw [show (if IntKind.u64.signed = true then (-1 : Int) else IntKind.u64.max) = ((2 ^ 64 - 1 : Nat) : Int) from rfl, xor64 (by decide) ha, Nat.xor_comm]; rfl
set_option maxRecDepth 100000 in
set_option maxHeartbeats 4000000 in
theorem kround_ok {m : Nat} {L : Nat → Nat} {t : TypeId} (hb : h m = some (fnv 25 fun i => .int .u64 (L i), t)) (hL : Ln L) (hk : K (.tuple #[]) (hput h m (fnv 25 fun i => .int .u64 (chL (piL (rhL (thL L))) i), t))) : CallX Hval.prog 366 [.pointer (some ⟨m, 0, none⟩)] h K := by
  refine CallX.of_xf T_ok Hval.func366 rfl (by kernel_rfl) (Nat.le_of_ble_eq_true rfl) ?_; conv => whnf
  refine DrawX.go T_ok hM Hval.func366 (tb := dr366) rfl (by kernel_rfl) ?_; conv => whnf
  repeat (refine Ob.mk (by first | decide | omega) ?_; conv => whnf)
  refine LoadX.fn hb 0 rfl (by decide) ?_; conv => whnf
  repeat (refine Ob.mk (by first | decide | omega) ?_; conv => whnf)
  refine LoadX.fn hb 5 rfl (by decide) ?_; conv => whnf
  repeat (refine Ob.mk (by first | decide | omega) ?_; conv => whnf)
  refine LoadX.fn hb 10 rfl (by decide) ?_; conv => whnf
  repeat (refine Ob.mk (by first | decide | omega) ?_; conv => whnf)
  refine LoadX.fn hb 15 rfl (by decide) ?_; conv => whnf
  repeat (refine Ob.mk (by first | decide | omega) ?_; conv => whnf)
  refine LoadX.fn hb 20 rfl (by decide) ?_; conv => whnf
  rw [xor64 (hL 0 (by decide)) (hL 5 (by decide)), xor64 (xorlt (hL 0 (by decide)) (hL 5 (by decide))) (hL 10 (by decide)), xor64 (xorlt (xorlt (hL 0 (by decide)) (hL 5 (by decide))) (hL 10 (by decide))) (hL 15 (by decide)), xor64 (xorlt (xorlt (xorlt (hL 0 (by decide)) (hL 5 (by decide))) (hL 10 (by decide))) (hL 15 (by decide))) (hL 20 (by decide))]
  have lc0 : L 0 ^^^ L 5 ^^^ L 10 ^^^ L 15 ^^^ L 20 < 2 ^ 64 := cL_lt hL (x := 0) (by decide)
  have ec0 : L 0 ^^^ L 5 ^^^ L 10 ^^^ L 15 ^^^ L 20 = cL L 0 := rfl
  generalize L 0 ^^^ L 5 ^^^ L 10 ^^^ L 15 ^^^ L 20 = c0 at lc0 ec0 ⊢
  refine DrawX.go T_ok hM Hval.func366 (tb := dr366) rfl (by kernel_rfl) ?_; conv => whnf
  repeat (refine Ob.mk (by first | decide | omega) ?_; conv => whnf)
  refine LoadX.fn hb 1 rfl (by decide) ?_; conv => whnf
  repeat (refine Ob.mk (by first | decide | omega) ?_; conv => whnf)
  refine LoadX.fn hb 6 rfl (by decide) ?_; conv => whnf
  repeat (refine Ob.mk (by first | decide | omega) ?_; conv => whnf)
  refine LoadX.fn hb 11 rfl (by decide) ?_; conv => whnf
  repeat (refine Ob.mk (by first | decide | omega) ?_; conv => whnf)
  refine LoadX.fn hb 16 rfl (by decide) ?_; conv => whnf
  repeat (refine Ob.mk (by first | decide | omega) ?_; conv => whnf)
  refine LoadX.fn hb 21 rfl (by decide) ?_; conv => whnf
  rw [xor64 (hL 1 (by decide)) (hL 6 (by decide)), xor64 (xorlt (hL 1 (by decide)) (hL 6 (by decide))) (hL 11 (by decide)), xor64 (xorlt (xorlt (hL 1 (by decide)) (hL 6 (by decide))) (hL 11 (by decide))) (hL 16 (by decide)), xor64 (xorlt (xorlt (xorlt (hL 1 (by decide)) (hL 6 (by decide))) (hL 11 (by decide))) (hL 16 (by decide))) (hL 21 (by decide))]
  have lc1 : L 1 ^^^ L 6 ^^^ L 11 ^^^ L 16 ^^^ L 21 < 2 ^ 64 := cL_lt hL (x := 1) (by decide)
  have ec1 : L 1 ^^^ L 6 ^^^ L 11 ^^^ L 16 ^^^ L 21 = cL L 1 := rfl
  generalize L 1 ^^^ L 6 ^^^ L 11 ^^^ L 16 ^^^ L 21 = c1 at lc1 ec1 ⊢
  refine DrawX.go T_ok hM Hval.func366 (tb := dr366) rfl (by kernel_rfl) ?_; conv => whnf
  repeat (refine Ob.mk (by first | decide | omega) ?_; conv => whnf)
  refine LoadX.fn hb 2 rfl (by decide) ?_; conv => whnf
  repeat (refine Ob.mk (by first | decide | omega) ?_; conv => whnf)
  refine LoadX.fn hb 7 rfl (by decide) ?_; conv => whnf
  repeat (refine Ob.mk (by first | decide | omega) ?_; conv => whnf)
  refine LoadX.fn hb 12 rfl (by decide) ?_; conv => whnf
  repeat (refine Ob.mk (by first | decide | omega) ?_; conv => whnf)
  refine LoadX.fn hb 17 rfl (by decide) ?_; conv => whnf
  repeat (refine Ob.mk (by first | decide | omega) ?_; conv => whnf)
  refine LoadX.fn hb 22 rfl (by decide) ?_; conv => whnf
  rw [xor64 (hL 2 (by decide)) (hL 7 (by decide)), xor64 (xorlt (hL 2 (by decide)) (hL 7 (by decide))) (hL 12 (by decide)), xor64 (xorlt (xorlt (hL 2 (by decide)) (hL 7 (by decide))) (hL 12 (by decide))) (hL 17 (by decide)), xor64 (xorlt (xorlt (xorlt (hL 2 (by decide)) (hL 7 (by decide))) (hL 12 (by decide))) (hL 17 (by decide))) (hL 22 (by decide))]
  have lc2 : L 2 ^^^ L 7 ^^^ L 12 ^^^ L 17 ^^^ L 22 < 2 ^ 64 := cL_lt hL (x := 2) (by decide)
  have ec2 : L 2 ^^^ L 7 ^^^ L 12 ^^^ L 17 ^^^ L 22 = cL L 2 := rfl
  generalize L 2 ^^^ L 7 ^^^ L 12 ^^^ L 17 ^^^ L 22 = c2 at lc2 ec2 ⊢
  refine DrawX.go T_ok hM Hval.func366 (tb := dr366) rfl (by kernel_rfl) ?_; conv => whnf
  repeat (refine Ob.mk (by first | decide | omega) ?_; conv => whnf)
  refine LoadX.fn hb 3 rfl (by decide) ?_; conv => whnf
  repeat (refine Ob.mk (by first | decide | omega) ?_; conv => whnf)
  refine LoadX.fn hb 8 rfl (by decide) ?_; conv => whnf
  repeat (refine Ob.mk (by first | decide | omega) ?_; conv => whnf)
  refine LoadX.fn hb 13 rfl (by decide) ?_; conv => whnf
  repeat (refine Ob.mk (by first | decide | omega) ?_; conv => whnf)
  refine LoadX.fn hb 18 rfl (by decide) ?_; conv => whnf
  repeat (refine Ob.mk (by first | decide | omega) ?_; conv => whnf)
  refine LoadX.fn hb 23 rfl (by decide) ?_; conv => whnf
  rw [xor64 (hL 3 (by decide)) (hL 8 (by decide)), xor64 (xorlt (hL 3 (by decide)) (hL 8 (by decide))) (hL 13 (by decide)), xor64 (xorlt (xorlt (hL 3 (by decide)) (hL 8 (by decide))) (hL 13 (by decide))) (hL 18 (by decide)), xor64 (xorlt (xorlt (xorlt (hL 3 (by decide)) (hL 8 (by decide))) (hL 13 (by decide))) (hL 18 (by decide))) (hL 23 (by decide))]
  have lc3 : L 3 ^^^ L 8 ^^^ L 13 ^^^ L 18 ^^^ L 23 < 2 ^ 64 := cL_lt hL (x := 3) (by decide)
  have ec3 : L 3 ^^^ L 8 ^^^ L 13 ^^^ L 18 ^^^ L 23 = cL L 3 := rfl
  generalize L 3 ^^^ L 8 ^^^ L 13 ^^^ L 18 ^^^ L 23 = c3 at lc3 ec3 ⊢
  refine DrawX.go T_ok hM Hval.func366 (tb := dr366) rfl (by kernel_rfl) ?_; conv => whnf
  repeat (refine Ob.mk (by first | decide | omega) ?_; conv => whnf)
  refine LoadX.fn hb 4 rfl (by decide) ?_; conv => whnf
  repeat (refine Ob.mk (by first | decide | omega) ?_; conv => whnf)
  refine LoadX.fn hb 9 rfl (by decide) ?_; conv => whnf
  repeat (refine Ob.mk (by first | decide | omega) ?_; conv => whnf)
  refine LoadX.fn hb 14 rfl (by decide) ?_; conv => whnf
  repeat (refine Ob.mk (by first | decide | omega) ?_; conv => whnf)
  refine LoadX.fn hb 19 rfl (by decide) ?_; conv => whnf
  repeat (refine Ob.mk (by first | decide | omega) ?_; conv => whnf)
  refine LoadX.fn hb 24 rfl (by decide) ?_; conv => whnf
  rw [xor64 (hL 4 (by decide)) (hL 9 (by decide)), xor64 (xorlt (hL 4 (by decide)) (hL 9 (by decide))) (hL 14 (by decide)), xor64 (xorlt (xorlt (hL 4 (by decide)) (hL 9 (by decide))) (hL 14 (by decide))) (hL 19 (by decide)), xor64 (xorlt (xorlt (xorlt (hL 4 (by decide)) (hL 9 (by decide))) (hL 14 (by decide))) (hL 19 (by decide))) (hL 24 (by decide))]
  have lc4 : L 4 ^^^ L 9 ^^^ L 14 ^^^ L 19 ^^^ L 24 < 2 ^ 64 := cL_lt hL (x := 4) (by decide)
  have ec4 : L 4 ^^^ L 9 ^^^ L 14 ^^^ L 19 ^^^ L 24 = cL L 4 := rfl
  generalize L 4 ^^^ L 9 ^^^ L 14 ^^^ L 19 ^^^ L 24 = c4 at lc4 ec4 ⊢
  refine rotate_ok lc1 (by decide) ?_; conv => whnf
  rw [xor64 lc4 (rotl_lt c1 1)]
  have ld0 : c4 ^^^ rotl c1 1 < 2 ^ 64 := xorlt lc4 (rotl_lt _ _)
  have ed0 : c4 ^^^ rotl c1 1 = dL L 0 := by rw [ec4, ec1]; rfl
  generalize c4 ^^^ rotl c1 1 = d0 at ld0 ed0 ⊢
  refine rotate_ok lc2 (by decide) ?_; conv => whnf
  rw [xor64 lc0 (rotl_lt c2 1)]
  have ld1 : c0 ^^^ rotl c2 1 < 2 ^ 64 := xorlt lc0 (rotl_lt _ _)
  have ed1 : c0 ^^^ rotl c2 1 = dL L 1 := by rw [ec0, ec2]; rfl
  generalize c0 ^^^ rotl c2 1 = d1 at ld1 ed1 ⊢
  refine rotate_ok lc3 (by decide) ?_; conv => whnf
  rw [xor64 lc1 (rotl_lt c3 1)]
  have ld2 : c1 ^^^ rotl c3 1 < 2 ^ 64 := xorlt lc1 (rotl_lt _ _)
  have ed2 : c1 ^^^ rotl c3 1 = dL L 2 := by rw [ec1, ec3]; rfl
  generalize c1 ^^^ rotl c3 1 = d2 at ld2 ed2 ⊢
  refine rotate_ok lc4 (by decide) ?_; conv => whnf
  rw [xor64 lc2 (rotl_lt c4 1)]
  have ld3 : c2 ^^^ rotl c4 1 < 2 ^ 64 := xorlt lc2 (rotl_lt _ _)
  have ed3 : c2 ^^^ rotl c4 1 = dL L 3 := by rw [ec2, ec4]; rfl
  generalize c2 ^^^ rotl c4 1 = d3 at ld3 ed3 ⊢
  refine rotate_ok lc0 (by decide) ?_; conv => whnf
  rw [xor64 lc3 (rotl_lt c0 1)]
  have ld4 : c3 ^^^ rotl c0 1 < 2 ^ 64 := xorlt lc3 (rotl_lt _ _)
  have ed4 : c3 ^^^ rotl c0 1 = dL L 4 := by rw [ec3, ec0]; rfl
  generalize c3 ^^^ rotl c0 1 = d4 at ld4 ed4 ⊢
  repeat (refine Ob.mk (by first | decide | omega) ?_; conv => whnf)
  refine LoadX.fn hb 0 rfl (by decide) ?_; conv => whnf
  rw [xor64 (hL 0 (by decide)) ld0]
  have lb0 : L 0 ^^^ d0 < 2 ^ 64 := xorlt (hL 0 (by decide)) ld0
  have eb0 : L 0 ^^^ d0 = piL (rhL (thL L)) 0 := by rw [ed0]; exact (rotl_0 (xorlt (hL 0 (by decide)) (ed0 ▸ ld0))).symm
  generalize L 0 ^^^ d0 = b0 at lb0 eb0 ⊢
  repeat (refine Ob.mk (by first | decide | omega) ?_; conv => whnf)
  refine LoadX.fn hb 6 rfl (by decide) ?_; conv => whnf
  rw [xor64 (hL 6 (by decide)) ld1]
  refine rotate_ok (xorlt (hL 6 (by decide)) ld1) (by decide) ?_; conv => whnf
  have lb1 : rotl (L 6 ^^^ d1) 44 < 2 ^ 64 := rotl_lt _ _
  have eb1 : rotl (L 6 ^^^ d1) 44 = piL (rhL (thL L)) 1 := by rw [ed1]; rfl
  generalize rotl (L 6 ^^^ d1) 44 = b1 at lb1 eb1 ⊢
  repeat (refine Ob.mk (by first | decide | omega) ?_; conv => whnf)
  refine LoadX.fn hb 12 rfl (by decide) ?_; conv => whnf
  rw [xor64 (hL 12 (by decide)) ld2]
  refine rotate_ok (xorlt (hL 12 (by decide)) ld2) (by decide) ?_; conv => whnf
  have lb2 : rotl (L 12 ^^^ d2) 43 < 2 ^ 64 := rotl_lt _ _
  have eb2 : rotl (L 12 ^^^ d2) 43 = piL (rhL (thL L)) 2 := by rw [ed2]; rfl
  generalize rotl (L 12 ^^^ d2) 43 = b2 at lb2 eb2 ⊢
  repeat (refine Ob.mk (by first | decide | omega) ?_; conv => whnf)
  refine LoadX.fn hb 18 rfl (by decide) ?_; conv => whnf
  rw [xor64 (hL 18 (by decide)) ld3]
  refine rotate_ok (xorlt (hL 18 (by decide)) ld3) (by decide) ?_; conv => whnf
  have lb3 : rotl (L 18 ^^^ d3) 21 < 2 ^ 64 := rotl_lt _ _
  have eb3 : rotl (L 18 ^^^ d3) 21 = piL (rhL (thL L)) 3 := by rw [ed3]; rfl
  generalize rotl (L 18 ^^^ d3) 21 = b3 at lb3 eb3 ⊢
  repeat (refine Ob.mk (by first | decide | omega) ?_; conv => whnf)
  refine LoadX.fn hb 24 rfl (by decide) ?_; conv => whnf
  rw [xor64 (hL 24 (by decide)) ld4]
  refine rotate_ok (xorlt (hL 24 (by decide)) ld4) (by decide) ?_; conv => whnf
  have lb4 : rotl (L 24 ^^^ d4) 14 < 2 ^ 64 := rotl_lt _ _
  have eb4 : rotl (L 24 ^^^ d4) 14 = piL (rhL (thL L)) 4 := by rw [ed4]; rfl
  generalize rotl (L 24 ^^^ d4) 14 = b4 at lb4 eb4 ⊢
  repeat (refine Ob.mk (by first | decide | omega) ?_; conv => whnf)
  refine LoadX.fn hb 3 rfl (by decide) ?_; conv => whnf
  rw [xor64 (hL 3 (by decide)) ld3]
  refine rotate_ok (xorlt (hL 3 (by decide)) ld3) (by decide) ?_; conv => whnf
  have lb5 : rotl (L 3 ^^^ d3) 28 < 2 ^ 64 := rotl_lt _ _
  have eb5 : rotl (L 3 ^^^ d3) 28 = piL (rhL (thL L)) 5 := by rw [ed3]; rfl
  generalize rotl (L 3 ^^^ d3) 28 = b5 at lb5 eb5 ⊢
  repeat (refine Ob.mk (by first | decide | omega) ?_; conv => whnf)
  refine LoadX.fn hb 9 rfl (by decide) ?_; conv => whnf
  rw [xor64 (hL 9 (by decide)) ld4]
  refine rotate_ok (xorlt (hL 9 (by decide)) ld4) (by decide) ?_; conv => whnf
  have lb6 : rotl (L 9 ^^^ d4) 20 < 2 ^ 64 := rotl_lt _ _
  have eb6 : rotl (L 9 ^^^ d4) 20 = piL (rhL (thL L)) 6 := by rw [ed4]; rfl
  generalize rotl (L 9 ^^^ d4) 20 = b6 at lb6 eb6 ⊢
  repeat (refine Ob.mk (by first | decide | omega) ?_; conv => whnf)
  refine LoadX.fn hb 10 rfl (by decide) ?_; conv => whnf
  rw [xor64 (hL 10 (by decide)) ld0]
  refine rotate_ok (xorlt (hL 10 (by decide)) ld0) (by decide) ?_; conv => whnf
  have lb7 : rotl (L 10 ^^^ d0) 3 < 2 ^ 64 := rotl_lt _ _
  have eb7 : rotl (L 10 ^^^ d0) 3 = piL (rhL (thL L)) 7 := by rw [ed0]; rfl
  generalize rotl (L 10 ^^^ d0) 3 = b7 at lb7 eb7 ⊢
  repeat (refine Ob.mk (by first | decide | omega) ?_; conv => whnf)
  refine LoadX.fn hb 16 rfl (by decide) ?_; conv => whnf
  rw [xor64 (hL 16 (by decide)) ld1]
  refine rotate_ok (xorlt (hL 16 (by decide)) ld1) (by decide) ?_; conv => whnf
  have lb8 : rotl (L 16 ^^^ d1) 45 < 2 ^ 64 := rotl_lt _ _
  have eb8 : rotl (L 16 ^^^ d1) 45 = piL (rhL (thL L)) 8 := by rw [ed1]; rfl
  generalize rotl (L 16 ^^^ d1) 45 = b8 at lb8 eb8 ⊢
  repeat (refine Ob.mk (by first | decide | omega) ?_; conv => whnf)
  refine LoadX.fn hb 22 rfl (by decide) ?_; conv => whnf
  rw [xor64 (hL 22 (by decide)) ld2]
  refine rotate_ok (xorlt (hL 22 (by decide)) ld2) (by decide) ?_; conv => whnf
  have lb9 : rotl (L 22 ^^^ d2) 61 < 2 ^ 64 := rotl_lt _ _
  have eb9 : rotl (L 22 ^^^ d2) 61 = piL (rhL (thL L)) 9 := by rw [ed2]; rfl
  generalize rotl (L 22 ^^^ d2) 61 = b9 at lb9 eb9 ⊢
  repeat (refine Ob.mk (by first | decide | omega) ?_; conv => whnf)
  refine LoadX.fn hb 1 rfl (by decide) ?_; conv => whnf
  rw [xor64 (hL 1 (by decide)) ld1]
  refine rotate_ok (xorlt (hL 1 (by decide)) ld1) (by decide) ?_; conv => whnf
  have lb10 : rotl (L 1 ^^^ d1) 1 < 2 ^ 64 := rotl_lt _ _
  have eb10 : rotl (L 1 ^^^ d1) 1 = piL (rhL (thL L)) 10 := by rw [ed1]; rfl
  generalize rotl (L 1 ^^^ d1) 1 = b10 at lb10 eb10 ⊢
  repeat (refine Ob.mk (by first | decide | omega) ?_; conv => whnf)
  refine LoadX.fn hb 7 rfl (by decide) ?_; conv => whnf
  rw [xor64 (hL 7 (by decide)) ld2]
  refine rotate_ok (xorlt (hL 7 (by decide)) ld2) (by decide) ?_; conv => whnf
  have lb11 : rotl (L 7 ^^^ d2) 6 < 2 ^ 64 := rotl_lt _ _
  have eb11 : rotl (L 7 ^^^ d2) 6 = piL (rhL (thL L)) 11 := by rw [ed2]; rfl
  generalize rotl (L 7 ^^^ d2) 6 = b11 at lb11 eb11 ⊢
  repeat (refine Ob.mk (by first | decide | omega) ?_; conv => whnf)
  refine LoadX.fn hb 13 rfl (by decide) ?_; conv => whnf
  rw [xor64 (hL 13 (by decide)) ld3]
  refine rotate_ok (xorlt (hL 13 (by decide)) ld3) (by decide) ?_; conv => whnf
  have lb12 : rotl (L 13 ^^^ d3) 25 < 2 ^ 64 := rotl_lt _ _
  have eb12 : rotl (L 13 ^^^ d3) 25 = piL (rhL (thL L)) 12 := by rw [ed3]; rfl
  generalize rotl (L 13 ^^^ d3) 25 = b12 at lb12 eb12 ⊢
  repeat (refine Ob.mk (by first | decide | omega) ?_; conv => whnf)
  refine LoadX.fn hb 19 rfl (by decide) ?_; conv => whnf
  rw [xor64 (hL 19 (by decide)) ld4]
  refine rotate_ok (xorlt (hL 19 (by decide)) ld4) (by decide) ?_; conv => whnf
  have lb13 : rotl (L 19 ^^^ d4) 8 < 2 ^ 64 := rotl_lt _ _
  have eb13 : rotl (L 19 ^^^ d4) 8 = piL (rhL (thL L)) 13 := by rw [ed4]; rfl
  generalize rotl (L 19 ^^^ d4) 8 = b13 at lb13 eb13 ⊢
  repeat (refine Ob.mk (by first | decide | omega) ?_; conv => whnf)
  refine LoadX.fn hb 20 rfl (by decide) ?_; conv => whnf
  rw [xor64 (hL 20 (by decide)) ld0]
  refine rotate_ok (xorlt (hL 20 (by decide)) ld0) (by decide) ?_; conv => whnf
  have lb14 : rotl (L 20 ^^^ d0) 18 < 2 ^ 64 := rotl_lt _ _
  have eb14 : rotl (L 20 ^^^ d0) 18 = piL (rhL (thL L)) 14 := by rw [ed0]; rfl
  generalize rotl (L 20 ^^^ d0) 18 = b14 at lb14 eb14 ⊢
  repeat (refine Ob.mk (by first | decide | omega) ?_; conv => whnf)
  refine LoadX.fn hb 4 rfl (by decide) ?_; conv => whnf
  rw [xor64 (hL 4 (by decide)) ld4]
  refine rotate_ok (xorlt (hL 4 (by decide)) ld4) (by decide) ?_; conv => whnf
  have lb15 : rotl (L 4 ^^^ d4) 27 < 2 ^ 64 := rotl_lt _ _
  have eb15 : rotl (L 4 ^^^ d4) 27 = piL (rhL (thL L)) 15 := by rw [ed4]; rfl
  generalize rotl (L 4 ^^^ d4) 27 = b15 at lb15 eb15 ⊢
  repeat (refine Ob.mk (by first | decide | omega) ?_; conv => whnf)
  refine LoadX.fn hb 5 rfl (by decide) ?_; conv => whnf
  rw [xor64 (hL 5 (by decide)) ld0]
  refine rotate_ok (xorlt (hL 5 (by decide)) ld0) (by decide) ?_; conv => whnf
  have lb16 : rotl (L 5 ^^^ d0) 36 < 2 ^ 64 := rotl_lt _ _
  have eb16 : rotl (L 5 ^^^ d0) 36 = piL (rhL (thL L)) 16 := by rw [ed0]; rfl
  generalize rotl (L 5 ^^^ d0) 36 = b16 at lb16 eb16 ⊢
  repeat (refine Ob.mk (by first | decide | omega) ?_; conv => whnf)
  refine LoadX.fn hb 11 rfl (by decide) ?_; conv => whnf
  rw [xor64 (hL 11 (by decide)) ld1]
  refine rotate_ok (xorlt (hL 11 (by decide)) ld1) (by decide) ?_; conv => whnf
  have lb17 : rotl (L 11 ^^^ d1) 10 < 2 ^ 64 := rotl_lt _ _
  have eb17 : rotl (L 11 ^^^ d1) 10 = piL (rhL (thL L)) 17 := by rw [ed1]; rfl
  generalize rotl (L 11 ^^^ d1) 10 = b17 at lb17 eb17 ⊢
  repeat (refine Ob.mk (by first | decide | omega) ?_; conv => whnf)
  refine LoadX.fn hb 17 rfl (by decide) ?_; conv => whnf
  rw [xor64 (hL 17 (by decide)) ld2]
  refine rotate_ok (xorlt (hL 17 (by decide)) ld2) (by decide) ?_; conv => whnf
  have lb18 : rotl (L 17 ^^^ d2) 15 < 2 ^ 64 := rotl_lt _ _
  have eb18 : rotl (L 17 ^^^ d2) 15 = piL (rhL (thL L)) 18 := by rw [ed2]; rfl
  generalize rotl (L 17 ^^^ d2) 15 = b18 at lb18 eb18 ⊢
  repeat (refine Ob.mk (by first | decide | omega) ?_; conv => whnf)
  refine LoadX.fn hb 23 rfl (by decide) ?_; conv => whnf
  rw [xor64 (hL 23 (by decide)) ld3]
  refine rotate_ok (xorlt (hL 23 (by decide)) ld3) (by decide) ?_; conv => whnf
  have lb19 : rotl (L 23 ^^^ d3) 56 < 2 ^ 64 := rotl_lt _ _
  have eb19 : rotl (L 23 ^^^ d3) 56 = piL (rhL (thL L)) 19 := by rw [ed3]; rfl
  generalize rotl (L 23 ^^^ d3) 56 = b19 at lb19 eb19 ⊢
  repeat (refine Ob.mk (by first | decide | omega) ?_; conv => whnf)
  refine LoadX.fn hb 2 rfl (by decide) ?_; conv => whnf
  rw [xor64 (hL 2 (by decide)) ld2]
  refine rotate_ok (xorlt (hL 2 (by decide)) ld2) (by decide) ?_; conv => whnf
  have lb20 : rotl (L 2 ^^^ d2) 62 < 2 ^ 64 := rotl_lt _ _
  have eb20 : rotl (L 2 ^^^ d2) 62 = piL (rhL (thL L)) 20 := by rw [ed2]; rfl
  generalize rotl (L 2 ^^^ d2) 62 = b20 at lb20 eb20 ⊢
  repeat (refine Ob.mk (by first | decide | omega) ?_; conv => whnf)
  refine LoadX.fn hb 8 rfl (by decide) ?_; conv => whnf
  rw [xor64 (hL 8 (by decide)) ld3]
  refine rotate_ok (xorlt (hL 8 (by decide)) ld3) (by decide) ?_; conv => whnf
  have lb21 : rotl (L 8 ^^^ d3) 55 < 2 ^ 64 := rotl_lt _ _
  have eb21 : rotl (L 8 ^^^ d3) 55 = piL (rhL (thL L)) 21 := by rw [ed3]; rfl
  generalize rotl (L 8 ^^^ d3) 55 = b21 at lb21 eb21 ⊢
  repeat (refine Ob.mk (by first | decide | omega) ?_; conv => whnf)
  refine LoadX.fn hb 14 rfl (by decide) ?_; conv => whnf
  rw [xor64 (hL 14 (by decide)) ld4]
  refine rotate_ok (xorlt (hL 14 (by decide)) ld4) (by decide) ?_; conv => whnf
  have lb22 : rotl (L 14 ^^^ d4) 39 < 2 ^ 64 := rotl_lt _ _
  have eb22 : rotl (L 14 ^^^ d4) 39 = piL (rhL (thL L)) 22 := by rw [ed4]; rfl
  generalize rotl (L 14 ^^^ d4) 39 = b22 at lb22 eb22 ⊢
  repeat (refine Ob.mk (by first | decide | omega) ?_; conv => whnf)
  refine LoadX.fn hb 15 rfl (by decide) ?_; conv => whnf
  rw [xor64 (hL 15 (by decide)) ld0]
  refine rotate_ok (xorlt (hL 15 (by decide)) ld0) (by decide) ?_; conv => whnf
  have lb23 : rotl (L 15 ^^^ d0) 41 < 2 ^ 64 := rotl_lt _ _
  have eb23 : rotl (L 15 ^^^ d0) 41 = piL (rhL (thL L)) 23 := by rw [ed0]; rfl
  generalize rotl (L 15 ^^^ d0) 41 = b23 at lb23 eb23 ⊢
  repeat (refine Ob.mk (by first | decide | omega) ?_; conv => whnf)
  refine LoadX.fn hb 21 rfl (by decide) ?_; conv => whnf
  rw [xor64 (hL 21 (by decide)) ld1]
  refine rotate_ok (xorlt (hL 21 (by decide)) ld1) (by decide) ?_; conv => whnf
  have lb24 : rotl (L 21 ^^^ d1) 2 < 2 ^ 64 := rotl_lt _ _
  have eb24 : rotl (L 21 ^^^ d1) 2 = piL (rhL (thL L)) 24 := by rw [ed1]; rfl
  generalize rotl (L 21 ^^^ d1) 2 = b24 at lb24 eb24 ⊢
  rw [← hput_id hb]
  repeat (refine Ob.mk (by first | decide | omega) ?_; conv => whnf)
  rw [notx64 lb1, and64 (ntL_lt lb1) lb2, xor64 lb0 (Nat.and_lt_two_pow _ lb2)]
  refine StoreX.fn (hput_same ..) 0 rfl (by decide) ?_
  rw [hput_hput]; conv => whnf
  repeat (refine Ob.mk (by first | decide | omega) ?_; conv => whnf)
  rw [notx64 lb2, and64 (ntL_lt lb2) lb3, xor64 lb1 (Nat.and_lt_two_pow _ lb3)]
  refine StoreX.fn (hput_same ..) 1 rfl (by decide) ?_
  rw [hput_hput]; conv => whnf
  repeat (refine Ob.mk (by first | decide | omega) ?_; conv => whnf)
  rw [notx64 lb3, and64 (ntL_lt lb3) lb4, xor64 lb2 (Nat.and_lt_two_pow _ lb4)]
  refine StoreX.fn (hput_same ..) 2 rfl (by decide) ?_
  rw [hput_hput]; conv => whnf
  repeat (refine Ob.mk (by first | decide | omega) ?_; conv => whnf)
  rw [notx64 lb4, and64 (ntL_lt lb4) lb0, xor64 lb3 (Nat.and_lt_two_pow _ lb0)]
  refine StoreX.fn (hput_same ..) 3 rfl (by decide) ?_
  rw [hput_hput]; conv => whnf
  repeat (refine Ob.mk (by first | decide | omega) ?_; conv => whnf)
  rw [notx64 lb0, and64 (ntL_lt lb0) lb1, xor64 lb4 (Nat.and_lt_two_pow _ lb1)]
  refine StoreX.fn (hput_same ..) 4 rfl (by decide) ?_
  rw [hput_hput]; conv => whnf
  repeat (refine Ob.mk (by first | decide | omega) ?_; conv => whnf)
  rw [notx64 lb6, and64 (ntL_lt lb6) lb7, xor64 lb5 (Nat.and_lt_two_pow _ lb7)]
  refine StoreX.fn (hput_same ..) 5 rfl (by decide) ?_
  rw [hput_hput]; conv => whnf
  repeat (refine Ob.mk (by first | decide | omega) ?_; conv => whnf)
  rw [notx64 lb7, and64 (ntL_lt lb7) lb8, xor64 lb6 (Nat.and_lt_two_pow _ lb8)]
  refine StoreX.fn (hput_same ..) 6 rfl (by decide) ?_
  rw [hput_hput]; conv => whnf
  repeat (refine Ob.mk (by first | decide | omega) ?_; conv => whnf)
  rw [notx64 lb8, and64 (ntL_lt lb8) lb9, xor64 lb7 (Nat.and_lt_two_pow _ lb9)]
  refine StoreX.fn (hput_same ..) 7 rfl (by decide) ?_
  rw [hput_hput]; conv => whnf
  repeat (refine Ob.mk (by first | decide | omega) ?_; conv => whnf)
  rw [notx64 lb9, and64 (ntL_lt lb9) lb5, xor64 lb8 (Nat.and_lt_two_pow _ lb5)]
  refine StoreX.fn (hput_same ..) 8 rfl (by decide) ?_
  rw [hput_hput]; conv => whnf
  repeat (refine Ob.mk (by first | decide | omega) ?_; conv => whnf)
  rw [notx64 lb5, and64 (ntL_lt lb5) lb6, xor64 lb9 (Nat.and_lt_two_pow _ lb6)]
  refine StoreX.fn (hput_same ..) 9 rfl (by decide) ?_
  rw [hput_hput]; conv => whnf
  repeat (refine Ob.mk (by first | decide | omega) ?_; conv => whnf)
  rw [notx64 lb11, and64 (ntL_lt lb11) lb12, xor64 lb10 (Nat.and_lt_two_pow _ lb12)]
  refine StoreX.fn (hput_same ..) 10 rfl (by decide) ?_
  rw [hput_hput]; conv => whnf
  repeat (refine Ob.mk (by first | decide | omega) ?_; conv => whnf)
  rw [notx64 lb12, and64 (ntL_lt lb12) lb13, xor64 lb11 (Nat.and_lt_two_pow _ lb13)]
  refine StoreX.fn (hput_same ..) 11 rfl (by decide) ?_
  rw [hput_hput]; conv => whnf
  repeat (refine Ob.mk (by first | decide | omega) ?_; conv => whnf)
  rw [notx64 lb13, and64 (ntL_lt lb13) lb14, xor64 lb12 (Nat.and_lt_two_pow _ lb14)]
  refine StoreX.fn (hput_same ..) 12 rfl (by decide) ?_
  rw [hput_hput]; conv => whnf
  repeat (refine Ob.mk (by first | decide | omega) ?_; conv => whnf)
  rw [notx64 lb14, and64 (ntL_lt lb14) lb10, xor64 lb13 (Nat.and_lt_two_pow _ lb10)]
  refine StoreX.fn (hput_same ..) 13 rfl (by decide) ?_
  rw [hput_hput]; conv => whnf
  repeat (refine Ob.mk (by first | decide | omega) ?_; conv => whnf)
  rw [notx64 lb10, and64 (ntL_lt lb10) lb11, xor64 lb14 (Nat.and_lt_two_pow _ lb11)]
  refine StoreX.fn (hput_same ..) 14 rfl (by decide) ?_
  rw [hput_hput]; conv => whnf
  repeat (refine Ob.mk (by first | decide | omega) ?_; conv => whnf)
  rw [notx64 lb16, and64 (ntL_lt lb16) lb17, xor64 lb15 (Nat.and_lt_two_pow _ lb17)]
  refine StoreX.fn (hput_same ..) 15 rfl (by decide) ?_
  rw [hput_hput]; conv => whnf
  repeat (refine Ob.mk (by first | decide | omega) ?_; conv => whnf)
  rw [notx64 lb17, and64 (ntL_lt lb17) lb18, xor64 lb16 (Nat.and_lt_two_pow _ lb18)]
  refine StoreX.fn (hput_same ..) 16 rfl (by decide) ?_
  rw [hput_hput]; conv => whnf
  repeat (refine Ob.mk (by first | decide | omega) ?_; conv => whnf)
  rw [notx64 lb18, and64 (ntL_lt lb18) lb19, xor64 lb17 (Nat.and_lt_two_pow _ lb19)]
  refine StoreX.fn (hput_same ..) 17 rfl (by decide) ?_
  rw [hput_hput]; conv => whnf
  repeat (refine Ob.mk (by first | decide | omega) ?_; conv => whnf)
  rw [notx64 lb19, and64 (ntL_lt lb19) lb15, xor64 lb18 (Nat.and_lt_two_pow _ lb15)]
  refine StoreX.fn (hput_same ..) 18 rfl (by decide) ?_
  rw [hput_hput]; conv => whnf
  repeat (refine Ob.mk (by first | decide | omega) ?_; conv => whnf)
  rw [notx64 lb15, and64 (ntL_lt lb15) lb16, xor64 lb19 (Nat.and_lt_two_pow _ lb16)]
  refine StoreX.fn (hput_same ..) 19 rfl (by decide) ?_
  rw [hput_hput]; conv => whnf
  repeat (refine Ob.mk (by first | decide | omega) ?_; conv => whnf)
  rw [notx64 lb21, and64 (ntL_lt lb21) lb22, xor64 lb20 (Nat.and_lt_two_pow _ lb22)]
  refine StoreX.fn (hput_same ..) 20 rfl (by decide) ?_
  rw [hput_hput]; conv => whnf
  repeat (refine Ob.mk (by first | decide | omega) ?_; conv => whnf)
  rw [notx64 lb22, and64 (ntL_lt lb22) lb23, xor64 lb21 (Nat.and_lt_two_pow _ lb23)]
  refine StoreX.fn (hput_same ..) 21 rfl (by decide) ?_
  rw [hput_hput]; conv => whnf
  repeat (refine Ob.mk (by first | decide | omega) ?_; conv => whnf)
  rw [notx64 lb23, and64 (ntL_lt lb23) lb24, xor64 lb22 (Nat.and_lt_two_pow _ lb24)]
  refine StoreX.fn (hput_same ..) 22 rfl (by decide) ?_
  rw [hput_hput]; conv => whnf
  repeat (refine Ob.mk (by first | decide | omega) ?_; conv => whnf)
  rw [notx64 lb24, and64 (ntL_lt lb24) lb20, xor64 lb23 (Nat.and_lt_two_pow _ lb20)]
  refine StoreX.fn (hput_same ..) 23 rfl (by decide) ?_
  rw [hput_hput]; conv => whnf
  repeat (refine Ob.mk (by first | decide | omega) ?_; conv => whnf)
  rw [notx64 lb20, and64 (ntL_lt lb20) lb21, xor64 lb24 (Nat.and_lt_two_pow _ lb21)]
  refine StoreX.fn (hput_same ..) 24 rfl (by decide) ?_
  rw [hput_hput]; conv => whnf
  refine RetX.same ?_
  have e : ∀ G : Nat → Value, (∀ i, i < 25 → G i = .int .u64 (chL (piL (rhL (thL L))) i)) → K (.tuple #[]) (hput h m (fnv 25 G, t)) := fun G hG => by rw [fnv_ext hG]; exact hk
  refine e _ fun i hi => ?_
  subst eb0 eb1 eb2 eb3 eb4 eb5 eb6 eb7 eb8 eb9 eb10 eb11 eb12 eb13 eb14 eb15 eb16 eb17 eb18 eb19 eb20 eb21 eb22 eb23 eb24
  match i, hi with
    | 0, _ => rfl
    | 1, _ => rfl
    | 2, _ => rfl
    | 3, _ => rfl
    | 4, _ => rfl
    | 5, _ => rfl
    | 6, _ => rfl
    | 7, _ => rfl
    | 8, _ => rfl
    | 9, _ => rfl
    | 10, _ => rfl
    | 11, _ => rfl
    | 12, _ => rfl
    | 13, _ => rfl
    | 14, _ => rfl
    | 15, _ => rfl
    | 16, _ => rfl
    | 17, _ => rfl
    | 18, _ => rfl
    | 19, _ => rfl
    | 20, _ => rfl
    | 21, _ => rfl
    | 22, _ => rfl
    | 23, _ => rfl
    | 24, _ => rfl
    | n + 25, hh => exact absurd hh (by omega)
end
end Go.Proofs.YgvalwGreat.X
