import Derived.Test.YgvalwGreatE6
set_option linter.unusedVariables false
set_option linter.unusedSimpArgs false
namespace Go.Proofs.YgvalwGreat.X
open Go

section
variable {h : Hp} {K : Value → Hp → Prop} {a b : Nat} {x y : Int}

set_option maxHeartbeats 8000000 in
set_option maxRecDepth 100000 in
set_option maxHeartbeats 4000000 in
theorem eMul512_ok (hx0 : 0 ≤ x) (hx : x < W) (hy0 : 0 ≤ y) (hy : y < W) (hk : ∀ l : List Int, l.length = 8 → isL l → lv l = x * y → K (.agg (ul l).toArray) h) : CallX Hval.prog 221 [.agg (wc x).toArray, .agg (wc y).toArray] h K := by
  obtain ⟨a0, a1, a2, a3, ua0, ua1, ua2, ua3, ex, ewx⟩ := limbs hx0 hx
  rw [ewx]
  refine CallX.of_xf T_ok Hval.func221 rfl (by kernel_rfl) (Nat.le_of_ble_eq_true rfl) ?_; conv => whnf
  refine BoxX.mk fun n1 hn1 => ?_; conv => whnf
  refine BoxX.on fun n2 hn2 hbd2 => ?_; conv => whnf
  refine BoxX.on fun n3 hn3 hbd3 => ?_; conv => whnf
  obtain ⟨h', hh⟩ : ∃ h' : Hp, h' = hput (hput (hput h n1 ([Value.int .u64 a0, .int .u64 a1, .int .u64 a2, .int .u64 a3], 75)) n2 (wc y, 75)) n3 ((77, y77).snd.zero, 77) := ⟨_, rfl⟩
  have hb : h' n2 = some (wc y, 75) := by rw [hh, hput_ne (by omega), hput_same]
  have ha : h' n1 = some ([Value.int .u64 a0, .int .u64 a1, .int .u64 a2, .int .u64 a3], 75) := by rw [hh, hput_ne (by omega), hput_ne (by omega), hput_same]
  have hc : h' n3 = some ((77, y77).snd.zero, 77) := by rw [hh, hput_same]
  have z0 : U 0 := by unfold U; omega
  erw [← hh]
  refine Ob.mk (by first | decide | omega) ?_; conv => whnf
  refine LoadX.of _ (ldV_blk ha rfl) ?_; conv => whnf
  refine row_ok ua0 hy0 hy hb z0 z0 z0 z0 fun r0 r1 r2 r3 r4 u0 u1 u2 u3 u4 e1 => ?_; conv => whnf
  refine Ob.mk (by first | decide | omega) ?_; conv => whnf
  refine LoadX.of _ (ldV_blk ha rfl) ?_; conv => whnf
  refine row_ok ua1 hy0 hy hb u1 u2 u3 u4 fun s0 s1 s2 s3 s4 v0 v1 v2 v3 v4 e2 => ?_; conv => whnf
  refine Ob.mk (by first | decide | omega) ?_; conv => whnf
  refine LoadX.of _ (ldV_blk ha rfl) ?_; conv => whnf
  refine row_ok ua2 hy0 hy hb v1 v2 v3 v4 fun t0 t1 t2 t3 t4 w0 w1 w2 w3 w4 e3 => ?_; conv => whnf
  refine Ob.mk (by first | decide | omega) ?_; conv => whnf
  refine LoadX.of _ (ldV_blk ha rfl) ?_; conv => whnf
  refine row_ok ua3 hy0 hy hb w1 w2 w3 w4 fun q0 q1 q2 q3 q4 k0 k1 k2 k3 k4 e4 => ?_; conv => whnf
  refine Ob.mk ⟨rfl, rfl⟩ ?_; conv => whnf
  refine StoreX.at hc (Nat.le_of_ble_eq_true rfl) ?_; conv => whnf
  refine LoadX.of _ ((ldV_same _ _ _ _ _ _ _).trans rfl) ?_; conv => whnf
  refine RetX.drop (h' := h) (fun b z hb' => ?_) (hk [r0, s0, t0, q0, q1, q2, q3, q4] rfl (fun d hd => ?_) ?_)
  · have hlt := hn1 b z hb'
    rw [hput_ne (by omega), hh, hput_ne (by omega), hput_ne (by omega), hput_ne (by omega)]; exact hb'
  · simp only [List.mem_cons, List.not_mem_nil, or_false] at hd
    rcases hd with rfl | rfl | rfl | rfl | rfl | rfl | rfl | rfl <;> assumption
  · have exy : x * y = a0 * y + 18446744073709551616 * (a1 * y) + 340282366920938463463374607431768211456 * (a2 * y) + 6277101735386680763835789423207666416102355444464034512896 * (a3 * y) := by
      rw [← ex, Int.mul_comm, mul_row, Int.mul_comm y a0, Int.mul_comm y a1, Int.mul_comm y a2, Int.mul_comm y a3]
    rw [exy]
    generalize a0 * y = p0 at *
    generalize a1 * y = p1 at *
    generalize a2 * y = p2 at *
    generalize a3 * y = p3 at *
    simp only [lv]
    unfold wv at e1 e2 e3 e4
    rw [W_val] at *
    omega
end
end Go.Proofs.YgvalwGreat.X
