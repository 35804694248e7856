import Derived.Test.YgvalwGreatG1
import Derived.Test.YgvalwGreatF1
set_option linter.unusedVariables false
set_option linter.unusedSimpArgs false
namespace Go.Proofs.YgvalwGreat.X
open Go

/-- A word of the engine, by its value: four limbs. -/
def wc (v : Int) : List Value := [.int .u64 (v % 18446744073709551616), .int .u64 (v / 18446744073709551616 % 18446744073709551616), .int .u64 (v / 340282366920938463463374607431768211456 % 18446744073709551616), .int .u64 (v / 6277101735386680763835789423207666416102355444464034512896 % 18446744073709551616)]
theorem wc_enc (v : Int) : Value.agg (wc v).toArray = encW v := rfl
theorem wc_wv {v : Int} (h0 : 0 ≤ v) (h1 : v < W) : wv (v % 18446744073709551616) (v / 18446744073709551616 % 18446744073709551616) (v / 340282366920938463463374607431768211456 % 18446744073709551616) (v / 6277101735386680763835789423207666416102355444464034512896 % 18446744073709551616) = v := by
  rw [W_val] at h1; unfold wv; omega
theorem wc_eq {v l0 l1 l2 l3 : Int} (h0 : U l0) (h1 : U l1) (h2 : U l2) (h3 : U l3) (hv : wv l0 l1 l2 l3 = v) : [Value.int .u64 l0, .int .u64 l1, .int .u64 l2, .int .u64 l3] = wc v := by
  unfold U at *
  unfold wv at hv
  have e0 : l0 = v % 18446744073709551616 := by omega
  have e1 : l1 = v / 18446744073709551616 % 18446744073709551616 := by omega
  have e2 : l2 = v / 340282366920938463463374607431768211456 % 18446744073709551616 := by omega
  have e3 : l3 = v / 6277101735386680763835789423207666416102355444464034512896 % 18446744073709551616 := by omega
  unfold wc
  rw [← e0, ← e1, ← e2, ← e3]
theorem U_mod (x : Int) : U (x % 18446744073709551616) := by unfold U; omega
theorem wc_len (v : Int) : (wc v).length = 4 := rfl
theorem wc_one (v : Int) : ones (wc v) = true := rfl
theorem bor_mod {x y c : Int} (hx : U x) (hy : U y) (hc : 0 ≤ c ∧ c ≤ 1) : (x - y - c) % 18446744073709551616 = x - y - c + bor x (y + c) * 18446744073709551616 := by
  unfold U at *; unfold bor; split <;> omega
theorem sub_limbs {x y : Int} (hx0 : 0 ≤ x) (hx : x < W) (hy0 : 0 ≤ y) (hy : y < W) :
    let x0 := x % 18446744073709551616; let x1 := x / 18446744073709551616 % 18446744073709551616; let x2 := x / 340282366920938463463374607431768211456 % 18446744073709551616; let x3 := x / 6277101735386680763835789423207666416102355444464034512896 % 18446744073709551616
    let y0 := y % 18446744073709551616; let y1 := y / 18446744073709551616 % 18446744073709551616; let y2 := y / 340282366920938463463374607431768211456 % 18446744073709551616; let y3 := y / 6277101735386680763835789423207666416102355444464034512896 % 18446744073709551616
    let b0 := bor x0 (y0 + 0); let b1 := bor x1 (y1 + b0); let b2 := bor x2 (y2 + b1); let b3 := bor x3 (y3 + b2)
    [Value.int .u64 ((x0 - y0 - 0) % 18446744073709551616), .int .u64 ((x1 - y1 - b0) % 18446744073709551616), .int .u64 ((x2 - y2 - b1) % 18446744073709551616), .int .u64 ((x3 - y3 - b2) % 18446744073709551616)] = wc ((x - y) % W) ∧ (b3 != 0) = decide (x < y) := by
  intro x0 x1 x2 x3 y0 y1 y2 y3 b0 b1 b2 b3
  have ex : wv x0 x1 x2 x3 = x := wc_wv hx0 hx
  have ey : wv y0 y1 y2 y3 = y := wc_wv hy0 hy
  have u : U x0 ∧ U x1 ∧ U x2 ∧ U x3 ∧ U y0 ∧ U y1 ∧ U y2 ∧ U y3 := ⟨U_mod _, U_mod _, U_mod _, U_mod _, U_mod _, U_mod _, U_mod _, U_mod _⟩
  have c0 := bor_01 x0 (y0 + 0); have c1 := bor_01 x1 (y1 + b0); have c2 := bor_01 x2 (y2 + b1); have c3 := bor_01 x3 (y3 + b2)
  clear_value x0 x1 x2 x3 y0 y1 y2 y3
  have m0 := bor_mod u.1 u.2.2.2.2.1 (c := 0) (by omega)
  have m1 := bor_mod u.2.1 u.2.2.2.2.2.1 (c := b0) c0
  have m2 := bor_mod u.2.2.1 u.2.2.2.2.2.2.1 (c := b1) c1
  have m3 := bor_mod u.2.2.2.1 u.2.2.2.2.2.2.2 (c := b2) c2
  change (x0 - y0 - 0) % 18446744073709551616 = x0 - y0 - 0 + b0 * 18446744073709551616 at m0
  change (x1 - y1 - b0) % 18446744073709551616 = x1 - y1 - b0 + b1 * 18446744073709551616 at m1
  change (x2 - y2 - b1) % 18446744073709551616 = x2 - y2 - b1 + b2 * 18446744073709551616 at m2
  change (x3 - y3 - b2) % 18446744073709551616 = x3 - y3 - b2 + b3 * 18446744073709551616 at m3
  change 0 ≤ b3 ∧ b3 ≤ 1 at c3
  clear_value b0 b1 b2 b3
  have r0 := U_mod (x0 - y0 - 0); have r1 := U_mod (x1 - y1 - b0); have r2 := U_mod (x2 - y2 - b1); have r3 := U_mod (x3 - y3 - b2)
  rw [m0] at r0 ⊢; rw [m1] at r1 ⊢; rw [m2] at r2 ⊢; rw [m3] at r3 ⊢
  unfold wv at ex ey
  rw [W_val] at *
  unfold U at *
  constructor
  · refine wc_eq r0 r1 r2 r3 ?_
    unfold wv
    subst ex ey
    rcases (show b3 = 0 ∨ b3 = 1 by omega) with h | h <;> subst h <;> omega
  · subst ex ey
    rcases (show b3 = 0 ∨ b3 = 1 by omega) with h | h <;> subst h
    · rw [show (decide _ = false) from decide_eq_false (by omega)]; rfl
    · rw [show (decide _ = true) from decide_eq_true (by omega)]; rfl
section
variable {h : Hp} {K : Value → Hp → Prop} {x y : Int}
theorem eAddOver_ok (hx0 : 0 ≤ x) (hx : x < W) (hy0 : 0 ≤ y) (hy : y < W) (hk : K (.tuple #[.agg (wc ((x + y) % W)).toArray, .bool (decide (W ≤ x + y))]) h) : CallX Hval.prog 146 [.agg (wc x).toArray, .agg (wc y).toArray] h K := by
  refine addOver_ok (U_mod _) (U_mod _) (U_mod _) (U_mod _) (U_mod _) (U_mod _) (U_mod _) (U_mod _) ?_
  rw [wc_wv hx0 hx, wc_wv hy0 hy]
  rw [W_val] at hk
  exact hk
set_option maxRecDepth 100000 in
set_option maxHeartbeats 4000000 in
theorem subUnder_ok (hx0 : 0 ≤ x) (hx : x < W) (hy0 : 0 ≤ y) (hy : y < W) (hk : K (.tuple #[.agg (wc ((x - y) % W)).toArray, .bool (decide (x < y))]) h) : CallX Hval.prog 155 [.agg (wc x).toArray, .agg (wc y).toArray] h K := by
  refine CallX.of_xf T_ok Hval.func155 rfl (by kernel_rfl) (Nat.le_of_ble_eq_true rfl) ?_; conv => whnf
  refine BoxX.mk fun n1 hn1 => ?_; conv => whnf
  repeat' (first
    | (refine Ob.mk (by first | decide | exact ⟨rfl, rfl⟩) ?_; conv => whnf)
    | (refine BoxX.on fun n hn hbd => ?_; conv => whnf)
    | (refine LoadX.of _ (by (repeat (refine (ldV_ne (by omega)).trans ?_)); exact (ldV_same _ _ _ _ _ _ _).trans rfl) ?_; conv => whnf)
    | (refine sub64_ok (by omega) (by omega) (by omega) (by first | omega | exact (bor_01 _ _).1) (by first | omega | exact (bor_01 _ _).2) ?_; conv => whnf)
    | (refine StoreX.same (Nat.le_of_ble_eq_true rfl) ?_; conv => whnf))
  refine RetX.drop (h' := h) (by intro b x hb; have hlt := hn1 b x hb; (repeat (rw [hput_ne (by omega)])); exact hb) ?_
  refine cast (congrArg (fun v => K v h) ?_) hk
  refine (tup2 (congrArg (fun l : List Value => Value.agg l.toArray) ((sub_limbs hx0 hx hy0 hy).1)) (congrArg Value.bool (sub_limbs hx0 hx hy0 hy).2)).symm
end
end Go.Proofs.YgvalwGreat.X
