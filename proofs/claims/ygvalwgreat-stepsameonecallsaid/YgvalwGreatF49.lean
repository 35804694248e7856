import Derived.Test.YgvalwGreatF48
set_option linter.unusedVariables false
set_option linter.unusedSimpArgs false
namespace Go.Proofs.YgvalwGreat.X
open Go

/-- The whole cost of an instruction. -/
def needI (o : Int) (A : Nat → Int) : Int := (reachI o A + 31) / 32
def costI (w : YW) (self : List Int) (o : Int) (A : Nat → Int) (words : Int) : Int :=
  bareI w self o A + (if needI o A ≤ words then 0 else lessI (memCost (needI o A)) (memCost words))
theorem endI_bd {x y : Int} (h0 : 0 ≤ x) (h1 : x < W) (h2 : 0 ≤ y) (h3 : y < W) : 0 ≤ endI x y ∧ endI x y < 2 * W := by
  unfold endI; split <;> omega
theorem reachI_bd {o : Int} {A : Nat → Int} (h0 : ∀ i, 0 ≤ A i) (h1 : ∀ i, A i < W) : 0 ≤ reachI o A ∧ reachI o A < 2 * W := by
  have hW32 : 1000 < W := by rw [W_val]; decide
  have e := fun i j => endI_bd (h0 i) (h1 i) (h0 j) (h1 j)
  have e32 := fun i => endI_bd (h0 i) (h1 i) (show (0 : Int) ≤ 32 by omega) (by omega)
  have e1 := fun i => endI_bd (h0 i) (h1 i) (show (0 : Int) ≤ 1 by omega) (by omega)
  unfold reachI
  repeat' split
  all_goals first | exact e _ _ | exact e32 _ | exact e1 _ | skip
  · have := e 0 2; have := e 1 2; omega
  · have := e 3 4; have := e 5 6; omega
  · have := e 2 3; have := e 4 5; omega
  · omega
theorem bareI_bd {w : YW} {self : List Int} {o : Int} {A : Nat → Int} (ho0 : 0 ≤ o) (ho1 : o < 256) (h0 : ∀ i, 0 ≤ A i) (h1 : ∀ i, A i < W) : 0 ≤ bareI w self o A ∧ bareI w self o A < 100 * W := by
  have hW32 : 100000 < W := by rw [W_val]; decide
  have a0 := h0 0; have a1 := h0 1; have a2 := h0 2; have a3 := h0 3
  have b0 := h1 0; have b1 := h1 1; have b2 := h1 2; have b3 := h1 3
  have hac : ∀ T, 0 ≤ accI w.wa T ∧ accI w.wa T ≤ 2600 := fun T => by unfold accI; split <;> omega
  have hac0 := hac (addrI (A 0)); have hac1 := hac (addrI (A 1))
  have hnb : 0 ≤ nbI (A 1) ∧ nbI (A 1) ≤ 32 := by
    have := bitsI_le (k := 256) a1 (by rw [← W_pow]; exact b1)
    unfold nbI; omega
  have hd : 0 ≤ destroyI w self (A 0) ∧ destroyI w self (A 0) ≤ 50000 := by
    unfold destroyI
    repeat' split
    all_goals omega
  have he : 0 ≤ enterI w o A ∧ enterI w o A ≤ 100000 + W := by
    unfold enterI
    repeat' split
    all_goals omega
  have hs : 0 ≤ sstoreC (slotV w.acc self (A 0)) (A 1) (!hasM w.ws self (A 0)) ∧ sstoreC (slotV w.acc self (A 0)) (A 1) (!hasM w.ws self (A 0)) ≤ 30000 := by
    unfold sstoreC
    repeat' split
    all_goals omega
  unfold bareI
  repeat' split
  all_goals omega
theorem memCost_bd {x : Int} (h0 : 0 ≤ x) (h1 : x < 2 * W) : 0 ≤ memCost x ∧ memCost x < 100 * W * W := by
  unfold memCost
  have hW32 : 100000 < W := by rw [W_val]; decide
  have h2 := mul_bd h0 (Int.le_of_lt h1) h0 (Int.le_of_lt h1)
  have h3 : x * x / 512 ≤ x * x := Int.ediv_le_self _ h2.1
  have h4 : 0 ≤ x * x / 512 := Int.ediv_nonneg h2.1 (by decide)
  have h5 : 2 * W * (2 * W) = 4 * (W * W) := by grind
  have h6 : 100 * W * W = 100 * (W * W) := by grind
  have h7 : 100000 * W ≤ W * W := Int.mul_le_mul_of_nonneg_right (by omega) (by omega)
  rw [h5] at h2
  rw [h6]
  omega

section
variable {hi hm : Hp} {K : Value → Hp → Prop}
set_option maxRecDepth 100000 in
set_option maxHeartbeats 4000000 in
theorem cost_ok (hd : Dj hi hm) {c b : Nat} {cells : List Value} {tc : TypeId} {w : YW} {pre post : List Value} {f : YF} {t : TypeId} {o : Int} (ho0 : 0 ≤ o) (ho1 : o < 256) (hc : hm c = some (cells, tc)) (hW : ∀ j, j < 8 → cells[0 + j]? = w.cells[j]?) (hS : cells[8]? = some (sl nilS)) (hw : w.ok hi (join hi hm)) (hwr : w.room)
    (hb : hm b = some (pre ++ (fCells f ++ post), t)) (hok : f.ok hi) (hsW : stW f.st) (hmr : f.memS.2.1 < 2 ^ 40)
    (hk : ∀ s1 hi', Ext hi hi' → Dj hi' hm → NtS hi' s1 (costI w f.self o (argI f.st) (f.memS.2.1 / 32 : Nat)) → K (sl s1) (join hi' hm)) :
    CallX Hval.prog 122 [.pointer (some ⟨c, 0, none⟩), .pointer (some ⟨b, pre.length, none⟩), .int .u8 o] (join hi hm) K := by
  refine CallX.of_xf T_ok Hval.func122 rfl (by kernel_rfl) (Nat.le_of_ble_eq_true rfl) ?_; conv => whnf
  have hbg := big_lt
  have hWb : 300 * W * W < big := by rw [W_val, big_val]; decide
  have hWb1 : W * 200 < big := by rw [W_val, big_val]; decide
  have hW32 : 1000000000000000 < W := by rw [W_val]; decide
  have hW40 : 2 * W < 256 ^ 40 := by rw [W_val]; decide
  have aok : ∀ i, NtS hi (argP f.st i).1 (argI f.st i) := fun i => argP_ok hok.stE i
  have aW := argI_lt hsW
  have a0 : ∀ i, 0 ≤ argI f.st i := fun i => (aok i).val
  have hr := reachI_bd (o := o) a0 aW
  have hbr := bareI_bd (w := w) (self := f.self) ho0 ho1 a0 aW
  have hWW : 100 * W ≤ 100 * W * W := by
    have := Int.mul_le_mul_of_nonneg_left (show 1 ≤ W by omega) (show 0 ≤ 100 * W by omega); omega
  have hWW2 : 300 * W * W = 3 * (100 * W * W) := by grind
  refine bareCost_ok hd ho0 ho1 hc hW hS hw hwr hb hok hsW fun sB hi1 e1 hd1 g1 => ?_; conv => whnf
  refine LoadX.mid (join_hm hd1 hb) 9 (by decide) rfl (v := sl f.memS) rfl ?_; conv => whnf
  refine Ob.mk (by first | decide | omega) ?_; conv => whnf
  have e2 : IntKind.u64.wrap (IntKind.i64.wrap (Int.tdiv (f.memS.2.1 : Int) 32)) = ((f.memS.2.1 / 32 : Nat) : Int) := by
    rw [show (32 : Int) = ((32 : Nat) : Int) by rfl, tdivN, wrap_i64 (by omega) (by omega), wrap_u64']; omega
  rw [e2]
  refine CallX.fj hd1 (num_ok (by omega) (by omega) fun b2 n2 c2 hi2 e2 g2 hd2 => ?_); conv => whnf
  refine reach_ok hd2 ho0 ho1 hb (hok.ext (e1.trans e2)) hsW fun s3 hi3 e3 hd3 g3 => ?_; conv => whnf
  refine CallX.fj hd3 (words_okN g3 (by omega) fun b4 n4 c4 hi4 e4 g4 hd4 => ?_); conv => whnf
  refine cmpN (g4.ext (Ext.jl _ hm)) (((g2.ext e3).ext e4).ext (Ext.jl _ hm)) ?_; conv => whnf
  have hle : decide (cmpI ((reachI o (argI f.st) + 31) / 32) ((f.memS.2.1 / 32 : Nat) : Int) ≤ 0) = decide (needI o (argI f.st) ≤ ((f.memS.2.1 / 32 : Nat) : Int)) := by
    rw [decide_eq_decide]; unfold needI cmpI; repeat' split
    all_goals omega
  rw [hle]
  have eX := ((e1.trans e2).trans e3).trans e4
  refine CondX.decI (fun hq => ?_) (fun hq => ?_) <;> conv => whnf
  · refine RetX.same (hk sB hi4 eX hd4 ?_)
    unfold costI
    rw [if_pos hq]
    simpa using ((g1.ext e2).ext e3).ext e4
  · have hn1 : 0 ≤ needI o (argI f.st) ∧ needI o (argI f.st) < 2 * W := by unfold needI; omega
    have m1 := memCost_bd hn1.1 hn1.2
    have m2 := memCost_bd (x := ((f.memS.2.1 / 32 : Nat) : Int)) (by omega) (by omega)
    refine CallX.fj hd4 (ypMemCost_ok g4 (by unfold needI at hn1; omega) fun b5 n5 c5 hi5 e5 g5 hd5 => ?_); conv => whnf
    refine CallX.fj hd5 (ypMemCost_ok (((g2.ext e3).ext e4).ext e5) (by omega) fun b6 n6 c6 hi6 e6 g6 hd6 => ?_); conv => whnf
    refine CallX.fj hd6 (less_ok (g5.ext e6) g6 fun b7 n7 c7 hi7 e7 g7 hd7 => ?_); conv => whnf
    have hl : 0 ≤ lessI (memCost (needI o (argI f.st))) (memCost ((f.memS.2.1 / 32 : Nat) : Int)) ∧ lessI (memCost (needI o (argI f.st))) (memCost ((f.memS.2.1 / 32 : Nat) : Int)) < 100 * W * W := by
      unfold lessI; split <;> omega
    refine CallX.fj hd7 (addN ((((((g1.ext e2).ext e3).ext e4).ext e5).ext e6).ext e7) g7 (by unfold needI at hl; omega) fun b8 n8 c8 hi8 e8 g8 hd8 => ?_); conv => whnf
    refine RetX.same (hk (b8, n8, c8) hi8 (((((eX.trans e5).trans e6).trans e7)).trans e8) hd8 ?_)
    unfold costI
    rw [if_neg hq]
    exact g8
end
end Go.Proofs.YgvalwGreat.X
