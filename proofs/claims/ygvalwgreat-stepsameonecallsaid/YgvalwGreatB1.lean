import Derived.Test.YgvalwGreatT1
set_option linter.unusedVariables false
set_option linter.unusedSimpArgs false
namespace Go.Proofs.YgvalwGreat.X
open Go

section
variable {hi hi0 hm hb hl h : Hp} {K : Value → Hp → Prop} {KK : Hp → Prop} {v : VS} {eb : Nat} {w w' : AW} {sn : List AW} {m : MS} {t : Nat} {a : List Int} {S : Int}
section
variable {x : Int}
theorem eU_applied : updV (eC (mC eb m) v) 2406 (.int .u8 x) = eC (mC eb { m with applied := x }) v := by
  rw [eU_m (by omega)]; congr 1; funext k; unfold updV mC
  by_cases h : k = 2406
  · subst h; rfl
  · simp only [if_neg h]
theorem eU_limit : updV (eC (mC eb m) v) 2407 (.int .u64 x) = eC (mC eb { m with limit := x }) v := by
  rw [eU_m (by omega)]; congr 1; funext k; unfold updV mC
  by_cases h : k = 2407
  · subst h; rfl
  · simp only [if_neg h]
theorem eU_txgas : updV (eC (mC eb m) v) 2408 (.int .u64 x) = eC (mC eb { m with txgas := x }) v := by
  rw [eU_m (by omega)]; congr 1; funext k; unfold updV mC
  by_cases h : k = 2408
  · subst h; rfl
  · simp only [if_neg h]
theorem eU_a0 : updV (eC (mC eb m) v) 2413 (.int .i32 x) = eC (mC eb { m with a0 := x }) v := by
  rw [eU_m (by omega)]; congr 1; funext k; unfold updV mC
  by_cases h : k = 2413
  · subst h; rfl
  · simp only [if_neg h]
theorem eU_s0 : updV (eC (mC eb m) v) 2414 (.int .i32 x) = eC (mC eb { m with s0 := x }) v := by
  rw [eU_m (by omega)]; congr 1; funext k; unfold updV mC
  by_cases h : k = 2414
  · subst h; rfl
  · simp only [if_neg h]
end
theorem eUL_m {o q : Nat} {mc g : Nat → Value} (h : o + q ≤ 2435) : updL (eC mc v) o q g = eC (updL mc o q g) v := by
  funext k
  unfold updL eC
  by_cases h1 : o ≤ k ∧ k < o + q
  · rw [if_pos h1, if_pos (by omega)]; dsimp only; rw [if_pos h1]
  · rw [if_neg h1]
    by_cases h2 : k < 2435
    · rw [if_pos h2, if_pos h2]; dsimp only; rw [if_neg h1]
    · rw [if_neg h2, if_neg h2]; dsimp only; rw [if_neg h1]
theorem eU_origin (x : List Int) : updL (eC (mC eb m) v) 2380 20 (fun i => .int .u8 (x.getD i 0)) = eC (mC eb { m with origin := x }) v := by
  rw [eUL_m (by omega)]; congr 1; funext k; unfold updL mC
  by_cases h : 2380 ≤ k ∧ k < 2380 + 20
  · rw [if_pos h]
    dsimp only
    iterate 9 rw [if_neg (by omega)]
    rw [if_pos (by omega)]
  · rw [if_neg h]
    dsimp only
    by_cases h1 : k < 2380
    · simp only [if_pos h1]
    · by_cases h2 : k < 2380
      · have h3 : False := by omega
        exact h3.elim
      · simp only [if_neg (show ¬ k < 2400 by omega)]
theorem eU_price (x : Int) : updL (eC (mC eb m) v) 2400 4 (wcD x) = eC (mC eb { m with price := x }) v := by
  rw [eUL_m (by omega)]; congr 1; funext k; unfold updL mC
  by_cases h : 2400 ≤ k ∧ k < 2400 + 4
  · rw [if_pos h]
    dsimp only
    iterate 10 rw [if_neg (by omega)]
    rw [if_pos (by omega)]
  · rw [if_neg h]
    dsimp only
    by_cases h1 : k < 2400
    · simp only [if_pos h1]
    · by_cases h2 : k < 2400
      · have h3 : False := by omega
        exact h3.elim
      · simp only [if_neg (show ¬ k < 2404 by omega)]
theorem eU_held (x : Int) : updL (eC (mC eb m) v) 2409 4 (wcD x) = eC (mC eb { m with held := x }) v := by
  rw [eUL_m (by omega)]; congr 1; funext k; unfold updL mC
  by_cases h : 2409 ≤ k ∧ k < 2409 + 4
  · rw [if_pos h]
    dsimp only
    iterate 16 rw [if_neg (by omega)]
    rw [if_pos (by omega)]
  · rw [if_neg h]
    dsimp only
    by_cases h1 : k < 2404
    · simp only [if_pos h1]
    · by_cases h2 : k < 2409
      · have h3 : k = 2404 ∨ k = 2405 ∨ k = 2406 ∨ k = 2407 ∨ k = 2408 := by omega
        rcases h3 with rfl | rfl | rfl | rfl | rfl <;> rfl
      · simp only [if_neg (show ¬ k < 2413 by omega)]
theorem eU_made (x : List Int) : updL (eC (mC eb m) v) 2415 20 (fun i => .int .u8 (x.getD i 0)) = eC (mC eb { m with made := x }) v := by
  rw [eUL_m (by omega)]; congr 1; funext k; unfold updL mC
  by_cases h : 2415 ≤ k ∧ k < 2415 + 20
  · rw [if_pos h]
    dsimp only
    iterate 19 rw [if_neg (by omega)]
    rw [if_pos (by omega)]
  · rw [if_neg h]
    dsimp only
    by_cases h1 : k < 2413
    · simp only [if_pos h1]
    · by_cases h2 : k < 2415
      · have h3 : k = 2413 ∨ k = 2414 := by omega
        rcases h3 with rfl | rfl <;> rfl
      · simp only [if_neg (show ¬ k < 2435 by omega)]
theorem VA.sto5L {mc mc' : Nat → Value} {k o q : Nat} {g : Nat → Value} {vs : List Value} (A : VA hi hm eb mc w sn v) (hd : Dj (join hi hm) hb) (hd4 : Dj (join (join hi hm) hb) hl) (hvs : vs = fnv q g) (hu : updL (eC mc v) k q g = eC mc' v) (ho : o = k) (hk : k + q ≤ 27024) (hK : ∀ hm', VA hi hm' eb mc' w sn v → Dj (join hi hm') hb → Dj (join (join hi hm') hb) hl → KK (join (join (join hi hm') hb) hl)) : StoreX (join (join (join hi hm) hb) hl) eb o vs KK := by
  refine StoreX.fr (StoreX.fr (StoreX.jfL A.V.dj A.V.blk hvs k ho hk fun _ => ?_))
  rw [hu]
  refine hK _ (A.setM mc') (Dj.st hd A.V.blk) (hd4.same fun b hb0 => ?_)
  obtain ⟨h1, h2⟩ := join_none hb0
  obtain ⟨h3, h4⟩ := join_none h1
  have hne : b ≠ eb := fun e => by rw [e, A.V.blk] at h4; cases h4
  unfold join
  rw [h3, hput_ne hne, h4]
  exact h2
set_option maxRecDepth 100000 in
set_option maxHeartbeats 4000000 in
theorem ewarm_ok (hl : a.length = 20) (hB : isB a) (A : VA hi hm eb (mC eb m) w sn v) (hrA : v.aL.length < 2560) (hrJ : v.jL.length < 65536)
    (hk : ∀ hm' v', VA hi hm' eb (mC eb m) (warmW w a) sn v' → Up v v' 1 0 0 1 → hasA v' a = true → K (.tuple #[]) (join hi hm')) : CallX Hval.prog 76 [.pointer (some ⟨eb, 2435, none⟩), .agg (bcells a).toArray] (join hi hm) K := by
  refine CallX.of_xf T_ok Hval.func76 rfl (by kernel_rfl) (Nat.le_of_ble_eq_true rfl) ?_; conv => whnf
  refine BoxX.j A.V.dj fun n1 hin hmn hd1 hE => ?_; conv => whnf
  have bx1 : (hput hi n1 ((bcells a).toArray.toList, 31)) n1 = some (bcells a, 31) := hput_same ..
  generalize hput hi n1 ((bcells a).toArray.toList, 31) = hi1 at *
  have alen : (bcells a).length = (31, y31).snd.size := by rw [bcells_len, hl]; rfl
  have hEj := Ext.j2 hE hd1 (Ext.refl hm)
  refine LoadX.all (join_l bx1) alen ?_; conv => whnf
  refine isWarmAcct_ok hl hB A hEj ?_; conv => whnf
  cases hw : w.warmA a with
  | true =>
    repeat (first | (refine CondX.tt ?_; conv => whnf) | (refine CondX.ff ?_; conv => whnf))
    exact RetX.drop (h' := join hi hm) hEj (hk hm v (by rw [warmW_id hw]; exact A) (Up.refl.le (by omega) (by omega) (by omega) (by omega)) (warm_has A hw))
  | false =>
    repeat (first | (refine CondX.tt ?_; conv => whnf) | (refine CondX.ff ?_; conv => whnf))
    refine LoadX.all (join_l bx1) alen ?_; conv => whnf
    refine CallX.bx hE hd1 (Q := fun y hm' => ∃ v', VA hi hm' eb (mC eb m) (wrmW w a true) sn v' ∧ Up v v' (newA v a) 0 0 1 ∧ hasA v' a = true ∧ y = .bool true) (warmAcct_ok hl hB A hrA hrJ fun hm' v' A' u' h' => ⟨hm', rfl, A'.V.dj, v', A', u', h', rfl⟩) ?_
    rintro y hm' hd' ⟨v', A', u', h', rfl⟩
    conv => whnf
    exact RetX.drop (h' := join hi hm') (Ext.j2 hE hd' (Ext.refl _)) (hk hm' v' (by rw [warmW_eq]; exact A') (u'.le (newA_le v a) (by omega) (by omega) (by omega)) h')
def dr68b : List (Nat × List (List Nat) × List Nat) := [(1, [[], [0], [0, 1], [0, 1, 2], [0, 1, 2, 3], [0, 1, 2, 3, 4], [], [6], [6, 7], [6, 7, 8], [6, 7, 8, 9], [6, 7, 8, 9, 10], [], [12], [12, 13], [12, 13, 14], [12, 13, 14, 15], [12, 13, 14, 15, 16], [], [18], [18, 19], [18, 19, 20], [0, 1, 2, 3, 4, 5], [0, 1, 2, 3, 4, 5, 6, 7, 8, 9, 10, 11, 22], [0, 1, 2, 3, 4, 5, 6, 7, 8, 9, 10, 11, 12, 13, 14, 15, 16, 17, 22, 23], [0, 1, 2, 3, 4, 5, 6, 7, 8, 9, 10, 11, 12, 13, 14, 15, 16, 17, 18, 19, 20, 21, 22, 23, 24]], [0, 1, 2, 3, 4, 5, 6, 7, 8, 9, 10, 11, 12, 13, 14, 15, 16, 17, 18, 19, 20, 21, 22, 23, 24, 25])]
set_option maxRecDepth 100000 in
set_option maxHeartbeats 4000000 in
theorem sizes_ok (A : VA hi hm eb (mC eb m) w sn v) (he : Ext (join hi hm) h) (hk : K (.tuple #[.int .i32 v.aL.length, .int .i32 v.sL.length, .int .i32 v.jL.length, .int .i32 v.nm]) h) : CallX Hval.prog 68 [.pointer (some ⟨eb, 2435, none⟩)] h K := by
  have hb := A.blk he
  have hc := A.V.cok
  have f1 : v.aL.length ≤ 2560 := hc.fewA
  have f2 : v.sL.length ≤ 2560 := hc.fewS
  have f3 : v.jL.length ≤ 65536 := hc.fewJ
  have l1 := A.V.aT.len
  have l2 := A.V.sT.len
  have l3 := A.V.jT.len
  rw [List.length_map] at l1 l2 l3
  refine CallX.of_xf T_ok Hval.func68 rfl (by kernel_rfl) (Nat.le_of_ble_eq_true rfl) ?_; conv => whnf
  refine DrawX.go T_ok hM Hval.func68 (tb := dr68b) rfl (by kernel_rfl) ?_; conv => whnf
  refine LoadX.fx hb 2435 rfl (by omega) (eC_a _ _) ?_; conv => whnf
  refine LoadX.fx hb 2436 rfl (by omega) (eC_s _ _) ?_; conv => whnf
  refine LoadX.fx hb 10629 rfl (by omega) (eC_j _ _) ?_; conv => whnf
  refine LoadX.fx hb 27014 rfl (by omega) (eC_nm _ _) ?_; conv => whnf
  refine RetX.same ?_
  have w1 : ∀ n : Nat, n ≤ 65536 → IntKind.i32.wrap (n : Int) = n := fun n hn => by simp [IntKind.wrap, IntKind.signed, IntKind.bits]; omega
  rw [← l1, ← l2, ← l3, w1 _ (by omega), w1 _ (by omega), w1 _ f3]
  exact hk
set_option maxRecDepth 100000 in
set_option maxHeartbeats 4000000 in
theorem spacious_ok (A : VA hi hm eb (mC eb m) w sn v) (hmt : m.mtop = 0) (htop : m.top = -1) (h1 : v.aL.length ≤ 100) (h2 : v.sL.length ≤ 100) (h3 : v.jL.length ≤ 100) (h4 : v.nm = 0) (he : Ext (join hi hm) h) (hk : K (.bool true) h) : CallX Hval.prog 67 [.pointer (some ⟨eb, 0, none⟩)] h K := by
  have hb := A.blk he
  refine CallX.of_xf T_ok Hval.func67 rfl (by kernel_rfl) (Nat.le_of_ble_eq_true rfl) ?_; conv => whnf
  refine LoadX.fx hb 0 rfl (by omega) mR_S ?_; conv => whnf
  refine sizes_ok A he ?_
  rw [h4]; conv => whnf
  refine CondX.dT (by omega) ?_; conv => whnf
  repeat (first | (refine CondX.tt ?_; conv => whnf) | (refine CondX.ff ?_; conv => whnf))
  refine CondX.dT (by omega) ?_; conv => whnf
  repeat (first | (refine CondX.tt ?_; conv => whnf) | (refine CondX.ff ?_; conv => whnf))
  refine CondX.dT (by omega) ?_; conv => whnf
  repeat (first | (refine CondX.tt ?_; conv => whnf) | (refine CondX.ff ?_; conv => whnf))
  refine LoadX.fx hb 10 rfl (by omega) (x := .int .u8 0) (mR_mtop.trans (congrArg _ hmt)) ?_; conv => whnf
  repeat (first | (refine CondX.tt ?_; conv => whnf) | (refine CondX.ff ?_; conv => whnf))
  refine LoadX.fx hb 2258 rfl (by omega) (x := .int .i8 (-1)) (mR_top.trans (congrArg _ htop)) ?_; conv => whnf
  repeat (first | (refine CondX.tt ?_; conv => whnf) | (refine CondX.ff ?_; conv => whnf))
  exact RetX.same hk
set_option maxRecDepth 100000 in
set_option maxHeartbeats 4000000 in
theorem warmList_ok (hk : K (.tuple #[]) h) : CallX Hval.prog 77 [.pointer (some ⟨eb, 2435, none⟩), .slice none 0 0] h K := by
  refine CallX.of_xf T_ok Hval.func77 rfl (by kernel_rfl) (Nat.le_of_ble_eq_true rfl) ?_; conv => whnf
  refine LoopX.st T_ok Hval.func77 (σ := Unit) (fun _ => [(10, .int .i64 0), (11, .int .i64 0)]) (fun _ h' => h' = h) (fun _ => 0) () ⟨rfl, rfl, trivial⟩ rfl ?_
  rintro i ρ h' rfl ih
  conv => whnf
  repeat (first | (refine CondX.tt ?_; conv => whnf) | (refine CondX.ff ?_; conv => whnf))
  exact RetX.same hk
end
end Go.Proofs.YgvalwGreat.X
