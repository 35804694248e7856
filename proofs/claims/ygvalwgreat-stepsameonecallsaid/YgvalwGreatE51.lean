import Derived.Test.YgvalwGreatE50
set_option linter.unusedVariables false
set_option linter.unusedSimpArgs false
namespace Go.Proofs.YgvalwGreat.X
open Go

section
variable {hi hi0 hi' hm hm' : Hp} {K : Value → Hp → Prop} {mc : Nat → Value} {v : VS} {eb : Nat} {w : AW} {sn : List AW} {a : List Int}
set_option maxRecDepth 100000 in
set_option maxHeartbeats 4000000 in
theorem putBalance_ok {k : Nat} (hl : a.length = 20) (hB : isB a) (hkW : (k : Int) < W) (A : VA hi hm eb mc w sn v) (hrA : v.aL.length < 2560) (hrJ : v.jL.length < 65536)
    (hk : ∀ hm' v', VA hi hm' eb mc (balW w a k) sn v' → Up v v' (newA v a) 0 0 1 → hasA v' a = true → K (.bool true) (join hi hm')) : CallX Hval.prog 73 [.pointer (some ⟨eb, 2435, none⟩), .agg (bcells a).toArray, .agg (wc k).toArray] (join hi hm) K := by
  have hkr : 0 ≤ (k : Int) ∧ (k : Int) < W := ⟨by omega, hkW⟩
  have V := A.V
  have hjl := V.jT.len
  rw [List.length_map] at hjl
  refine CallX.of_xf T_ok Hval.func73 rfl (by kernel_rfl) (Nat.le_of_ble_eq_true rfl) ?_; conv => whnf
  refine BoxX.j V.dj fun n1 hin hmn hd1 he1 => ?_; conv => whnf
  refine BoxX.j hd1 fun n2 hin2 hmn2 hd1 he2 => ?_; conv => whnf
  have bx1 : (hput (hput hi n1 ((bcells a).toArray.toList, 31)) n2 ((wc k).toArray.toList, 75)) n1 = some (bcells a, 31) := he2 _ _ (hput_same ..)
  have bx2 : (hput (hput hi n1 ((bcells a).toArray.toList, 31)) n2 ((wc k).toArray.toList, 75)) n2 = some (wc k, 75) := hput_same ..
  have hE := he1.trans he2
  generalize hput (hput hi n1 ((bcells a).toArray.toList, 31)) n2 ((wc k).toArray.toList, 75) = hi1 at *
  have alen : (bcells a).length = (31, y31).snd.size := by rw [bcells_len, hl]; rfl
  refine room_ok (join_hm hd1 V.blk) (by omega) ?_; conv => whnf
  repeat (first | (refine CondX.tt ?_; conv => whnf) | (refine CondX.ff ?_; conv => whnf))
  refine LoadX.all (join_l bx1) alen ?_; conv => whnf
  refine acct_b hE hd1 hl hB V hrA fun hm2 v2 hd2 V2 hc2 => ?_; conv => whnf
  repeat (first | (refine CondX.tt ?_; conv => whnf) | (refine CondX.ff ?_; conv => whnf))
  have hb2 := join_hm hd2 V2.blk
  refine DrawX.go T_ok hM Hval.func73 (tb := dr73) rfl (by kernel_rfl) ?_; conv => whnf
  refine LoadX.fn hb2 10629 rfl (by omega) ?_
  rw [eC_j]; conv => whnf
  refine LoadX.fn hb2 2435 rfl (by omega) ?_
  rw [eC_a]; conv => whnf
  have hc2a : v2.aL = (cAcct v.core a).aL := congrArg VCore.aL hc2
  have hi2 : atA v.core a < v2.aL.length := by rw [hc2a]; exact atA_lt
  have hal := V2.aT.len
  rw [List.length_map] at hal
  have C2 : COK v2.core := V2.cok
  have hx20 : (v2.aL.getD (atA v.core a) dA).addr.length = 20 := (C2.awf _ (getDm hi2)).1.1
  refine IdxX.tag V2.aT (by omega) (by omega) fun ma hma => ?_; conv => whnf
  have ld : ldV true 4 (join hi1 hm2) ma (0 + atA v.core a * 29 + 21) = some (.agg (wc (v2.aL.getD (atA v.core a) dA).bal).toArray) := by
    rw [(V2.aT.arr hd2).seg hma (by omega) (by omega), getMap (d := dA) hi2, aC_seg hx20]
  refine LoadX.of _ ld ?_; conv => whnf
  obtain ⟨x, hx⟩ : ∃ x, x = v2.aL.getD (atA v.core a) dA := ⟨_, rfl⟩
  rw [← hx] at hx20 ld ⊢
  refine Ob.mk (by first | decide | omega) ?_; conv => whnf
  refine BoxX.j (vs := jCells ⟨0, atA v.core a, 0, x.bal, nilS, [], false⟩) hd2 fun m8 hin8 hmn8 hd8 he8 => ?_; conv => whnf
  have hb8 := join_hm hd8 V2.blk
  have ld8 : ldV true 4 (join (hput hi1 m8 (jCells ⟨0, atA v.core a, 0, x.bal, nilS, [], false⟩, 250)) hm2) ma (0 + atA v.core a * 29 + 21) = some (.agg (wc x.bal).toArray) := by
    rw [(V2.aT.arr hd8).seg hma (by omega) (by omega), getMap (d := dA) hi2, ← hx, aC_seg hx20]
  repeat (refine Ob.mk (by first | exact ldV_fn hb8 10629 rfl (by omega) | exact ldV_fn hb8 2435 rfl (by omega) | exact ld8) ?_; conv => whnf)
  have hjl2 := V2.jT.len
  rw [List.length_map] at hjl2
  have hjc : v2.jL = v.jL := (congrArg VCore.jL hc2).trans (cAcct_all V.cok hl hB hrA).2.2.2.1
  refine AppendX.tag (new := jCells ⟨0, atA v.core a, 0, x.bal, nilS, [], false⟩) hd8 V2.jT (rd_ext (Ext.jl _ _) (rd_own rfl)) rfl rfl rfl (by decide) (Nat.le_trans (Nat.mul_le_mul_right _ (show v2.jS.2.1 + 1 ≤ 65536 by rw [← hjl2, hjc]; omega)) (by decide)) fun s' hm3 hd3 jT3 kp3 => ?_; conv => whnf
  have hb3 := kp3 _ _ _ (by decide) V2.blk
  refine StoreX.jf hd3 hb3 10629 rfl (by omega) fun hd4 => ?_
  rw [show Value.slice s'.1 s'.2.1 s'.2.2 = sl s' from rfl, eU_j] at hd4 ⊢; conv => whnf
  have hEx := hE.trans he8
  have eok : EJ.ok v2.core ⟨0, atA v.core a, 0, x.bal, nilS, [], false⟩ := ejA_ok C2 (by decide) hi2
  have CJ := cokJ C2 eok ⟨Int.le_refl 0, by show (0 : Int) < 18446744073709551616; decide⟩ (by rw [hx]; exact (C2.awf _ (getDm hi2)).2.2) (by rw [show v2.core.jL = v2.jL from rfl, hjc]; exact hrJ)
  have V3 := V2.setJ (hd3.le hEx) kp3 (s' := s') (jL' := v2.jL ++ [⟨0, atA v.core a, 0, x.bal, nilS, [], false⟩]) (by rw [List.map_append]; exact jT3) (fun y hy => by
    rcases List.mem_append.1 hy with h1 | h1
    · exact V2.jc y h1
    · rw [List.mem_singleton.1 h1]; exact Byt_nil hi) CJ
  refine DrawX.go T_ok hM Hval.func73 (tb := dr73) rfl (by kernel_rfl) ?_; conv => whnf
  refine LoadX.fn (join_hm hd4 V3.blk) 2435 rfl (by omega) ?_
  rw [eC_a]; conv => whnf
  refine LoadX.all (join_l (he8 _ _ bx2)) rfl ?_; conv => whnf
  refine IdxX.tag V3.aT (by show (0 : Int) ≤ atA v.core a; omega) (by show ((atA v.core a : Nat) : Int) < v2.aS.2.1; omega) fun mb hmb => ?_; conv => whnf
  refine Ob.mk ⟨rfl, rfl⟩ ?_; conv => whnf
  have hxm : x ∈ v2.aL := by rw [hx]; exact getDm hi2
  have hxw := C2.awf x hxm
  refine StoreX.tag hd4 V3.aT hmb (k := atA v.core a) (o := 21) (new := aCells { x with bal := k }) (by show atA v.core a < v2.aS.2.1; omega) (Nat.le_of_ble_eq_true rfl) (by show 0 + atA v.core a * 29 + 21 = _; omega) (by show setSeg ((v2.aL.map aCells).getD _ []) _ _ = _; rw [getMap (d := dA) hi2, ← hx]; exact aS_bal hx20 k) (aCells_one _) fun hm4 hd5 aT4 kp4 => ?_; conv => whnf
  refine RetX.drop (h' := join hi hm4) (Ext.j2 hEx hd5 (Ext.refl _)) ?_
  have CA : COK { v2.core with aL := v2.aL.set (atA v.core a) { x with bal := k } } := cokA C2 hi2 (by rw [hx]; rfl) hxw.2.1 hkr
  have CF : COK { v2.core with jL := v2.jL ++ [⟨0, atA v.core a, 0, x.bal, nilS, [], false⟩], aL := v2.aL.set (atA v.core a) { x with bal := k } } := cokA (c := { v2.core with jL := v2.jL ++ [⟨0, atA v.core a, 0, x.bal, nilS, [], false⟩] }) CJ hi2 (by rw [hx]; rfl) hxw.2.1 hkr
  have V4 := V3.modA (Ext.refl hi) (hd5.le hEx) kp4 (i := atA v.core a) (x := { x with bal := k }) hi2 (by rw [hx]) (by show ArrT hm4 230 v2.aS 29 ((v2.aL.set _ _).map aCells); rw [List.map_set]; exact aT4) (V2.ac x hxm) CF
  have hnm : nameA v2.core (atA v.core a) = a := by rw [hc2]; exact (cAcct_all V.cok hl hB hrA).2.2.2.2.2.2.2.2
  have hab : absC v2.core = w := by rw [hc2, (cAcct_all V.cok hl hB hrA).2.1]; exact A.abs
  have hsw := set_bal C2 hi2 k (by rw [show v2.core.aL = v2.aL from rfl, ← hx]; exact CA)
  rw [hnm, hab, show v2.core.aL = v2.aL from rfl, ← hx] at hsw
  obtain ⟨f1, f2, f3, f4⟩ := finA (v4 := _) V.cok A.hist hl hB hrA hc2 C2 (x' := { x with bal := k }) (by rw [hx]) eok V4.cok rfl hsw (by
    show balW (balW w a k) (nameA v2.core (atA v.core a)) x.bal = _
    have := bal_at C2 hi2
    rw [hnm, hab, show v2.core.aL = v2.aL from rfl, ← hx] at this
    rw [hnm, hab, ← this]; exact bal_back w a k)
  exact hk _ _ ⟨V4, f1, f2, fun y hy => A.orig y (by rw [show v.sL = v.core.sL from rfl, ← (cAcct_all V.cok hl hB hrA).2.2.2.2.2.2.1, ← hc2]; exact hy)⟩ f3 f4
end
end Go.Proofs.YgvalwGreat.X
