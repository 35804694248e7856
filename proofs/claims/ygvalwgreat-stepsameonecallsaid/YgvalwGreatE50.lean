import Derived.Test.YgvalwGreatE49
set_option linter.unusedVariables false
set_option linter.unusedSimpArgs false
namespace Go.Proofs.YgvalwGreat.X
open Go


section
variable {hi hi0 hi' hm hm' : Hp} {K : Value → Hp → Prop} {mc : Nat → Value} {v : VS} {eb : Nat} {w : AW} {sn : List AW} {a : List Int}
set_option maxRecDepth 100000 in
set_option maxHeartbeats 4000000 in
theorem markMade_ok (hl : a.length = 20) (hB : isB a) (A : VA hi hm eb mc w sn v) (hrA : v.aL.length < 2560) (hrJ : v.jL.length < 65536)
    (hk : ∀ hm' v', VA hi hm' eb mc (mdW w a true) sn v' → Up v v' (newA v a) 0 0 1 → hasA v' a = true → K (.bool true) (join hi hm')) : CallX Hval.prog 167 [.pointer (some ⟨eb, 2435, none⟩), .agg (bcells a).toArray] (join hi hm) K := by
  have V := A.V
  have hjl := V.jT.len
  rw [List.length_map] at hjl
  refine CallX.of_xf T_ok Hval.func167 rfl (by kernel_rfl) (Nat.le_of_ble_eq_true rfl) ?_; conv => whnf
  refine BoxX.j V.dj fun n1 hin hmn hd1 hE => ?_; conv => whnf
  have bx1 : (hput hi n1 ((bcells a).toArray.toList, 31)) n1 = some (bcells a, 31) := hput_same ..
  generalize hput hi n1 ((bcells a).toArray.toList, 31) = hi1 at *
  have alen : (bcells a).length = (31, y31).snd.size := by rw [bcells_len, hl]; rfl
  refine room_ok (join_hm hd1 V.blk) (by omega) ?_; conv => whnf
  repeat (first | (refine CondX.tt ?_; conv => whnf) | (refine CondX.ff ?_; conv => whnf))
  refine LoadX.all (join_l bx1) alen ?_; conv => whnf
  refine acct_b hE hd1 hl hB V hrA fun hm2 v2 hd2 V2 hc2 => ?_; conv => whnf
  repeat (first | (refine CondX.tt ?_; conv => whnf) | (refine CondX.ff ?_; conv => whnf))
  have hb2 := join_hm hd2 V2.blk
  refine DrawX.go T_ok hM Hval.func167 (tb := dr167) rfl (by kernel_rfl) ?_; conv => whnf
  refine LoadX.fn hb2 10629 rfl (by omega) ?_
  rw [eC_j]; conv => whnf
  refine LoadX.fn hb2 2435 rfl (by omega) ?_
  rw [eC_a]; conv => whnf
  have hc2a : v2.aL = (cAcct v.core a).aL := congrArg VCore.aL hc2
  have hi2 : atA v.core a < v2.aL.length := by rw [hc2a]; exact atA_lt
  have hal := V2.aT.len
  rw [List.length_map] at hal
  have C2 : COK v2.core := V2.cok
  have hx20 : (v2.aL.getD (atA v.core a) dA).addr.length = 20 := (C2.awf _ (getDm hi2)).1.1
  refine IdxX.tag V2.aT (by omega) (by omega) fun ma hma => ?_; conv => whnf
  have ld : ldV false 1 (join hi1 hm2) ma (0 + atA v.core a * 29 + 27) = some (.bool (v2.aL.getD (atA v.core a) dA).made) := by
    rw [(V2.aT.arr hd2).fld hma (by omega) (by omega), getMap (d := dA) hi2]; exact aC_at hx20 7
  refine LoadX.of _ ld ?_; conv => whnf
  obtain ⟨x, hx⟩ : ∃ x, x = v2.aL.getD (atA v.core a) dA := ⟨_, rfl⟩
  rw [← hx] at hx20 ld ⊢
  refine Ob.mk (by first | decide | omega) ?_; conv => whnf
  refine BoxX.j (vs := jCells ⟨9, atA v.core a, 0, 0, nilS, [], x.made⟩) hd2 fun m8 hin8 hmn8 hd8 he8 => ?_; conv => whnf
  have hb8 := join_hm hd8 V2.blk
  have ld8 : ldV false 1 (join (hput hi1 m8 (jCells ⟨9, atA v.core a, 0, 0, nilS, [], x.made⟩, 250)) hm2) ma (0 + atA v.core a * 29 + 27) = some (.bool x.made) := by
    rw [(V2.aT.arr hd8).fld hma (by omega) (by omega), getMap (d := dA) hi2, ← hx]; exact aC_at hx20 7
  repeat (refine Ob.mk (by first | exact ldV_fn hb8 10629 rfl (by omega) | exact ldV_fn hb8 2435 rfl (by omega) | exact ld8) ?_; conv => whnf)
  have hjl2 := V2.jT.len
  rw [List.length_map] at hjl2
  have hjc : v2.jL = v.jL := (congrArg VCore.jL hc2).trans (cAcct_all V.cok hl hB hrA).2.2.2.1
  refine AppendX.tag (new := jCells ⟨9, atA v.core a, 0, 0, nilS, [], x.made⟩) hd8 V2.jT (rd_ext (Ext.jl _ _) (rd_own rfl)) rfl rfl rfl (by decide) (Nat.le_trans (Nat.mul_le_mul_right _ (show v2.jS.2.1 + 1 ≤ 65536 by rw [← hjl2, hjc]; omega)) (by decide)) fun s' hm3 hd3 jT3 kp3 => ?_; conv => whnf
  have hb3 := kp3 _ _ _ (by decide) V2.blk
  refine StoreX.jf hd3 hb3 10629 rfl (by omega) fun hd4 => ?_
  rw [show Value.slice s'.1 s'.2.1 s'.2.2 = sl s' from rfl, eU_j] at hd4 ⊢; conv => whnf
  have hEx := hE.trans he8
  have eok : EJ.ok v2.core ⟨9, atA v.core a, 0, 0, nilS, [], x.made⟩ := ejA_ok C2 (by decide) hi2
  have CJ := cokJ C2 eok ⟨Int.le_refl 0, by show (0 : Int) < 18446744073709551616; decide⟩ ⟨Int.le_refl 0, W_pos⟩ (by rw [show v2.core.jL = v2.jL from rfl, hjc]; exact hrJ)
  have V3 := V2.setJ (hd3.le hEx) kp3 (s' := s') (jL' := v2.jL ++ [⟨9, atA v.core a, 0, 0, nilS, [], x.made⟩]) (by rw [List.map_append]; exact jT3) (fun y hy => by
    rcases List.mem_append.1 hy with h1 | h1
    · exact V2.jc y h1
    · rw [List.mem_singleton.1 h1]; exact Byt_nil hi) CJ
  refine LoadX.fn (join_hm hd4 V3.blk) 2435 rfl (by omega) ?_
  rw [eC_a]; conv => whnf
  refine IdxX.tag V3.aT (by show (0 : Int) ≤ atA v.core a; omega) (by show ((atA v.core a : Nat) : Int) < v2.aS.2.1; omega) fun mb hmb => ?_; conv => whnf
  have hxm : x ∈ v2.aL := by rw [hx]; exact getDm hi2
  have hxw := C2.awf x hxm
  refine StoreX.tag hd4 V3.aT hmb (k := atA v.core a) (o := 27) (new := aCells { x with made := true }) (by show atA v.core a < v2.aS.2.1; omega) (Nat.le_of_ble_eq_true rfl) (by show 0 + atA v.core a * 29 + 27 = _; omega) (by show setSeg ((v2.aL.map aCells).getD _ []) _ _ = _; rw [getMap (d := dA) hi2, ← hx]; exact aS_made hx20 true) (aCells_one _) fun hm4 hd5 aT4 kp4 => ?_; conv => whnf
  refine RetX.drop (h' := join hi hm4) (Ext.j2 hEx hd5 (Ext.refl _)) ?_
  have CA : COK { v2.core with aL := v2.aL.set (atA v.core a) { x with made := true } } := cokA C2 hi2 (by rw [hx]; rfl) hxw.2.1 hxw.2.2
  have CF : COK { v2.core with jL := v2.jL ++ [⟨9, atA v.core a, 0, 0, nilS, [], x.made⟩], aL := v2.aL.set (atA v.core a) { x with made := true } } := cokA (c := { v2.core with jL := v2.jL ++ [⟨9, atA v.core a, 0, 0, nilS, [], x.made⟩] }) CJ hi2 (by rw [hx]; rfl) hxw.2.1 hxw.2.2
  have V4 := V3.modA (Ext.refl hi) (hd5.le hEx) kp4 (i := atA v.core a) (x := { x with made := true }) hi2 (by rw [hx]) (by show ArrT hm4 230 v2.aS 29 ((v2.aL.set _ _).map aCells); rw [List.map_set]; exact aT4) (V2.ac x hxm) CF
  have hnm : nameA v2.core (atA v.core a) = a := by rw [hc2]; exact (cAcct_all V.cok hl hB hrA).2.2.2.2.2.2.2.2
  have hab : absC v2.core = w := by rw [hc2, (cAcct_all V.cok hl hB hrA).2.1]; exact A.abs
  have hsw := set_made C2 hi2 true (by rw [show v2.core.aL = v2.aL from rfl, ← hx]; exact CA)
  rw [hnm, hab, show v2.core.aL = v2.aL from rfl, ← hx] at hsw
  obtain ⟨f1, f2, f3, f4⟩ := finA (v4 := _) V.cok A.hist hl hB hrA hc2 C2 (x' := { x with made := true }) (by rw [hx]) eok V4.cok rfl hsw (by
    show mdW (mdW w a true) (nameA v2.core (atA v.core a)) x.made = _
    have := made_at C2 hi2
    rw [hnm, hab, show v2.core.aL = v2.aL from rfl, ← hx] at this
    rw [hnm, hab, ← this]; exact md_back w a true)
  exact hk _ _ ⟨V4, f1, f2, fun y hy => A.orig y (by rw [show v.sL = v.core.sL from rfl, ← (cAcct_all V.cok hl hB hrA).2.2.2.2.2.2.1, ← hc2]; exact hy)⟩ f3 f4
set_option maxRecDepth 100000 in
set_option maxHeartbeats 4000000 in
theorem markGone_ok (hl : a.length = 20) (hB : isB a) (A : VA hi hm eb mc w sn v) (hrA : v.aL.length < 2560) (hrJ : v.jL.length < 65536)
    (hk : ∀ hm' v', VA hi hm' eb mc (gnW w a true) sn v' → Up v v' (newA v a) 0 0 1 → hasA v' a = true → K (.bool true) (join hi hm')) : CallX Hval.prog 297 [.pointer (some ⟨eb, 2435, none⟩), .agg (bcells a).toArray] (join hi hm) K := by
  have V := A.V
  have hjl := V.jT.len
  rw [List.length_map] at hjl
  refine CallX.of_xf T_ok Hval.func297 rfl (by kernel_rfl) (Nat.le_of_ble_eq_true rfl) ?_; conv => whnf
  refine BoxX.j V.dj fun n1 hin hmn hd1 hE => ?_; conv => whnf
  have bx1 : (hput hi n1 ((bcells a).toArray.toList, 31)) n1 = some (bcells a, 31) := hput_same ..
  generalize hput hi n1 ((bcells a).toArray.toList, 31) = hi1 at *
  have alen : (bcells a).length = (31, y31).snd.size := by rw [bcells_len, hl]; rfl
  refine room_ok (join_hm hd1 V.blk) (by omega) ?_; conv => whnf
  repeat (first | (refine CondX.tt ?_; conv => whnf) | (refine CondX.ff ?_; conv => whnf))
  refine LoadX.all (join_l bx1) alen ?_; conv => whnf
  refine acct_b hE hd1 hl hB V hrA fun hm2 v2 hd2 V2 hc2 => ?_; conv => whnf
  repeat (first | (refine CondX.tt ?_; conv => whnf) | (refine CondX.ff ?_; conv => whnf))
  have hb2 := join_hm hd2 V2.blk
  refine DrawX.go T_ok hM Hval.func297 (tb := dr297) rfl (by kernel_rfl) ?_; conv => whnf
  refine LoadX.fn hb2 10629 rfl (by omega) ?_
  rw [eC_j]; conv => whnf
  refine LoadX.fn hb2 2435 rfl (by omega) ?_
  rw [eC_a]; conv => whnf
  have hc2a : v2.aL = (cAcct v.core a).aL := congrArg VCore.aL hc2
  have hi2 : atA v.core a < v2.aL.length := by rw [hc2a]; exact atA_lt
  have hal := V2.aT.len
  rw [List.length_map] at hal
  have C2 : COK v2.core := V2.cok
  have hx20 : (v2.aL.getD (atA v.core a) dA).addr.length = 20 := (C2.awf _ (getDm hi2)).1.1
  refine IdxX.tag V2.aT (by omega) (by omega) fun ma hma => ?_; conv => whnf
  have ld : ldV false 1 (join hi1 hm2) ma (0 + atA v.core a * 29 + 28) = some (.bool (v2.aL.getD (atA v.core a) dA).gone) := by
    rw [(V2.aT.arr hd2).fld hma (by omega) (by omega), getMap (d := dA) hi2]; exact aC_at hx20 8
  refine LoadX.of _ ld ?_; conv => whnf
  obtain ⟨x, hx⟩ : ∃ x, x = v2.aL.getD (atA v.core a) dA := ⟨_, rfl⟩
  rw [← hx] at hx20 ld ⊢
  refine Ob.mk (by first | decide | omega) ?_; conv => whnf
  refine BoxX.j (vs := jCells ⟨10, atA v.core a, 0, 0, nilS, [], x.gone⟩) hd2 fun m8 hin8 hmn8 hd8 he8 => ?_; conv => whnf
  have hb8 := join_hm hd8 V2.blk
  have ld8 : ldV false 1 (join (hput hi1 m8 (jCells ⟨10, atA v.core a, 0, 0, nilS, [], x.gone⟩, 250)) hm2) ma (0 + atA v.core a * 29 + 28) = some (.bool x.gone) := by
    rw [(V2.aT.arr hd8).fld hma (by omega) (by omega), getMap (d := dA) hi2, ← hx]; exact aC_at hx20 8
  repeat (refine Ob.mk (by first | exact ldV_fn hb8 10629 rfl (by omega) | exact ldV_fn hb8 2435 rfl (by omega) | exact ld8) ?_; conv => whnf)
  have hjl2 := V2.jT.len
  rw [List.length_map] at hjl2
  have hjc : v2.jL = v.jL := (congrArg VCore.jL hc2).trans (cAcct_all V.cok hl hB hrA).2.2.2.1
  refine AppendX.tag (new := jCells ⟨10, atA v.core a, 0, 0, nilS, [], x.gone⟩) hd8 V2.jT (rd_ext (Ext.jl _ _) (rd_own rfl)) rfl rfl rfl (by decide) (Nat.le_trans (Nat.mul_le_mul_right _ (show v2.jS.2.1 + 1 ≤ 65536 by rw [← hjl2, hjc]; omega)) (by decide)) fun s' hm3 hd3 jT3 kp3 => ?_; conv => whnf
  have hb3 := kp3 _ _ _ (by decide) V2.blk
  refine StoreX.jf hd3 hb3 10629 rfl (by omega) fun hd4 => ?_
  rw [show Value.slice s'.1 s'.2.1 s'.2.2 = sl s' from rfl, eU_j] at hd4 ⊢; conv => whnf
  have hEx := hE.trans he8
  have eok : EJ.ok v2.core ⟨10, atA v.core a, 0, 0, nilS, [], x.gone⟩ := ejA_ok C2 (by decide) hi2
  have CJ := cokJ C2 eok ⟨Int.le_refl 0, by show (0 : Int) < 18446744073709551616; decide⟩ ⟨Int.le_refl 0, W_pos⟩ (by rw [show v2.core.jL = v2.jL from rfl, hjc]; exact hrJ)
  have V3 := V2.setJ (hd3.le hEx) kp3 (s' := s') (jL' := v2.jL ++ [⟨10, atA v.core a, 0, 0, nilS, [], x.gone⟩]) (by rw [List.map_append]; exact jT3) (fun y hy => by
    rcases List.mem_append.1 hy with h1 | h1
    · exact V2.jc y h1
    · rw [List.mem_singleton.1 h1]; exact Byt_nil hi) CJ
  refine LoadX.fn (join_hm hd4 V3.blk) 2435 rfl (by omega) ?_
  rw [eC_a]; conv => whnf
  refine IdxX.tag V3.aT (by show (0 : Int) ≤ atA v.core a; omega) (by show ((atA v.core a : Nat) : Int) < v2.aS.2.1; omega) fun mb hmb => ?_; conv => whnf
  have hxm : x ∈ v2.aL := by rw [hx]; exact getDm hi2
  have hxw := C2.awf x hxm
  refine StoreX.tag hd4 V3.aT hmb (k := atA v.core a) (o := 28) (new := aCells { x with gone := true }) (by show atA v.core a < v2.aS.2.1; omega) (Nat.le_of_ble_eq_true rfl) (by show 0 + atA v.core a * 29 + 28 = _; omega) (by show setSeg ((v2.aL.map aCells).getD _ []) _ _ = _; rw [getMap (d := dA) hi2, ← hx]; exact aS_gone hx20 true) (aCells_one _) fun hm4 hd5 aT4 kp4 => ?_; conv => whnf
  refine RetX.drop (h' := join hi hm4) (Ext.j2 hEx hd5 (Ext.refl _)) ?_
  have CA : COK { v2.core with aL := v2.aL.set (atA v.core a) { x with gone := true } } := cokA C2 hi2 (by rw [hx]; rfl) hxw.2.1 hxw.2.2
  have CF : COK { v2.core with jL := v2.jL ++ [⟨10, atA v.core a, 0, 0, nilS, [], x.gone⟩], aL := v2.aL.set (atA v.core a) { x with gone := true } } := cokA (c := { v2.core with jL := v2.jL ++ [⟨10, atA v.core a, 0, 0, nilS, [], x.gone⟩] }) CJ hi2 (by rw [hx]; rfl) hxw.2.1 hxw.2.2
  have V4 := V3.modA (Ext.refl hi) (hd5.le hEx) kp4 (i := atA v.core a) (x := { x with gone := true }) hi2 (by rw [hx]) (by show ArrT hm4 230 v2.aS 29 ((v2.aL.set _ _).map aCells); rw [List.map_set]; exact aT4) (V2.ac x hxm) CF
  have hnm : nameA v2.core (atA v.core a) = a := by rw [hc2]; exact (cAcct_all V.cok hl hB hrA).2.2.2.2.2.2.2.2
  have hab : absC v2.core = w := by rw [hc2, (cAcct_all V.cok hl hB hrA).2.1]; exact A.abs
  have hsw := set_gone C2 hi2 true (by rw [show v2.core.aL = v2.aL from rfl, ← hx]; exact CA)
  rw [hnm, hab, show v2.core.aL = v2.aL from rfl, ← hx] at hsw
  obtain ⟨f1, f2, f3, f4⟩ := finA (v4 := _) V.cok A.hist hl hB hrA hc2 C2 (x' := { x with gone := true }) (by rw [hx]) eok V4.cok rfl hsw (by
    show gnW (gnW w a true) (nameA v2.core (atA v.core a)) x.gone = _
    have := gone_at C2 hi2
    rw [hnm, hab, show v2.core.aL = v2.aL from rfl, ← hx] at this
    rw [hnm, hab, ← this]; exact gn_back w a true)
  exact hk _ _ ⟨V4, f1, f2, fun y hy => A.orig y (by rw [show v.sL = v.core.sL from rfl, ← (cAcct_all V.cok hl hB hrA).2.2.2.2.2.2.1, ← hc2]; exact hy)⟩ f3 f4
theorem nonce_at {c : VCore} {i : Nat} (C : COK c) (h : i < c.aL.length) : ((absC c).acct (nameA c i)).nonce = (c.aL.getD i dA).nonce := by show (gA c (nameA c i)).nonce = _; rw [gA_at C h]
theorem bal_at {c : VCore} {i : Nat} (C : COK c) (h : i < c.aL.length) : ((absC c).acct (nameA c i)).bal = (c.aL.getD i dA).bal := by show (gA c (nameA c i)).bal = _; rw [gA_at C h]
theorem code_at {c : VCore} {i : Nat} (C : COK c) (h : i < c.aL.length) : ((absC c).acct (nameA c i)).code = (c.aL.getD i dA).code := by show (gA c (nameA c i)).code = _; rw [gA_at C h]
set_option maxRecDepth 100000 in
set_option maxHeartbeats 4000000 in
theorem putNonce_ok {n : Int} (hl : a.length = 20) (hB : isB a) (hn : 0 ≤ n ∧ n < 18446744073709551616) (A : VA hi hm eb mc w sn v) (hrA : v.aL.length < 2560) (hrJ : v.jL.length < 65536)
    (hk : ∀ hm' v', VA hi hm' eb mc (nonceW w a n) sn v' → Up v v' (newA v a) 0 0 1 → hasA v' a = true → K (.bool true) (join hi hm')) : CallX Hval.prog 72 [.pointer (some ⟨eb, 2435, none⟩), .agg (bcells a).toArray, .int .u64 n] (join hi hm) K := by
  have V := A.V
  have hjl := V.jT.len
  rw [List.length_map] at hjl
  refine CallX.of_xf T_ok Hval.func72 rfl (by kernel_rfl) (Nat.le_of_ble_eq_true rfl) ?_; conv => whnf
  refine BoxX.j V.dj fun n1 hin hmn hd1 hE => ?_; conv => whnf
  have bx1 : (hput hi n1 ((bcells a).toArray.toList, 31)) n1 = some (bcells a, 31) := hput_same ..
  generalize hput hi n1 ((bcells a).toArray.toList, 31) = hi1 at *
  have alen : (bcells a).length = (31, y31).snd.size := by rw [bcells_len, hl]; rfl
  refine room_ok (join_hm hd1 V.blk) (by omega) ?_; conv => whnf
  repeat (first | (refine CondX.tt ?_; conv => whnf) | (refine CondX.ff ?_; conv => whnf))
  refine LoadX.all (join_l bx1) alen ?_; conv => whnf
  refine acct_b hE hd1 hl hB V hrA fun hm2 v2 hd2 V2 hc2 => ?_; conv => whnf
  repeat (first | (refine CondX.tt ?_; conv => whnf) | (refine CondX.ff ?_; conv => whnf))
  have hb2 := join_hm hd2 V2.blk
  refine DrawX.go T_ok hM Hval.func72 (tb := dr72) rfl (by kernel_rfl) ?_; conv => whnf
  refine LoadX.fn hb2 10629 rfl (by omega) ?_
  rw [eC_j]; conv => whnf
  refine LoadX.fn hb2 2435 rfl (by omega) ?_
  rw [eC_a]; conv => whnf
  have hc2a : v2.aL = (cAcct v.core a).aL := congrArg VCore.aL hc2
  have hi2 : atA v.core a < v2.aL.length := by rw [hc2a]; exact atA_lt
  have hal := V2.aT.len
  rw [List.length_map] at hal
  have C2 : COK v2.core := V2.cok
  have hx20 : (v2.aL.getD (atA v.core a) dA).addr.length = 20 := (C2.awf _ (getDm hi2)).1.1
  refine IdxX.tag V2.aT (by omega) (by omega) fun ma hma => ?_; conv => whnf
  have ld : ldV false 1 (join hi1 hm2) ma (0 + atA v.core a * 29 + 20) = some (.int .u64 (v2.aL.getD (atA v.core a) dA).nonce) := by
    rw [(V2.aT.arr hd2).fld hma (by omega) (by omega), getMap (d := dA) hi2]; exact aC_at hx20 0
  refine LoadX.of _ ld ?_; conv => whnf
  obtain ⟨x, hx⟩ : ∃ x, x = v2.aL.getD (atA v.core a) dA := ⟨_, rfl⟩
  rw [← hx] at hx20 ld ⊢
  refine Ob.mk (by first | decide | omega) ?_; conv => whnf
  refine BoxX.j (vs := jCells ⟨1, atA v.core a, x.nonce, 0, nilS, [], false⟩) hd2 fun m8 hin8 hmn8 hd8 he8 => ?_; conv => whnf
  have hb8 := join_hm hd8 V2.blk
  have ld8 : ldV false 1 (join (hput hi1 m8 (jCells ⟨1, atA v.core a, x.nonce, 0, nilS, [], false⟩, 250)) hm2) ma (0 + atA v.core a * 29 + 20) = some (.int .u64 x.nonce) := by
    rw [(V2.aT.arr hd8).fld hma (by omega) (by omega), getMap (d := dA) hi2, ← hx]; exact aC_at hx20 0
  repeat (refine Ob.mk (by first | exact ldV_fn hb8 10629 rfl (by omega) | exact ldV_fn hb8 2435 rfl (by omega) | exact ld8) ?_; conv => whnf)
  have hjl2 := V2.jT.len
  rw [List.length_map] at hjl2
  have hjc : v2.jL = v.jL := (congrArg VCore.jL hc2).trans (cAcct_all V.cok hl hB hrA).2.2.2.1
  refine AppendX.tag (new := jCells ⟨1, atA v.core a, x.nonce, 0, nilS, [], false⟩) hd8 V2.jT (rd_ext (Ext.jl _ _) (rd_own rfl)) rfl rfl rfl (by decide) (Nat.le_trans (Nat.mul_le_mul_right _ (show v2.jS.2.1 + 1 ≤ 65536 by rw [← hjl2, hjc]; omega)) (by decide)) fun s' hm3 hd3 jT3 kp3 => ?_; conv => whnf
  have hb3 := kp3 _ _ _ (by decide) V2.blk
  refine StoreX.jf hd3 hb3 10629 rfl (by omega) fun hd4 => ?_
  rw [show Value.slice s'.1 s'.2.1 s'.2.2 = sl s' from rfl, eU_j] at hd4 ⊢; conv => whnf
  have hEx := hE.trans he8
  have eok : EJ.ok v2.core ⟨1, atA v.core a, x.nonce, 0, nilS, [], false⟩ := ejA_ok C2 (by decide) hi2
  have CJ := cokJ C2 eok (by rw [hx]; exact (C2.awf _ (getDm hi2)).2.1) ⟨Int.le_refl 0, W_pos⟩ (by rw [show v2.core.jL = v2.jL from rfl, hjc]; exact hrJ)
  have V3 := V2.setJ (hd3.le hEx) kp3 (s' := s') (jL' := v2.jL ++ [⟨1, atA v.core a, x.nonce, 0, nilS, [], false⟩]) (by rw [List.map_append]; exact jT3) (fun y hy => by
    rcases List.mem_append.1 hy with h1 | h1
    · exact V2.jc y h1
    · rw [List.mem_singleton.1 h1]; exact Byt_nil hi) CJ
  refine LoadX.fn (join_hm hd4 V3.blk) 2435 rfl (by omega) ?_
  rw [eC_a]; conv => whnf
  refine IdxX.tag V3.aT (by show (0 : Int) ≤ atA v.core a; omega) (by show ((atA v.core a : Nat) : Int) < v2.aS.2.1; omega) fun mb hmb => ?_; conv => whnf
  have hxm : x ∈ v2.aL := by rw [hx]; exact getDm hi2
  have hxw := C2.awf x hxm
  refine StoreX.tag hd4 V3.aT hmb (k := atA v.core a) (o := 20) (new := aCells { x with nonce := n }) (by show atA v.core a < v2.aS.2.1; omega) (Nat.le_of_ble_eq_true rfl) (by show 0 + atA v.core a * 29 + 20 = _; omega) (by show setSeg ((v2.aL.map aCells).getD _ []) _ _ = _; rw [getMap (d := dA) hi2, ← hx]; exact aS_nonce hx20 n) (aCells_one _) fun hm4 hd5 aT4 kp4 => ?_; conv => whnf
  refine RetX.drop (h' := join hi hm4) (Ext.j2 hEx hd5 (Ext.refl _)) ?_
  have CA : COK { v2.core with aL := v2.aL.set (atA v.core a) { x with nonce := n } } := cokA C2 hi2 (by rw [hx]; rfl) hn hxw.2.2
  have CF : COK { v2.core with jL := v2.jL ++ [⟨1, atA v.core a, x.nonce, 0, nilS, [], false⟩], aL := v2.aL.set (atA v.core a) { x with nonce := n } } := cokA (c := { v2.core with jL := v2.jL ++ [⟨1, atA v.core a, x.nonce, 0, nilS, [], false⟩] }) CJ hi2 (by rw [hx]; rfl) hn hxw.2.2
  have V4 := V3.modA (Ext.refl hi) (hd5.le hEx) kp4 (i := atA v.core a) (x := { x with nonce := n }) hi2 (by rw [hx]) (by show ArrT hm4 230 v2.aS 29 ((v2.aL.set _ _).map aCells); rw [List.map_set]; exact aT4) (V2.ac x hxm) CF
  have hnm : nameA v2.core (atA v.core a) = a := by rw [hc2]; exact (cAcct_all V.cok hl hB hrA).2.2.2.2.2.2.2.2
  have hab : absC v2.core = w := by rw [hc2, (cAcct_all V.cok hl hB hrA).2.1]; exact A.abs
  have hsw := set_nonce C2 hi2 n (by rw [show v2.core.aL = v2.aL from rfl, ← hx]; exact CA)
  rw [hnm, hab, show v2.core.aL = v2.aL from rfl, ← hx] at hsw
  obtain ⟨f1, f2, f3, f4⟩ := finA (v4 := _) V.cok A.hist hl hB hrA hc2 C2 (x' := { x with nonce := n }) (by rw [hx]) eok V4.cok rfl hsw (by
    show nonceW (nonceW w a n) (nameA v2.core (atA v.core a)) x.nonce = _
    have := nonce_at C2 hi2
    rw [hnm, hab, show v2.core.aL = v2.aL from rfl, ← hx] at this
    rw [hnm, hab, ← this]; exact nonce_back w a n)
  exact hk _ _ ⟨V4, f1, f2, fun y hy => A.orig y (by rw [show v.sL = v.core.sL from rfl, ← (cAcct_all V.cok hl hB hrA).2.2.2.2.2.2.1, ← hc2]; exact hy)⟩ f3 f4
end
end Go.Proofs.YgvalwGreat.X
