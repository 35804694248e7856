import Derived.Test.YgvalwGreatE53
import Derived.Test.YgvalwGreatE44
set_option linter.unusedVariables false
set_option linter.unusedSimpArgs false
namespace Go.Proofs.YgvalwGreat.X
open Go

section
variable {hi hi0 hi' hm hm' : Hp} {K : Value → Hp → Prop} {mc : Nat → Value} {v : VS} {eb : Nat} {w : AW} {sn : List AW} {a : List Int}
def newS (v : VS) (a : List Int) (k : Int) : Nat := if (idxS v.sL (atA v.core a) k).isSome = true then 0 else 1
theorem slotOf_b {k : Nat} (he : Ext hi0 hi) (hd : Dj hi hm) (hl : a.length = 20) (hB : isB a) (hkW : (k : Int) < W) (V : VOK hi0 hm eb mc v) (hrA : v.aL.length < 2560) (hrS : v.sL.length < 2560)
    (hk : ∀ hm' v', Dj hi hm' → VOK hi0 hm' eb mc v' → v'.core = cSlot (cAcct v.core a) (atA v.core a) k → K (.tuple #[.int .i32 (atS (cAcct v.core a) (atA v.core a) k), .bool true]) (join hi hm')) :
    CallX Hval.prog 229 [.pointer (some ⟨eb, 2435, none⟩), .agg (bcells a).toArray, .agg (wc k).toArray] (join hi hm) K :=
  CallX.bx he hd (Q := fun x hm' => ∃ v', VOK hi0 hm' eb mc v' ∧ v'.core = cSlot (cAcct v.core a) (atA v.core a) k ∧ x = .tuple #[.int .i32 (atS (cAcct v.core a) (atA v.core a) k), .bool true])
    (slotOf_ok hl hB hkW V hrA hrS fun hm' v' V' h1 => ⟨hm', rfl, V'.dj, v', V', h1, rfl⟩) fun x hm' hd' ⟨v', V', h1, h2⟩ => h2 ▸ hk hm' v' hd' V' h1
theorem tempOf_b {k : Nat} (he : Ext hi0 hi) (hd : Dj hi hm) (hl : a.length = 20) (hB : isB a) (hkW : (k : Int) < W) (V : VOK hi0 hm eb mc v) (hrA : v.aL.length < 2560) (hrT : v.tL.length < 12288)
    (hk : ∀ hm' v', Dj hi hm' → VOK hi0 hm' eb mc v' → v'.core = cTemp (cAcct v.core a) (atA v.core a) k → K (.tuple #[.int .i32 (atT (cAcct v.core a) (atA v.core a) k), .bool true]) (join hi hm')) :
    CallX Hval.prog 359 [.pointer (some ⟨eb, 2435, none⟩), .agg (bcells a).toArray, .agg (wc k).toArray] (join hi hm) K :=
  CallX.bx he hd (Q := fun x hm' => ∃ v', VOK hi0 hm' eb mc v' ∧ v'.core = cTemp (cAcct v.core a) (atA v.core a) k ∧ x = .tuple #[.int .i32 (atT (cAcct v.core a) (atA v.core a) k), .bool true])
    (tempOf_ok hl hB hkW V hrA hrT fun hm' v' V' h1 => ⟨hm', rfl, V'.dj, v', V', h1, rfl⟩) fun x hm' hd' ⟨v', V', h1, h2⟩ => h2 ▸ hk hm' v' hd' V' h1
/-- What stands behind slotOf. -/
theorem slot_all {v2 : VS} {k : Nat} (A : VA hi hm eb mc w sn v) (hl : a.length = 20) (hB : isB a) (hkW : (k : Int) < W) (hrA : v.aL.length < 2560) (hrS : v.sL.length < 2560) (hc2 : v2.core = cSlot (cAcct v.core a) (atA v.core a) k) {J : Nat} (hJ : J = atS (cAcct v.core a) (atA v.core a) k) :
    COK v2.core ∧ absC v2.core = w ∧ Nm v.core v2.core ∧ v2.jL = v.jL ∧ v2.nm = v.nm ∧ v2.mks = v.mks ∧ J < v2.sL.length ∧ nameA v2.core (v2.sL.getD J dS).acct = a ∧ (v2.sL.getD J dS).key = k ∧ (∀ x ∈ v2.sL, x.orig = 0) ∧ v2.aL.length = v.aL.length + newA v a ∧ v2.sL.length = v.sL.length + newS v a k ∧ v2.tL = v.tL ∧ Hist v2.core sn ∧ hasA v2 a = true := by
  obtain ⟨q1, q2, q3, q4, q5, q6, q7, q8, q9⟩ := cAcct_all A.V.cok hl hB hrA
  have hs1 : (cAcct v.core a).sL.length < 2560 := by rw [q7]; exact hrS
  obtain ⟨r1, r2, r3, r4, r5, r6, r7, r8, r9, r10⟩ := cSlot_all (k := k) q1 atA_lt hkW hs1 (by rw [q7]; exact A.orig)
  rw [← hc2] at r1 r2 r3 r4 r5 r6 r7 r8 r9 r10
  rw [← hJ] at r9
  have hlen : v2.sL.length = v.sL.length + newS v a k := by
    show v2.core.sL.length = _
    rw [hc2]
    unfold cSlot newS
    rw [q7, show v.core.sL = v.sL from rfl]
    cases h : idxS v.sL (atA v.core a) k with
    | some j => simp [q7]; try rfl
    | none => simp [q7]; try rfl
  have hnm : nameA v2.core (v2.sL.getD J dS).acct = a := by
    rw [show (v2.sL.getD J dS).acct = atA v.core a from r9.1]
    unfold nameA
    rw [r7]; exact q9
  refine ⟨r1, r2.trans (q2.trans A.abs), q3.trans r3, r4.trans q4, r5.trans q5, r6.trans q6, ?_, hnm, r9.2, r10, ?_, hlen, r8.trans q8, ?_, ?_⟩
  · show J < v2.core.sL.length
    rw [hc2, hJ]; exact atS_lt
  · show v2.core.aL.length = _
    rw [r7, cAcct_len]; rfl
  · exact A.hist.same A.V.cok (q3.trans r3) (r4.trans q4) (r2.trans q2) (r5.trans q5) (r6.trans q6)
  · exact Option.isSome_iff_exists.2 ⟨atA v.core a, idxA_is r1 (by rw [r7]; exact atA_lt) (by rw [r7]; exact q9)⟩
theorem temp_all {v2 : VS} {k : Nat} (A : VA hi hm eb mc w sn v) (hl : a.length = 20) (hB : isB a) (hkW : (k : Int) < W) (hrA : v.aL.length < 2560) (hrT : v.tL.length < 12288) (hc2 : v2.core = cTemp (cAcct v.core a) (atA v.core a) k) {J : Nat} (hJ : J = atT (cAcct v.core a) (atA v.core a) k) :
    COK v2.core ∧ absC v2.core = w ∧ Nm v.core v2.core ∧ v2.jL = v.jL ∧ v2.nm = v.nm ∧ v2.mks = v.mks ∧ J < v2.tL.length ∧ nameA v2.core (v2.tL.getD J dT).acct = a ∧ (v2.tL.getD J dT).key = k ∧ v2.aL.length = v.aL.length + newA v a ∧ v2.tL.length ≤ v.tL.length + 1 ∧ v2.sL = v.sL ∧ Hist v2.core sn ∧ hasA v2 a = true := by
  obtain ⟨q1, q2, q3, q4, q5, q6, q7, q8, q9⟩ := cAcct_all A.V.cok hl hB hrA
  have hs1 : (cAcct v.core a).tL.length < 12288 := by rw [q8]; exact hrT
  obtain ⟨r1, r2, r3, r4, r5, r6, r7, r8, r9⟩ := cTemp_all (k := k) q1 atA_lt hkW hs1
  rw [← hc2] at r1 r2 r3 r4 r5 r6 r7 r8 r9
  rw [← hJ] at r9
  have hlen : v2.tL.length ≤ v.tL.length + 1 := by
    show v2.core.tL.length ≤ _
    rw [hc2]
    unfold cTemp
    rw [q8, show v.core.tL = v.tL from rfl]
    cases h : idxT v.tL (atA v.core a) k with
    | some j => simp [q8]; exact Nat.le_succ _
    | none => simp [q8]
  have hnm : nameA v2.core (v2.tL.getD J dT).acct = a := by
    rw [show (v2.tL.getD J dT).acct = atA v.core a from r9.1]
    unfold nameA
    rw [r7]; exact q9
  refine ⟨r1, r2.trans (q2.trans A.abs), q3.trans r3, r4.trans q4, r5.trans q5, r6.trans q6, ?_, hnm, r9.2, ?_, hlen, r8.trans q7, ?_, ?_⟩
  · show J < v2.core.tL.length
    rw [hc2, hJ]; exact atT_lt
  · show v2.core.aL.length = _
    rw [r7, cAcct_len]; rfl
  · exact A.hist.same A.V.cok (q3.trans r3) (r4.trans q4) (r2.trans q2) (r5.trans q5) (r6.trans q6)
  · exact Option.isSome_iff_exists.2 ⟨atA v.core a, idxA_is r1 (by rw [r7]; exact atA_lt) (by rw [r7]; exact q9)⟩
set_option maxRecDepth 100000 in
set_option maxHeartbeats 4000000 in
theorem warmSlot_ok' {k : Nat} (hl : a.length = 20) (hB : isB a) (hkW : (k : Int) < W) (A : VA hi hm eb mc w sn v) (hrA : v.aL.length < 2560) (hrS : v.sL.length < 2560) (hrJ : v.jL.length < 65536)
    (hk : ∀ hm' v', VA hi hm' eb mc (wrmSW w a k true) sn v' → Up v v' (newA v a) (newS v a k) 0 1 → hasA v' a = true → K (.bool true) (join hi hm')) : CallX Hval.prog 160 [.pointer (some ⟨eb, 2435, none⟩), .agg (bcells a).toArray, .agg (wc k).toArray] (join hi hm) K := by
  have V := A.V
  have hjl := V.jT.len
  rw [List.length_map] at hjl
  refine CallX.of_xf T_ok Hval.func160 rfl (by kernel_rfl) (Nat.le_of_ble_eq_true rfl) ?_; conv => whnf
  refine BoxX.j V.dj fun n1 hin hmn hd1 he1 => ?_; conv => whnf
  refine BoxX.j hd1 fun n2 hin2 hmn2 hd2 he2 => ?_; conv => whnf
  have bx1 : (hput (hput hi n1 ((bcells a).toArray.toList, 31)) n2 ((wc k).toArray.toList, 75)) n1 = some (bcells a, 31) := he2 _ _ (hput_same ..)
  have bx2 : (hput (hput hi n1 ((bcells a).toArray.toList, 31)) n2 ((wc k).toArray.toList, 75)) n2 = some (wc k, 75) := hput_same ..
  have hE := he1.trans he2
  have hd0 := hd2
  generalize hput (hput hi n1 ((bcells a).toArray.toList, 31)) n2 ((wc k).toArray.toList, 75) = hi1 at *
  have alen : (bcells a).length = (31, y31).snd.size := by rw [bcells_len, hl]; rfl
  refine room_ok (join_hm hd0 V.blk) (by omega) ?_; conv => whnf
  repeat (first | (refine CondX.tt ?_; conv => whnf) | (refine CondX.ff ?_; conv => whnf))
  refine LoadX.all (join_l bx1) alen ?_; conv => whnf
  refine LoadX.all (join_l bx2) rfl ?_; conv => whnf
  refine slotOf_b hE hd0 hl hB hkW V hrA hrS fun hm2 v2 hdm V2 hc2 => ?_; conv => whnf
  repeat (first | (refine CondX.tt ?_; conv => whnf) | (refine CondX.ff ?_; conv => whnf))
  obtain ⟨J, hJ⟩ : ∃ J, J = atS (cAcct v.core a) (atA v.core a) k := ⟨_, rfl⟩
  rw [← hJ]
  obtain ⟨C2, hab, n2', hjc, hnmk, hmk, hJl, hnm, hkey, hor, hlA, hlS, htL, H2, hA2⟩ := slot_all A hl hB hkW hrA hrS hc2 hJ
  have hb2 := join_hm hdm V2.blk
  refine DrawX.go T_ok hM Hval.func160 (tb := dr160) rfl (by kernel_rfl) ?_; conv => whnf
  refine LoadX.fn hb2 10629 rfl (by omega) ?_
  rw [eC_j]; conv => whnf
  refine LoadX.fn hb2 2436 rfl (by omega) ?_
  rw [eC_s]; conv => whnf
  have hal := V2.sT.len
  rw [List.length_map] at hal
  refine IdxX.tag V2.sT (by omega) (by omega) fun ma hma => ?_; conv => whnf
  obtain ⟨x, hx⟩ : ∃ x, x = v2.sL.getD J dS := ⟨_, rfl⟩
  have ld : ∀ hiX, Dj hiX hm2 → ldV false 1 (join hiX hm2) ma (0 + J * 14 + 13) = some (.bool x.warm) := fun hiX hdX => by
    rw [(V2.sT.arr hdX).fld hma (by omega) (by omega), getMap (d := dS) hJl, ← hx]; rfl
  refine LoadX.of _ (ld _ hdm) ?_; conv => whnf
  refine Ob.mk (by first | decide | omega) ?_; conv => whnf
  refine BoxX.j (vs := jCells ⟨5, J, 0, 0, nilS, [], x.warm⟩) hdm fun m8 hin8 hmn8 hd8 he8 => ?_; conv => whnf
  have hb8 := join_hm hd8 V2.blk
  repeat (refine Ob.mk (by first | exact ldV_fn hb8 10629 rfl (by omega) | exact ldV_fn hb8 2436 rfl (by omega) | exact ld _ hd8) ?_; conv => whnf)
  have hjl2 := V2.jT.len
  rw [List.length_map] at hjl2
  refine AppendX.tag (new := jCells ⟨5, J, 0, 0, nilS, [], x.warm⟩) hd8 V2.jT (rd_ext (Ext.jl _ _) (rd_own rfl)) rfl rfl rfl (by decide) (Nat.le_trans (Nat.mul_le_mul_right _ (show v2.jS.2.1 + 1 ≤ 65536 by rw [← hjl2, hjc]; omega)) (by decide)) fun s' hm3 hd3 jT3 kp3 => ?_; conv => whnf
  have hb3 := kp3 _ _ _ (by decide) V2.blk
  refine StoreX.jf hd3 hb3 10629 rfl (by omega) fun hd4 => ?_
  rw [show Value.slice s'.1 s'.2.1 s'.2.2 = sl s' from rfl, eU_j] at hd4 ⊢; conv => whnf
  have hEx := hE.trans he8
  have eok : EJ.ok v2.core ⟨5, J, 0, 0, nilS, [], x.warm⟩ := ejS_ok C2 (by decide) hJl
  have hxm : x ∈ v2.sL := by rw [hx]; exact getDm hJl
  have hxw := C2.swf x hxm
  have CJ := cokJ C2 eok ⟨Int.le_refl 0, by show (0 : Int) < 18446744073709551616; decide⟩ ⟨Int.le_refl 0, W_pos⟩ (by rw [show v2.core.jL = v2.jL from rfl, hjc]; exact hrJ)
  have V3 := V2.setJ (hd3.le hEx) kp3 (s' := s') (jL' := v2.jL ++ [⟨5, J, 0, 0, nilS, [], x.warm⟩]) (by rw [List.map_append]; exact jT3) (fun y hy => by
    rcases List.mem_append.1 hy with h1 | h1
    · exact V2.jc y h1
    · rw [List.mem_singleton.1 h1]; exact Byt_nil hi) CJ
  refine LoadX.fn (join_hm hd4 V3.blk) 2436 rfl (by omega) ?_
  rw [eC_s]; conv => whnf
  refine IdxX.tag V3.sT (by show (0 : Int) ≤ J; omega) (by show ((J : Nat) : Int) < v2.sS.2.1; omega) fun mb hmb => ?_; conv => whnf
  refine StoreX.tag hd4 V3.sT hmb (k := J) (o := 13) (new := slCells { x with warm := true }) (by show J < v2.sS.2.1; omega) (Nat.le_of_ble_eq_true rfl) (by show 0 + J * 14 + 13 = _; omega) (by show setSeg ((v2.sL.map slCells).getD _ []) _ _ = _; rw [getMap (d := dS) hJl, ← hx]; rfl) rfl fun hm4 hd5 aT4 kp4 => ?_; conv => whnf
  refine RetX.drop (h' := join hi hm4) (Ext.j2 hEx hd5 (Ext.refl _)) ?_
  have CA : COK { v2.core with sL := v2.sL.set J { x with warm := true } } := cokS C2 hJl (by rw [hx]; rfl) (by rw [hx]; rfl) hxw.2.2.1 hxw.2.2.2
  have CF : COK { v2.core with jL := v2.jL ++ [⟨5, J, 0, 0, nilS, [], x.warm⟩], sL := v2.sL.set J { x with warm := true } } := cokS (c := { v2.core with jL := v2.jL ++ [⟨5, J, 0, 0, nilS, [], x.warm⟩] }) CJ hJl (by rw [hx]; rfl) (by rw [hx]; rfl) hxw.2.2.1 hxw.2.2.2
  have V4 := V3.modS (hd5.le hEx) kp4 (i := J) (x := { x with warm := true }) hJl (by rw [hx]) (by rw [hx]) (by show ArrT hm4 233 v2.sS 14 ((v2.sL.set _ _).map slCells); rw [List.map_set]; exact aT4) CF
  have hsw := set_swarm C2 hJl true (by rw [show v2.core.sL = v2.sL from rfl, ← hx]; exact CA)
  have hol := swarm_at C2 hJl
  rw [show v2.core.sL = v2.sL from rfl, hnm, hkey, hab, ← hx] at hsw hol
  have hx1 : { x with warm := true }.acct = (v2.sL.getD J dS).acct := by rw [← hx]
  have hx2 : { x with warm := true }.key = (v2.sL.getD J dS).key := by rw [← hx]
  have H4 := H2.setS C2 hJl hx1 hx2 eok (by
    rw [show v2.core.sL = v2.sL from rfl, hsw, hab]
    show wrmSW (wrmSW w a k true) (nameA v2.core (v2.sL.getD J dS).acct) (v2.sL.getD J dS).key x.warm = w
    rw [hnm, hkey, ← hol]; exact wrmS_back w a k true)
  have n4 : Nm v2.core { v2.core with sL := v2.sL.set J { x with warm := true }, jL := v2.jL ++ [⟨5, J, 0, 0, nilS, [], x.warm⟩] } := ⟨(Nm.setS (c := v2.core) hJl hx1 hx2).a, (Nm.setS (c := v2.core) hJl hx1 hx2).s, (Nm.setS (c := v2.core) hJl hx1 hx2).t⟩
  refine hk _ _ ⟨V4, hsw, H4, fun y hy => ?_⟩ ⟨Nat.le_of_eq hlA, by show (v2.sL.set _ _).length ≤ _; rw [List.length_set]; exact Nat.le_of_eq hlS, by show v2.tL.length ≤ _; rw [htL]; exact Nat.le_refl _, by show (v2.jL ++ [_]).length ≤ _; rw [List.length_append, hjc]; exact Nat.le_refl _, fun b hb => has_nm V4.cok (n2'.trans n4) b hb, hnmk⟩ ?_
  · rcases mem_set hy with h1 | h1
    · rw [h1]; exact hor x hxm
    · exact hor y h1
  · obtain ⟨i0, g0⟩ := has_core hA2
    exact Option.isSome_iff_exists.2 ⟨i0, n4.idxA V4.cok g0⟩
set_option maxRecDepth 100000 in
set_option maxHeartbeats 4000000 in
theorem store_ok' {k x0 : Nat} (hl : a.length = 20) (hB : isB a) (hkW : (k : Int) < W) (hxW : (x0 : Int) < W) (A : VA hi hm eb mc w sn v) (hrA : v.aL.length < 2560) (hrS : v.sL.length < 2560) (hrJ : v.jL.length < 65536)
    (hk : ∀ hm' v', VA hi hm' eb mc (slotW w a k x0) sn v' → Up v v' (newA v a) (newS v a k) 0 1 → hasA v' a = true → K (.bool true) (join hi hm')) : CallX Hval.prog 289 [.pointer (some ⟨eb, 2435, none⟩), .agg (bcells a).toArray, .agg (wc k).toArray, .agg (wc x0).toArray] (join hi hm) K := by
  have hx0r : 0 ≤ (x0 : Int) ∧ (x0 : Int) < W := ⟨by omega, hxW⟩
  have V := A.V
  have hjl := V.jT.len
  rw [List.length_map] at hjl
  refine CallX.of_xf T_ok Hval.func289 rfl (by kernel_rfl) (Nat.le_of_ble_eq_true rfl) ?_; conv => whnf
  refine BoxX.j V.dj fun n1 hin hmn hd1 he1 => ?_; conv => whnf
  refine BoxX.j hd1 fun n2 hin2 hmn2 hd2 he2 => ?_; conv => whnf
  refine BoxX.j hd2 fun n3 hin3 hmn3 hd3 he3 => ?_; conv => whnf
  have bx1 : (hput (hput (hput hi n1 ((bcells a).toArray.toList, 31)) n2 ((wc k).toArray.toList, 75)) n3 ((wc x0).toArray.toList, 75)) n1 = some (bcells a, 31) := he3 _ _ (he2 _ _ (hput_same ..))
  have bx2 : (hput (hput (hput hi n1 ((bcells a).toArray.toList, 31)) n2 ((wc k).toArray.toList, 75)) n3 ((wc x0).toArray.toList, 75)) n2 = some (wc k, 75) := he3 _ _ (hput_same ..)
  have bx3 : (hput (hput (hput hi n1 ((bcells a).toArray.toList, 31)) n2 ((wc k).toArray.toList, 75)) n3 ((wc x0).toArray.toList, 75)) n3 = some (wc x0, 75) := hput_same ..
  have hE := (he1.trans he2).trans he3
  have hd0 := hd3
  generalize hput (hput (hput hi n1 ((bcells a).toArray.toList, 31)) n2 ((wc k).toArray.toList, 75)) n3 ((wc x0).toArray.toList, 75) = hi1 at *
  have alen : (bcells a).length = (31, y31).snd.size := by rw [bcells_len, hl]; rfl
  refine room_ok (join_hm hd0 V.blk) (by omega) ?_; conv => whnf
  repeat (first | (refine CondX.tt ?_; conv => whnf) | (refine CondX.ff ?_; conv => whnf))
  refine LoadX.all (join_l bx1) alen ?_; conv => whnf
  refine LoadX.all (join_l bx2) rfl ?_; conv => whnf
  refine slotOf_b hE hd0 hl hB hkW V hrA hrS fun hm2 v2 hdm V2 hc2 => ?_; conv => whnf
  repeat (first | (refine CondX.tt ?_; conv => whnf) | (refine CondX.ff ?_; conv => whnf))
  obtain ⟨J, hJ⟩ : ∃ J, J = atS (cAcct v.core a) (atA v.core a) k := ⟨_, rfl⟩
  rw [← hJ]
  obtain ⟨C2, hab, n2', hjc, hnmk, hmk, hJl, hnm, hkey, hor, hlA, hlS, htL, H2, hA2⟩ := slot_all A hl hB hkW hrA hrS hc2 hJ
  have hb2 := join_hm hdm V2.blk
  refine DrawX.go T_ok hM Hval.func289 (tb := dr289) rfl (by kernel_rfl) ?_; conv => whnf
  refine LoadX.fn hb2 10629 rfl (by omega) ?_
  rw [eC_j]; conv => whnf
  refine LoadX.fn hb2 2436 rfl (by omega) ?_
  rw [eC_s]; conv => whnf
  have hal := V2.sT.len
  rw [List.length_map] at hal
  refine IdxX.tag V2.sT (by omega) (by omega) fun ma hma => ?_; conv => whnf
  obtain ⟨x, hx⟩ : ∃ x, x = v2.sL.getD J dS := ⟨_, rfl⟩
  have ld : ∀ hiX, Dj hiX hm2 → ldV true 4 (join hiX hm2) ma (0 + J * 14 + 5) = some (.agg (wc x.val).toArray) := fun hiX hdX => by
    rw [(V2.sT.arr hdX).seg hma (by omega) (by omega), getMap (d := dS) hJl, ← hx]; rfl
  refine LoadX.of _ (ld _ hdm) ?_; conv => whnf
  refine Ob.mk (by first | decide | omega) ?_; conv => whnf
  refine BoxX.j (vs := jCells ⟨3, J, 0, x.val, nilS, [], false⟩) hdm fun m8 hin8 hmn8 hd8 he8 => ?_; conv => whnf
  have hb8 := join_hm hd8 V2.blk
  repeat (refine Ob.mk (by first | exact ldV_fn hb8 10629 rfl (by omega) | exact ldV_fn hb8 2436 rfl (by omega) | exact ld _ hd8) ?_; conv => whnf)
  have hjl2 := V2.jT.len
  rw [List.length_map] at hjl2
  refine AppendX.tag (new := jCells ⟨3, J, 0, x.val, nilS, [], false⟩) hd8 V2.jT (rd_ext (Ext.jl _ _) (rd_own rfl)) rfl rfl rfl (by decide) (Nat.le_trans (Nat.mul_le_mul_right _ (show v2.jS.2.1 + 1 ≤ 65536 by rw [← hjl2, hjc]; omega)) (by decide)) fun s' hm3 hd3 jT3 kp3 => ?_; conv => whnf
  have hb3 := kp3 _ _ _ (by decide) V2.blk
  refine StoreX.jf hd3 hb3 10629 rfl (by omega) fun hd4 => ?_
  rw [show Value.slice s'.1 s'.2.1 s'.2.2 = sl s' from rfl, eU_j] at hd4 ⊢; conv => whnf
  have hEx := hE.trans he8
  have eok : EJ.ok v2.core ⟨3, J, 0, x.val, nilS, [], false⟩ := ejS_ok C2 (by decide) hJl
  have hxm : x ∈ v2.sL := by rw [hx]; exact getDm hJl
  have hxw := C2.swf x hxm
  have CJ := cokJ C2 eok ⟨Int.le_refl 0, by show (0 : Int) < 18446744073709551616; decide⟩ hxw.2.2.1 (by rw [show v2.core.jL = v2.jL from rfl, hjc]; exact hrJ)
  have V3 := V2.setJ (hd3.le hEx) kp3 (s' := s') (jL' := v2.jL ++ [⟨3, J, 0, x.val, nilS, [], false⟩]) (by rw [List.map_append]; exact jT3) (fun y hy => by
    rcases List.mem_append.1 hy with h1 | h1
    · exact V2.jc y h1
    · rw [List.mem_singleton.1 h1]; exact Byt_nil hi) CJ
  refine DrawX.go T_ok hM Hval.func289 (tb := dr289) rfl (by kernel_rfl) ?_; conv => whnf
  refine LoadX.fn (join_hm hd4 V3.blk) 2436 rfl (by omega) ?_
  rw [eC_s]; conv => whnf
  refine LoadX.all (join_l (he8 _ _ bx3)) rfl ?_; conv => whnf
  refine IdxX.tag V3.sT (by show (0 : Int) ≤ J; omega) (by show ((J : Nat) : Int) < v2.sS.2.1; omega) fun mb hmb => ?_; conv => whnf
  refine Ob.mk ⟨rfl, rfl⟩ ?_; conv => whnf
  refine StoreX.tag hd4 V3.sT hmb (k := J) (o := 5) (new := slCells { x with val := x0 }) (by show J < v2.sS.2.1; omega) (Nat.le_of_ble_eq_true rfl) (by show 0 + J * 14 + 5 = _; omega) (by show setSeg ((v2.sL.map slCells).getD _ []) _ _ = _; rw [getMap (d := dS) hJl, ← hx]; rfl) rfl fun hm4 hd5 aT4 kp4 => ?_; conv => whnf
  refine RetX.drop (h' := join hi hm4) (Ext.j2 hEx hd5 (Ext.refl _)) ?_
  have CA : COK { v2.core with sL := v2.sL.set J { x with val := x0 } } := cokS C2 hJl (by rw [hx]; rfl) (by rw [hx]; rfl) hx0r hxw.2.2.2
  have CF : COK { v2.core with jL := v2.jL ++ [⟨3, J, 0, x.val, nilS, [], false⟩], sL := v2.sL.set J { x with val := x0 } } := cokS (c := { v2.core with jL := v2.jL ++ [⟨3, J, 0, x.val, nilS, [], false⟩] }) CJ hJl (by rw [hx]; rfl) (by rw [hx]; rfl) hx0r hxw.2.2.2
  have V4 := V3.modS (hd5.le hEx) kp4 (i := J) (x := { x with val := x0 }) hJl (by rw [hx]) (by rw [hx]) (by show ArrT hm4 233 v2.sS 14 ((v2.sL.set _ _).map slCells); rw [List.map_set]; exact aT4) CF
  have hsw := set_val C2 hJl x0 (by rw [show v2.core.sL = v2.sL from rfl, ← hx]; exact CA)
  have hol := slot_at C2 hJl
  rw [show v2.core.sL = v2.sL from rfl, hnm, hkey, hab, ← hx] at hsw hol
  have hx1 : { x with val := x0 }.acct = (v2.sL.getD J dS).acct := by rw [← hx]
  have hx2 : { x with val := x0 }.key = (v2.sL.getD J dS).key := by rw [← hx]
  have H4 := H2.setS C2 hJl hx1 hx2 eok (by
    rw [show v2.core.sL = v2.sL from rfl, hsw, hab]
    show slotW (slotW w a k x0) (nameA v2.core (v2.sL.getD J dS).acct) (v2.sL.getD J dS).key x.val = w
    rw [hnm, hkey, ← hol]; exact slot_back w a k x0)
  have n4 : Nm v2.core { v2.core with sL := v2.sL.set J { x with val := x0 }, jL := v2.jL ++ [⟨3, J, 0, x.val, nilS, [], false⟩] } := ⟨(Nm.setS (c := v2.core) hJl hx1 hx2).a, (Nm.setS (c := v2.core) hJl hx1 hx2).s, (Nm.setS (c := v2.core) hJl hx1 hx2).t⟩
  refine hk _ _ ⟨V4, hsw, H4, fun y hy => ?_⟩ ⟨Nat.le_of_eq hlA, by show (v2.sL.set _ _).length ≤ _; rw [List.length_set]; exact Nat.le_of_eq hlS, by show v2.tL.length ≤ _; rw [htL]; exact Nat.le_refl _, by show (v2.jL ++ [_]).length ≤ _; rw [List.length_append, hjc]; exact Nat.le_refl _, fun b hb => has_nm V4.cok (n2'.trans n4) b hb, hnmk⟩ ?_
  · rcases mem_set hy with h1 | h1
    · rw [h1]; exact hor x hxm
    · exact hor y h1
  · obtain ⟨i0, g0⟩ := has_core hA2
    exact Option.isSome_iff_exists.2 ⟨i0, n4.idxA V4.cok g0⟩
set_option maxRecDepth 100000 in
set_option maxHeartbeats 4000000 in
theorem tstore_ok' {k x0 : Nat} (hl : a.length = 20) (hB : isB a) (hkW : (k : Int) < W) (hxW : (x0 : Int) < W) (A : VA hi hm eb mc w sn v) (hrA : v.aL.length < 2560) (hrT : v.tL.length < 12288) (hrJ : v.jL.length < 65536)
    (hk : ∀ hm' v', VA hi hm' eb mc (tempW w a k x0) sn v' → Up v v' (newA v a) 0 1 1 → hasA v' a = true → K (.bool true) (join hi hm')) : CallX Hval.prog 294 [.pointer (some ⟨eb, 2435, none⟩), .agg (bcells a).toArray, .agg (wc k).toArray, .agg (wc x0).toArray] (join hi hm) K := by
  have hx0r : 0 ≤ (x0 : Int) ∧ (x0 : Int) < W := ⟨by omega, hxW⟩
  have V := A.V
  have hjl := V.jT.len
  rw [List.length_map] at hjl
  refine CallX.of_xf T_ok Hval.func294 rfl (by kernel_rfl) (Nat.le_of_ble_eq_true rfl) ?_; conv => whnf
  refine BoxX.j V.dj fun n1 hin hmn hd1 he1 => ?_; conv => whnf
  refine BoxX.j hd1 fun n2 hin2 hmn2 hd2 he2 => ?_; conv => whnf
  refine BoxX.j hd2 fun n3 hin3 hmn3 hd3 he3 => ?_; conv => whnf
  have bx1 : (hput (hput (hput hi n1 ((bcells a).toArray.toList, 31)) n2 ((wc k).toArray.toList, 75)) n3 ((wc x0).toArray.toList, 75)) n1 = some (bcells a, 31) := he3 _ _ (he2 _ _ (hput_same ..))
  have bx2 : (hput (hput (hput hi n1 ((bcells a).toArray.toList, 31)) n2 ((wc k).toArray.toList, 75)) n3 ((wc x0).toArray.toList, 75)) n2 = some (wc k, 75) := he3 _ _ (hput_same ..)
  have bx3 : (hput (hput (hput hi n1 ((bcells a).toArray.toList, 31)) n2 ((wc k).toArray.toList, 75)) n3 ((wc x0).toArray.toList, 75)) n3 = some (wc x0, 75) := hput_same ..
  have hE := (he1.trans he2).trans he3
  have hd0 := hd3
  generalize hput (hput (hput hi n1 ((bcells a).toArray.toList, 31)) n2 ((wc k).toArray.toList, 75)) n3 ((wc x0).toArray.toList, 75) = hi1 at *
  have alen : (bcells a).length = (31, y31).snd.size := by rw [bcells_len, hl]; rfl
  refine room_ok (join_hm hd0 V.blk) (by omega) ?_; conv => whnf
  repeat (first | (refine CondX.tt ?_; conv => whnf) | (refine CondX.ff ?_; conv => whnf))
  refine LoadX.all (join_l bx1) alen ?_; conv => whnf
  refine LoadX.all (join_l bx2) rfl ?_; conv => whnf
  refine tempOf_b hE hd0 hl hB hkW V hrA hrT fun hm2 v2 hdm V2 hc2 => ?_; conv => whnf
  repeat (first | (refine CondX.tt ?_; conv => whnf) | (refine CondX.ff ?_; conv => whnf))
  obtain ⟨J, hJ⟩ : ∃ J, J = atT (cAcct v.core a) (atA v.core a) k := ⟨_, rfl⟩
  rw [← hJ]
  obtain ⟨C2, hab, n2', hjc, hnmk, hmk, hJl, hnm, hkey, hlA, hlT, hsL, H2, hA2⟩ := temp_all A hl hB hkW hrA hrT hc2 hJ
  have hb2 := join_hm hdm V2.blk
  refine DrawX.go T_ok hM Hval.func294 (tb := dr294) rfl (by kernel_rfl) ?_; conv => whnf
  refine LoadX.fn hb2 10629 rfl (by omega) ?_
  rw [eC_j]; conv => whnf
  refine LoadX.fn hb2 27017 rfl (by omega) ?_
  rw [eC_t]; conv => whnf
  have hal := V2.tT.len
  rw [List.length_map] at hal
  refine IdxX.tag V2.tT (by omega) (by omega) fun ma hma => ?_; conv => whnf
  obtain ⟨x, hx⟩ : ∃ x, x = v2.tL.getD J dT := ⟨_, rfl⟩
  have ld : ∀ hiX, Dj hiX hm2 → ldV true 4 (join hiX hm2) ma (0 + J * 9 + 5) = some (.agg (wc x.val).toArray) := fun hiX hdX => by
    rw [(V2.tT.arr hdX).seg hma (by omega) (by omega), getMap (d := dT) hJl, ← hx]; rfl
  refine LoadX.of _ (ld _ hdm) ?_; conv => whnf
  refine Ob.mk (by first | decide | omega) ?_; conv => whnf
  refine BoxX.j (vs := jCells ⟨8, J, 0, x.val, nilS, [], false⟩) hdm fun m8 hin8 hmn8 hd8 he8 => ?_; conv => whnf
  have hb8 := join_hm hd8 V2.blk
  repeat (refine Ob.mk (by first | exact ldV_fn hb8 10629 rfl (by omega) | exact ldV_fn hb8 27017 rfl (by omega) | exact ld _ hd8) ?_; conv => whnf)
  have hjl2 := V2.jT.len
  rw [List.length_map] at hjl2
  refine AppendX.tag (new := jCells ⟨8, J, 0, x.val, nilS, [], false⟩) hd8 V2.jT (rd_ext (Ext.jl _ _) (rd_own rfl)) rfl rfl rfl (by decide) (Nat.le_trans (Nat.mul_le_mul_right _ (show v2.jS.2.1 + 1 ≤ 65536 by rw [← hjl2, hjc]; omega)) (by decide)) fun s' hm3 hd3 jT3 kp3 => ?_; conv => whnf
  have hb3 := kp3 _ _ _ (by decide) V2.blk
  refine StoreX.jf hd3 hb3 10629 rfl (by omega) fun hd4 => ?_
  rw [show Value.slice s'.1 s'.2.1 s'.2.2 = sl s' from rfl, eU_j] at hd4 ⊢; conv => whnf
  have hEx := hE.trans he8
  have eok : EJ.ok v2.core ⟨8, J, 0, x.val, nilS, [], false⟩ := ejT_ok C2 hJl
  have hxm : x ∈ v2.tL := by rw [hx]; exact getDm hJl
  have hxw := C2.twf x hxm
  have CJ := cokJ C2 eok ⟨Int.le_refl 0, by show (0 : Int) < 18446744073709551616; decide⟩ hxw.2.2 (by rw [show v2.core.jL = v2.jL from rfl, hjc]; exact hrJ)
  have V3 := V2.setJ (hd3.le hEx) kp3 (s' := s') (jL' := v2.jL ++ [⟨8, J, 0, x.val, nilS, [], false⟩]) (by rw [List.map_append]; exact jT3) (fun y hy => by
    rcases List.mem_append.1 hy with h1 | h1
    · exact V2.jc y h1
    · rw [List.mem_singleton.1 h1]; exact Byt_nil hi) CJ
  refine DrawX.go T_ok hM Hval.func294 (tb := dr294) rfl (by kernel_rfl) ?_; conv => whnf
  refine LoadX.fn (join_hm hd4 V3.blk) 27017 rfl (by omega) ?_
  rw [eC_t]; conv => whnf
  refine LoadX.all (join_l (he8 _ _ bx3)) rfl ?_; conv => whnf
  refine IdxX.tag V3.tT (by show (0 : Int) ≤ J; omega) (by show ((J : Nat) : Int) < v2.tS.2.1; omega) fun mb hmb => ?_; conv => whnf
  refine Ob.mk ⟨rfl, rfl⟩ ?_; conv => whnf
  refine StoreX.tag hd4 V3.tT hmb (k := J) (o := 5) (new := tpCells { x with val := x0 }) (by show J < v2.tS.2.1; omega) (Nat.le_of_ble_eq_true rfl) (by show 0 + J * 9 + 5 = _; omega) (by show setSeg ((v2.tL.map tpCells).getD _ []) _ _ = _; rw [getMap (d := dT) hJl, ← hx]; rfl) rfl fun hm4 hd5 aT4 kp4 => ?_; conv => whnf
  refine RetX.drop (h' := join hi hm4) (Ext.j2 hEx hd5 (Ext.refl _)) ?_
  have CA : COK { v2.core with tL := v2.tL.set J { x with val := x0 } } := cokT C2 hJl (by rw [hx]; rfl) (by rw [hx]; rfl) hx0r
  have CF : COK { v2.core with jL := v2.jL ++ [⟨8, J, 0, x.val, nilS, [], false⟩], tL := v2.tL.set J { x with val := x0 } } := cokT (c := { v2.core with jL := v2.jL ++ [⟨8, J, 0, x.val, nilS, [], false⟩] }) CJ hJl (by rw [hx]; rfl) (by rw [hx]; rfl) hx0r
  have V4 := V3.modT (hd5.le hEx) kp4 (i := J) (x := { x with val := x0 }) hJl (by rw [hx]) (by rw [hx]) (by show ArrT hm4 401 v2.tS 9 ((v2.tL.set _ _).map tpCells); rw [List.map_set]; exact aT4) CF
  have hsw := set_tval C2 hJl x0 (by rw [show v2.core.tL = v2.tL from rfl, ← hx]; exact CA)
  have hol := temp_at C2 hJl
  rw [show v2.core.tL = v2.tL from rfl, hnm, hkey, hab, ← hx] at hsw hol
  have hx1 : { x with val := x0 }.acct = (v2.tL.getD J dT).acct := by rw [← hx]
  have hx2 : { x with val := x0 }.key = (v2.tL.getD J dT).key := by rw [← hx]
  have H4 := H2.setT C2 hJl hx1 hx2 eok (by
    rw [show v2.core.tL = v2.tL from rfl, hsw, hab]
    show tempW (tempW w a k x0) (nameA v2.core (v2.tL.getD J dT).acct) (v2.tL.getD J dT).key x.val = w
    rw [hnm, hkey, ← hol]; exact temp_back w a k x0)
  have n4 : Nm v2.core { v2.core with tL := v2.tL.set J { x with val := x0 }, jL := v2.jL ++ [⟨8, J, 0, x.val, nilS, [], false⟩] } := ⟨(Nm.setT (c := v2.core) hJl hx1 hx2).a, (Nm.setT (c := v2.core) hJl hx1 hx2).s, (Nm.setT (c := v2.core) hJl hx1 hx2).t⟩
  refine hk _ _ ⟨V4, hsw, H4, fun y hy => A.orig y (by rw [← hsL]; exact hy)⟩ ⟨Nat.le_of_eq hlA, by show v2.sL.length ≤ _; rw [hsL]; exact Nat.le_refl _, by show (v2.tL.set _ _).length ≤ _; rw [List.length_set]; exact hlT, by show (v2.jL ++ [_]).length ≤ _; rw [List.length_append, hjc]; exact Nat.le_refl _, fun b hb => has_nm V4.cok (n2'.trans n4) b hb, hnmk⟩ ?_
  · obtain ⟨i0, g0⟩ := has_core hA2
    exact Option.isSome_iff_exists.2 ⟨i0, n4.idxA V4.cok g0⟩
end
end Go.Proofs.YgvalwGreat.X
