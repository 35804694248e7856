import Derived.Test.YgvalwGreatE48
set_option linter.unusedVariables false
set_option linter.unusedSimpArgs false
namespace Go.Proofs.YgvalwGreat.X
open Go

section
variable {hi hi0 hi' hm hm' : Hp} {K : Value → Hp → Prop} {mc : Nat → Value} {v : VS} {eb : Nat} {w : AW} {sn : List AW} {a : List Int}
set_option maxRecDepth 100000 in
set_option maxHeartbeats 4000000 in
theorem room_ok {h : Hp} (hb : h eb = some (fnv 27024 (eC mc v), 101)) (hl : v.jS.2.1 < 65536) (hk : K (.bool true) h) : CallX Hval.prog 154 [.pointer (some ⟨eb, 2435, none⟩)] h K := by
  refine CallX.of_xf T_ok Hval.func154 rfl (by kernel_rfl) (Nat.le_of_ble_eq_true rfl) ?_; conv => whnf
  refine LoadX.fn hb 10629 rfl (by omega) ?_
  rw [eC_j]; conv => whnf
  rw [decide_eq_true (by omega)]
  exact RetX.same hk
theorem getMap {α : Type} {l : List α} {f : α → List Value} {d : α} {j : Nat} (h : j < l.length) : (l.map f).getD j [] = f (l.getD j d) := by
  rw [List.getD_eq_getElem?_getD, List.getD_eq_getElem?_getD, List.getElem?_map, List.getElem?_eq_getElem h]; rfl
theorem IdxX.tag {e : TypeId} {s : Sl} {sz : Nat} {es : List (List Value)} {i : Int} {KK : Nat → Nat → Prop} (x : ArrT hm e s sz es) (h0 : 0 ≤ i) (h1 : i < s.2.1) (hK : ∀ m, s.1 = some ⟨m, 0, none⟩ → KK m 0) : IdxX s.1 s.2.1 i KK := by
  rcases x.blk with g | ⟨m, pad, g, -⟩
  · have := x.len
    rw [g.2.2] at this
    simp at this
    omega
  · have g2 := g
    rw [g]; exact ⟨⟨⟨h0, h1⟩, hK m g2⟩⟩
section
variable {x : EA}
theorem aC_at (h : x.addr.length = 20) (j : Nat) : (aCells x)[20 + j]? = (Value.int .u64 x.nonce :: (wc x.bal ++ [sl x.cs, .bool x.warm, .bool x.made, .bool x.gone]))[j]? := by
  unfold aCells
  rw [List.getElem?_append_right (by rw [bcells_len, h]; omega), bcells_len, h, Nat.add_sub_cancel_left]
theorem aC_set (h : x.addr.length = 20) (j : Nat) (vs : List Value) : setSeg (aCells x) (20 + j) vs = bcells x.addr ++ setSeg (Value.int .u64 x.nonce :: (wc x.bal ++ [sl x.cs, .bool x.warm, .bool x.made, .bool x.gone])) j vs := by
  have hl : (bcells x.addr).length = 20 := by rw [bcells_len, h]
  unfold aCells setSeg
  rw [← hl, List.take_length_add_append, Nat.add_assoc, List.drop_length_add_append]
  simp only [List.append_assoc]
theorem aC_seg (h : x.addr.length = 20) : X.seg (aCells x) 21 4 = wc x.bal := by
  have hl : (bcells x.addr).length = 20 := by rw [bcells_len, h]
  unfold aCells X.seg
  rw [show (21 : Nat) = (bcells x.addr).length + 1 by rw [hl], List.drop_length_add_append]
  rfl
theorem aS_nonce (h : x.addr.length = 20) (n : Int) : setSeg (aCells x) 20 [.int .u64 n] = aCells { x with nonce := n } := aC_set h 0 _
theorem aS_bal (h : x.addr.length = 20) (n : Int) : setSeg (aCells x) 21 (wc n) = aCells { x with bal := n } := aC_set h 1 _
theorem aS_code (h : x.addr.length = 20) (s : Sl) (l : List Int) : setSeg (aCells x) 25 [sl s] = aCells { x with code := l, cs := s } := aC_set h 5 _
theorem aS_warm (h : x.addr.length = 20) (b : Bool) : setSeg (aCells x) 26 [.bool b] = aCells { x with warm := b } := aC_set h 6 _
theorem aS_made (h : x.addr.length = 20) (b : Bool) : setSeg (aCells x) 27 [.bool b] = aCells { x with made := b } := aC_set h 7 _
theorem aS_gone (h : x.addr.length = 20) (b : Bool) : setSeg (aCells x) 28 [.bool b] = aCells { x with gone := b } := aC_set h 8 _
end
theorem ejA_ok {c : VCore} {i kd : Nat} {n w : Int} {bs : Sl} {b : List Int} {fl : Bool} (C : COK c) (hk : kd = 0 ∨ kd = 1 ∨ kd = 2 ∨ kd = 4 ∨ kd = 9 ∨ kd = 10) (hi : i < c.aL.length) : EJ.ok c ⟨kd, i, n, w, bs, b, fl⟩ := by
  have h5 := C.fewA
  exact ⟨by dsimp only; omega, by dsimp only; omega, fun _ => hi, fun h => by dsimp only at h; omega, fun h => by dsimp only at h; omega⟩
theorem ejS_ok {c : VCore} {i kd : Nat} {n w : Int} {bs : Sl} {b : List Int} {fl : Bool} (C : COK c) (hk : kd = 3 ∨ kd = 5) (hi : i < c.sL.length) : EJ.ok c ⟨kd, i, n, w, bs, b, fl⟩ := by
  have h5 := C.fewS
  exact ⟨by dsimp only; omega, by dsimp only; omega, fun h => by unfold EJ.tgtA at h; dsimp only at h; omega, fun _ => hi, fun h => by dsimp only at h; omega⟩
theorem ejT_ok {c : VCore} {i : Nat} {n w : Int} {bs : Sl} {b : List Int} {fl : Bool} (C : COK c) (hi : i < c.tL.length) : EJ.ok c ⟨8, i, n, w, bs, b, fl⟩ := by
  have h5 := C.fewT
  exact ⟨by dsimp only; omega, by dsimp only; omega, fun h => by unfold EJ.tgtA at h; dsimp only at h; omega, fun h => by dsimp only at h; omega, fun _ => hi⟩
theorem finA {v v2 v4 : VS} {e : EJ} {x' : EA} {w' : AW} (C : COK v.core) (H : Hist v.core sn) (hl : a.length = 20) (hB : isB a) (hrA : v.aL.length < 2560) (hc2 : v2.core = cAcct v.core a) (C2 : COK v2.core) (hx' : x'.addr = (v2.aL.getD (atA v.core a) dA).addr) (eok : e.ok v2.core) (C4 : COK v4.core)
    (hv4 : v4.core = { v2.core with aL := v2.aL.set (atA v.core a) x', jL := v2.jL ++ [e] }) (hw : absC { v2.core with aL := v2.aL.set (atA v.core a) x' } = w') (hb : eW v2.core e w' = absC v2.core) (h7 : e.kind ≠ 7 := by exact Nat.ne_of_beq_eq_false rfl) : absC v4.core = w' ∧ Hist v4.core sn ∧ Up v v4 (newA v a) 0 0 1 ∧ hasA v4 a = true := by
  obtain ⟨q1, q2, q3, q4, q5, q6, q7, q8, q9⟩ := cAcct_all C hl hB hrA
  rw [← hc2] at q1 q2 q3 q4 q5 q6 q7 q8 q9
  have hi2 : atA v.core a < v2.aL.length := by rw [show v2.aL = v2.core.aL from rfl, hc2]; exact atA_lt
  have H2 : Hist v2.core sn := H.same C q3 q4 q2 q5 q6
  have n4 : Nm v2.core v4.core := by rw [hv4]; exact ⟨(Nm.setA hi2 hx').a, (Nm.setA hi2 hx').s, (Nm.setA hi2 hx').t⟩
  refine ⟨?_, ?_, ?_, ?_⟩
  · rw [hv4]; exact hw
  · rw [hv4]
    exact H2.setA C2 hi2 hx' eok (by rw [show v2.core.aL = v2.aL from rfl, hw]; exact hb) h7
  · have e1 : v4.aL = v2.aL.set (atA v.core a) x' := congrArg VCore.aL hv4
    have e2 : v4.sL = v2.sL := congrArg VCore.sL hv4
    have e3 : v4.tL = v2.tL := congrArg VCore.tL hv4
    have e4 : v4.jL = v2.jL ++ [e] := congrArg VCore.jL hv4
    have e5 : v4.nm = v2.nm := congrArg VCore.nm hv4
    refine ⟨?_, ?_, ?_, ?_, fun b hb => has_nm C4 (q3.trans n4) b hb, e5.trans q5⟩
    · rw [e1, List.length_set, show v2.aL = v2.core.aL from rfl, hc2, cAcct_len]
      exact Nat.le_refl _
    · rw [e2]; exact Nat.le_of_eq (congrArg List.length q7)
    · rw [e3]; exact Nat.le_of_eq (congrArg List.length q8)
    · rw [e4, List.length_append, List.length_singleton]; exact Nat.le_of_eq (congrArg (fun l : List EJ => l.length + 1) q4)
  · refine Option.isSome_iff_exists.2 ⟨atA v.core a, idxA_is C4 (n4.a _ hi2).1 ((n4.a _ hi2).2.trans q9)⟩
set_option maxRecDepth 100000 in
set_option maxHeartbeats 4000000 in
theorem warmAcct_ok (hl : a.length = 20) (hB : isB a) (A : VA hi hm eb mc w sn v) (hrA : v.aL.length < 2560) (hrJ : v.jL.length < 65536)
    (hk : ∀ hm' v', VA hi hm' eb mc (wrmW w a true) sn v' → Up v v' (newA v a) 0 0 1 → hasA v' a = true → K (.bool true) (join hi hm')) : CallX Hval.prog 158 [.pointer (some ⟨eb, 2435, none⟩), .agg (bcells a).toArray] (join hi hm) K := by
  have V := A.V
  have hjl := V.jT.len
  rw [List.length_map] at hjl
  refine CallX.of_xf T_ok Hval.func158 rfl (by kernel_rfl) (Nat.le_of_ble_eq_true rfl) ?_; conv => whnf
  refine BoxX.j V.dj fun n1 hin hmn hd1 hE => ?_; conv => whnf
  have bx1 : (hput hi n1 ((bcells a).toArray.toList, 31)) n1 = some (bcells a, 31) := hput_same ..
  generalize hput hi n1 ((bcells a).toArray.toList, 31) = hi1 at *
  have alen : (bcells a).length = (31, y31).snd.size := by rw [bcells_len, hl]; rfl
  refine room_ok (join_hm hd1 V.blk) (by omega) ?_; conv => whnf
  repeat (first | (refine CondX.tt ?_; conv => whnf) | (refine CondX.ff ?_; conv => whnf))
  refine LoadX.all (join_l bx1) alen ?_; conv => whnf
  refine acct_b hE hd1 hl hB V hrA fun hm2 v2 hd2 V2 hc2 => ?_; conv => whnf
  repeat (first | (refine CondX.tt ?_; conv => whnf) | (refine CondX.ff ?_; conv => whnf))
  have hb2 := join_hm hd2 V2.blk
  refine DrawX.go T_ok hM Hval.func158 (tb := dr158) rfl (by kernel_rfl) ?_; conv => whnf
  refine LoadX.fn hb2 10629 rfl (by omega) ?_
  rw [eC_j]; conv => whnf
  refine LoadX.fn hb2 2435 rfl (by omega) ?_
  rw [eC_a]; conv => whnf
  have hc2a : v2.aL = (cAcct v.core a).aL := congrArg VCore.aL hc2
  have hi2 : atA v.core a < v2.aL.length := by rw [hc2a]; exact atA_lt
  have hal := V2.aT.len
  rw [List.length_map] at hal
  have C2 : COK v2.core := V2.cok
  have hx20 : (v2.aL.getD (atA v.core a) dA).addr.length = 20 := (C2.awf _ (getDm hi2)).1.1
  refine IdxX.tag V2.aT (by omega) (by omega) fun ma hma => ?_; conv => whnf
  have ld : ldV false 1 (join hi1 hm2) ma (0 + atA v.core a * 29 + 26) = some (.bool (v2.aL.getD (atA v.core a) dA).warm) := by
    rw [(V2.aT.arr hd2).fld hma (by omega) (by omega), getMap (d := dA) hi2]; exact aC_at hx20 6
  refine LoadX.of _ ld ?_; conv => whnf
  obtain ⟨x, hx⟩ : ∃ x, x = v2.aL.getD (atA v.core a) dA := ⟨_, rfl⟩
  rw [← hx] at hx20 ld ⊢
  refine Ob.mk (by first | decide | omega) ?_; conv => whnf
  refine BoxX.j (vs := jCells ⟨4, atA v.core a, 0, 0, nilS, [], x.warm⟩) hd2 fun m8 hin8 hmn8 hd8 he8 => ?_; conv => whnf
  have hb8 := join_hm hd8 V2.blk
  have ld8 : ldV false 1 (join (hput hi1 m8 (jCells ⟨4, atA v.core a, 0, 0, nilS, [], x.warm⟩, 250)) hm2) ma (0 + atA v.core a * 29 + 26) = some (.bool x.warm) := by
    rw [(V2.aT.arr hd8).fld hma (by omega) (by omega), getMap (d := dA) hi2, ← hx]; exact aC_at hx20 6
  repeat (refine Ob.mk (by first | exact ldV_fn hb8 10629 rfl (by omega) | exact ldV_fn hb8 2435 rfl (by omega) | exact ld8) ?_; conv => whnf)
  have hjl2 := V2.jT.len
  rw [List.length_map] at hjl2
  have hjc : v2.jL = v.jL := (congrArg VCore.jL hc2).trans (cAcct_all V.cok hl hB hrA).2.2.2.1
  refine AppendX.tag (new := jCells ⟨4, atA v.core a, 0, 0, nilS, [], x.warm⟩) hd8 V2.jT (rd_ext (Ext.jl _ _) (rd_own rfl)) rfl rfl rfl (by decide) (Nat.le_trans (Nat.mul_le_mul_right _ (show v2.jS.2.1 + 1 ≤ 65536 by rw [← hjl2, hjc]; omega)) (by decide)) fun s' hm3 hd3 jT3 kp3 => ?_; conv => whnf
  have hb3 := kp3 _ _ _ (by decide) V2.blk
  refine StoreX.jf hd3 hb3 10629 rfl (by omega) fun hd4 => ?_
  rw [show Value.slice s'.1 s'.2.1 s'.2.2 = sl s' from rfl, eU_j] at hd4 ⊢; conv => whnf
  have hEx := hE.trans he8
  have eok : EJ.ok v2.core ⟨4, atA v.core a, 0, 0, nilS, [], x.warm⟩ := ejA_ok C2 (by decide) hi2
  have CJ := cokJ C2 eok ⟨Int.le_refl 0, by show (0 : Int) < 18446744073709551616; decide⟩ ⟨Int.le_refl 0, W_pos⟩ (by rw [show v2.core.jL = v2.jL from rfl, hjc]; exact hrJ)
  have V3 := V2.setJ (hd3.le hEx) kp3 (s' := s') (jL' := v2.jL ++ [⟨4, atA v.core a, 0, 0, nilS, [], x.warm⟩]) (by rw [List.map_append]; exact jT3) (fun y hy => by
    rcases List.mem_append.1 hy with h1 | h1
    · exact V2.jc y h1
    · rw [List.mem_singleton.1 h1]; exact Byt_nil hi) CJ
  refine LoadX.fn (join_hm hd4 V3.blk) 2435 rfl (by omega) ?_
  rw [eC_a]; conv => whnf
  refine IdxX.tag V3.aT (by show (0 : Int) ≤ atA v.core a; omega) (by show ((atA v.core a : Nat) : Int) < v2.aS.2.1; omega) fun mb hmb => ?_; conv => whnf
  have hxm : x ∈ v2.aL := by rw [hx]; exact getDm hi2
  have hxw := C2.awf x hxm
  refine StoreX.tag hd4 V3.aT hmb (k := atA v.core a) (o := 26) (new := aCells { x with warm := true }) (by show atA v.core a < v2.aS.2.1; omega) (by decide) (by show 0 + atA v.core a * 29 + 26 = _; omega) (by show setSeg ((v2.aL.map aCells).getD _ []) _ _ = _; rw [getMap (d := dA) hi2, ← hx]; exact aS_warm hx20 true) (aCells_one _) fun hm4 hd5 aT4 kp4 => ?_; conv => whnf
  refine RetX.drop (h' := join hi hm4) (Ext.j2 hEx hd5 (Ext.refl _)) ?_
  have CA : COK { v2.core with aL := v2.aL.set (atA v.core a) { x with warm := true } } := cokA C2 hi2 (by rw [hx]; rfl) hxw.2.1 hxw.2.2
  have CF : COK { v2.core with jL := v2.jL ++ [⟨4, atA v.core a, 0, 0, nilS, [], x.warm⟩], aL := v2.aL.set (atA v.core a) { x with warm := true } } := cokA (c := { v2.core with jL := v2.jL ++ [⟨4, atA v.core a, 0, 0, nilS, [], x.warm⟩] }) CJ hi2 (by rw [hx]; rfl) hxw.2.1 hxw.2.2
  have V4 := V3.modA (Ext.refl hi) (hd5.le hEx) kp4 (i := atA v.core a) (x := { x with warm := true }) hi2 (by rw [hx]) (by show ArrT hm4 230 v2.aS 29 ((v2.aL.set _ _).map aCells); rw [List.map_set]; exact aT4) (V2.ac x hxm) CF
  have hnm : nameA v2.core (atA v.core a) = a := by rw [hc2]; exact (cAcct_all V.cok hl hB hrA).2.2.2.2.2.2.2.2
  have hab : absC v2.core = w := by rw [hc2, (cAcct_all V.cok hl hB hrA).2.1]; exact A.abs
  have hsw := set_warm C2 hi2 true (by rw [show v2.core.aL = v2.aL from rfl, ← hx]; exact CA)
  rw [hnm, hab, show v2.core.aL = v2.aL from rfl, ← hx] at hsw
  obtain ⟨f1, f2, f3, f4⟩ := finA (v4 := _) V.cok A.hist hl hB hrA hc2 C2 (x' := { x with warm := true }) (by rw [hx]) eok V4.cok rfl hsw (by
    show wrmW (wrmW w a true) (nameA v2.core (atA v.core a)) x.warm = _
    have := warm_at C2 hi2
    rw [hnm, hab, show v2.core.aL = v2.aL from rfl, ← hx] at this
    rw [hnm, hab, ← this]; exact wrm_back w a true)
  exact hk _ _ ⟨V4, f1, f2, fun y hy => A.orig y (by rw [show v.sL = v.core.sL from rfl, ← (cAcct_all V.cok hl hB hrA).2.2.2.2.2.2.1, ← hc2]; exact hy)⟩ f3 f4
end
end Go.Proofs.YgvalwGreat.X
