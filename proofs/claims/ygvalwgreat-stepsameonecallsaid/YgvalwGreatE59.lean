import Derived.Test.YgvalwGreatE58
set_option linter.unusedVariables false
set_option linter.unusedSimpArgs false
namespace Go.Proofs.YgvalwGreat.X
open Go

section
variable {h hi hm : Hp} {K : Value → Hp → Prop} {mc : Nat → Value} {v : VS} {eb : Nat} {w : AW} {sn : List AW} {a : List Int}
def lgC (a : List Int) (ts ds : Sl) : List Value := bcells a ++ [sl ts, sl ds]
theorem lgC_len (h : a.length = 20) (ts ds : Sl) : (lgC a ts ds).length = 22 := by unfold lgC; simp [bcells_len, h]
theorem lgC_one (a : List Int) (ts ds : Sl) : ones (lgC a ts ds) = true := ones_append (ones_bcells _) rfl
theorem lgC_at (h : a.length = 20) (ts ds : Sl) (j : Nat) : (lgC a ts ds)[20 + j]? = [sl ts, sl ds][j]? := by
  unfold lgC
  rw [List.getElem?_append_right (by rw [bcells_len, h]; omega), bcells_len, h, Nat.add_sub_cancel_left]
theorem lgC_set (h : a.length = 20) (ts ds : Sl) (j : Nat) (vs : List Value) : setSeg (lgC a ts ds) (20 + j) vs = bcells a ++ setSeg [sl ts, sl ds] j vs := by
  have hl : (bcells a).length = 20 := by rw [bcells_len, h]
  unfold lgC setSeg
  rw [← hl, List.take_length_add_append, Nat.add_assoc, List.drop_length_add_append]
  simp only [List.append_assoc]
theorem ldV_cell {b o sz : Nat} {c : List Value} {t : TypeId} {x : Value} (hb : h b = some (c, t)) (hx : c[o]? = some x) : ldV false sz h b o = some x := by
  simp only [ldV, hb]; exact hx
set_option maxRecDepth 100000 in
set_option maxHeartbeats 4000000 in
theorem copiedLog_ok {ts ds : Sl} {l : List Int} {tc : List Value} (hl : a.length = 20) (hd : BytS h ds l) (ht : rd h ts.1 (ts.2.1 * 32) = some tc) (hto : ones tc = true) (ht4 : ts.2.1 ≤ 4)
    (hk : ∀ ts' ds' h', Ext h h' → K (.agg (lgC a ts' ds').toArray) h') : CallX Hval.prog 381 [.agg (lgC a ts ds).toArray] h K := by
  have hll := lgC_len hl ts ds
  refine CallX.of_xf T_ok Hval.func381 rfl (by kernel_rfl) (Nat.le_of_ble_eq_true rfl) ?_; conv => whnf
  refine BoxX.ext fun n1 hn1 en1 => ?_; conv => whnf
  refine BoxX.ext fun n2 hn2 en2 => ?_; conv => whnf
  have hne : n1 ≠ n2 := fun e => by have := hn2.at; rw [← e, hput_same] at this; cases this
  have b1 : hput (hput h n1 ((lgC a ts ds).toArray.toList, 286)) n2 ((286, y286).snd.zero, 286) n1 = some (lgC a ts ds, 286) := by rw [hput_ne hne]; exact hput_same ..
  have b2 : hput (hput h n1 ((lgC a ts ds).toArray.toList, 286)) n2 ((286, y286).snd.zero, 286) n2 = some ((286, y286).snd.zero, 286) := hput_same ..
  have eH := en1.trans en2
  have hn1h : h n1 = none := hn1.at
  have hn2h : h n2 = none := by
    cases hx : h n2 with
    | none => rfl
    | some y => have := en1 _ _ hx; rw [hn2.at] at this; cases this
  generalize hput (hput h n1 ((lgC a ts ds).toArray.toList, 286)) n2 ((286, y286).snd.zero, 286) = H at b1 b2 eH ⊢
  refine LoadX.of _ (ldV_cell b1 (lgC_at hl ts ds 1)) ?_; conv => whnf
  refine copiedV_ok (hd.ext eH) fun ds' H2 e2 hds => ?_; conv => whnf
  refine StoreX.at (e2 _ _ b1) (by rw [hll]; exact Nat.le_of_ble_eq_true rfl) ?_
  rw [show setSeg (lgC a ts ds) (0 + (fd 21 23).offset) [Value.slice ds'.1 ds'.2.1 ds'.2.2] = lgC a ts ds' from lgC_set hl ts ds 1 _]; conv => whnf
  have eH2 : Ext h (hput H2 n1 (lgC a ts ds', 286)) := Ext.keep (eH.trans e2) hn1h
  have b1' : hput H2 n1 (lgC a ts ds', 286) n1 = some (lgC a ts ds', 286) := hput_same ..
  have b2' : hput H2 n1 (lgC a ts ds', 286) n2 = some ((286, y286).snd.zero, 286) := by rw [hput_ne hne.symm]; exact e2 _ _ b2
  generalize hput H2 n1 (lgC a ts ds', 286) = H3 at b1' b2' eH2 ⊢
  refine LoadX.of _ (ldV_cell b1' (lgC_at hl ts ds' 0)) ?_; conv => whnf
  have fin : ∀ (ts' : Sl) (H4 : Hp), Ext h H4 → H4 n1 = some (lgC a ts' ds', 286) → H4 n2 = some ((286, y286).snd.zero, 286) → Ext h (hput H4 n2 (lgC a ts' ds', 286)) := fun _ H4 e4 _ _ => Ext.keep e4 hn2h
  refine CondX.eqI (fun hc => ?_) (fun hc => ?_) <;> conv => whnf
  · refine StoreX.at b1' (by rw [lgC_len hl]; exact Nat.le_of_ble_eq_true rfl) ?_
    rw [show setSeg (lgC a ts ds') (0 + (fd 20 34).offset) [Value.slice none 0 0] = lgC a nilS ds' from lgC_set hl ts ds' 0 _]; conv => whnf
    refine LoadX.all (c := lgC a nilS ds') (hput_same ..) (by rw [lgC_len hl]; rfl) ?_; conv => whnf
    refine Ob.mk ⟨by show (lgC a nilS ds').length = 22; exact lgC_len hl _ _, lgC_one _ _ _⟩ ?_; conv => whnf
    refine StoreX.whole (c := (286, y286).snd.zero) (t := 286) (by rw [hput_ne hne.symm]; exact b2') (by show (lgC a nilS ds').length = 22; exact lgC_len hl _ _) ?_; conv => whnf
    refine LoadX.all (c := lgC a nilS ds') (hput_same ..) (by rw [lgC_len hl]; rfl) ?_; conv => whnf
    exact RetX.same (hk nilS ds' _ (Ext.keep (Ext.keep eH2 hn1h) hn2h))
  · refine LoadX.of _ (ldV_cell b1' (lgC_at hl ts ds' 0)) ?_; conv => whnf
    refine ⟨by decide, by omega, by omega, by show (ts.2.1 : Int) * 32 ≤ 2 ^ 47; omega, fun m hm => ?_⟩
    conv => whnf
    have hmn := hm.at
    have hm1 : n1 ≠ m := fun e => by rw [← e, b1'] at hmn; cases hmn
    have hm2 : n2 ≠ m := fun e => by rw [← e, b2'] at hmn; cases hmn
    refine LoadX.of _ (ldV_cell (by rw [hput_ne hm1]; exact b1') (lgC_at hl ts ds' 0)) ?_; conv => whnf
    rw [Int.toNat_natCast]
    have eM : Ext h (hput H3 m (zeros (33, y33).snd.zero ts.2.1, 33)) := eH2.trans (Ext.bd hm)
    refine ⟨tc, ?_, zeros (33, y33).snd.zero ts.2.1, 33, hput_same .., ?_, hto, ?_⟩
    · rw [show Nat.min ts.2.1 ts.2.1 = ts.2.1 from Nat.min_self _]
      exact rd_ext eM ht
    · have h1 := rd_len ht
      rw [h1]
      show 0 + ts.2.1 * 32 ≤ (List.replicate ts.2.1 _).flatten.length
      rw [List.length_flatten, List.map_replicate, List.sum_replicate_nat]
      show 0 + ts.2.1 * 32 ≤ ts.2.1 * 32
      omega
    · conv => whnf
      refine StoreX.at (by rw [hput_hput, hput_ne hm1]; exact b1') (by rw [lgC_len hl]; exact Nat.le_of_ble_eq_true rfl) ?_
      rw [show setSeg (lgC a ts ds') (0 + (fd 20 34).offset) [Value.slice (some ⟨m, 0, none⟩) ts.2.1 ts.2.1] = lgC a (some ⟨m, 0, none⟩, ts.2.1, ts.2.1) ds' from lgC_set hl ts ds' 0 _, hput_hput]; conv => whnf
      refine LoadX.all (c := lgC a (some ⟨m, 0, none⟩, ts.2.1, ts.2.1) ds') (hput_same ..) (by rw [lgC_len hl]; rfl) ?_; conv => whnf
      refine Ob.mk ⟨by show (lgC a _ ds').length = 22; exact lgC_len hl _ _, lgC_one _ _ _⟩ ?_; conv => whnf
      refine StoreX.whole (c := (286, y286).snd.zero) (t := 286) (by rw [hput_ne hne.symm, hput_ne hm2]; exact b2') (by show (lgC a _ ds').length = 22; exact lgC_len hl _ _) ?_; conv => whnf
      refine LoadX.all (c := lgC a (some ⟨m, 0, none⟩, ts.2.1, ts.2.1) ds') (hput_same ..) (by rw [lgC_len hl]; rfl) ?_; conv => whnf
      refine RetX.same (hk _ ds' _ (Ext.keep (Ext.keep (Ext.keep eH2 ?_) hn1h) hn2h))
      cases hx : h m with
      | none => rfl
      | some y => have := eH2 _ _ hx; rw [hmn] at this; cases this
set_option maxRecDepth 100000 in
set_option maxHeartbeats 4000000 in
theorem putLog_ok {ts ds : Sl} {l : List Int} {tc : List Value} (hl : a.length = 20) (hB : isB a) (hd : BytS hi ds l) (hdl : l.length ≤ 717280) (ht : rd hi ts.1 (ts.2.1 * 32) = some tc) (hto : ones tc = true) (ht4 : ts.2.1 ≤ 4)
    (A : VA hi hm eb mc w sn v) (hrL : w.nlogs < 2800) (hrJ : v.jL.length < 65536)
    (hk : ∀ hi' hm' v', Ext hi hi' → VA hi' hm' eb mc { w with nlogs := w.nlogs + 1 } sn v' → Up v v' 0 0 0 1 → K (.bool true) (join hi' hm')) : CallX Hval.prog 360 [.pointer (some ⟨eb, 2435, none⟩), .agg (lgC a ts ds).toArray] (join hi hm) K := by
  have V := A.V
  have hjl := V.jT.len
  rw [List.length_map] at hjl
  have hll := V.lT.len
  have hwl : w.nlogs = v.lL.length := by rw [← A.abs]; rfl
  rw [hwl] at hrL
  have hdn := hd.len
  refine CallX.of_xf T_ok Hval.func360 rfl (by kernel_rfl) (Nat.le_of_ble_eq_true rfl) ?_; conv => whnf
  refine BoxX.j V.dj fun n1 hin hmn hd1 hE => ?_; conv => whnf
  have bx1 : (hput hi n1 ((lgC a ts ds).toArray.toList, 286)) n1 = some (lgC a ts ds, 286) := hput_same ..
  generalize hput hi n1 ((lgC a ts ds).toArray.toList, 286) = hi1 at *
  have hb1 := join_hm hd1 V.blk
  refine room_ok hb1 (by omega) ?_; conv => whnf
  repeat (first | (refine CondX.tt ?_; conv => whnf) | (refine CondX.ff ?_; conv => whnf))
  refine LoadX.fn hb1 27016 rfl (by omega) ?_
  rw [eC_l]; conv => whnf
  repeat (first | (refine CondX.tt ?_; conv => whnf) | (refine CondX.ff ?_; conv => whnf))
  refine CondX.dF (by omega) ?_; conv => whnf
  repeat (first | (refine CondX.tt ?_; conv => whnf) | (refine CondX.ff ?_; conv => whnf))
  refine LoadX.of _ (ldV_cell (join_l bx1) (lgC_at hl ts ds 0)) ?_; conv => whnf
  repeat (first | (refine CondX.tt ?_; conv => whnf) | (refine CondX.ff ?_; conv => whnf))
  refine CondX.dF (by omega) ?_; conv => whnf
  repeat (first | (refine CondX.tt ?_; conv => whnf) | (refine CondX.ff ?_; conv => whnf))
  refine LoadX.of _ (ldV_cell (join_l bx1) (lgC_at hl ts ds 1)) ?_; conv => whnf
  repeat (first | (refine CondX.tt ?_; conv => whnf) | (refine CondX.ff ?_; conv => whnf))
  refine CondX.dF (by omega) ?_; conv => whnf
  repeat (first | (refine CondX.tt ?_; conv => whnf) | (refine CondX.ff ?_; conv => whnf))
  refine LoadX.fn hb1 10629 rfl (by omega) ?_
  rw [eC_j]; conv => whnf
  refine Ob.mk (by first | decide | omega) ?_; conv => whnf
  refine BoxX.j (vs := jCells ⟨7, 0, 0, 0, nilS, [], false⟩) hd1 fun m8 hin8 hmn8 hd8 he8 => ?_; conv => whnf
  refine AppendX.tag (new := jCells ⟨7, 0, 0, 0, nilS, [], false⟩) hd8 V.jT (rd_ext (Ext.jl _ _) (rd_own rfl)) rfl rfl rfl (by decide) (Nat.le_trans (Nat.mul_le_mul_right _ (show v.jS.2.1 + 1 ≤ 65536 by omega)) (by decide)) fun s' hm3 hd3 jT3 kp3 => ?_; conv => whnf
  have hb3 := kp3 _ _ _ (by decide) V.blk
  refine StoreX.jf hd3 hb3 10629 rfl (by omega) fun hd4 => ?_
  rw [show Value.slice s'.1 s'.2.1 s'.2.2 = sl s' from rfl, eU_j] at hd4 ⊢; conv => whnf
  have hEx := hE.trans he8
  have eok : EJ.ok v.core ⟨7, 0, 0, 0, nilS, [], false⟩ := ej0_ok (by decide)
  have CJ := cokJ V.cok eok ⟨Int.le_refl 0, by show (0 : Int) < 18446744073709551616; decide⟩ ⟨Int.le_refl 0, W_pos⟩ hrJ
  have V3 := V.setJ (hd3.le hEx) kp3 (s' := s') (jL' := v.jL ++ [⟨7, 0, 0, 0, nilS, [], false⟩]) (by rw [List.map_append]; exact jT3) (fun y hy => by
    rcases List.mem_append.1 hy with h1 | h1
    · exact V.jc y h1
    · rw [List.mem_singleton.1 h1]; exact Byt_nil hi) CJ
  refine DrawX.go T_ok hM Hval.func360 (tb := dr360) rfl (by kernel_rfl) ?_; conv => whnf
  refine LoadX.fn (join_hm hd4 V3.blk) 27016 rfl (by omega) ?_
  rw [eC_l]; conv => whnf
  refine LoadX.all (c := lgC a ts ds) (join_l (he8 _ _ bx1)) (by rw [lgC_len hl]; rfl) ?_; conv => whnf
  refine CallX.fj hd4 (copiedLog_ok hl (hd.ext hEx) (rd_ext hEx ht) hto ht4 fun ts' ds' hi9 e9 hd9 => ?_); conv => whnf
  refine Ob.mk (ldV_fn (join_hm hd9 V3.blk) 27016 rfl (by omega)) ?_; conv => whnf
  have nlen := lgC_len hl ts' ds'
  erw [fillL_box (v := lgC a ts' ds') nlen rfl]; conv => whnf
  refine Ob.mk (by first | decide | omega) ?_; conv => whnf
  refine BoxX.j (vs := lgC a ts' ds') hd9 fun m10 hin10 hmn10 hd10 he10 => ?_; conv => whnf
  refine Ob.mk (ldV_fn (join_hm hd10 V3.blk) 27016 rfl (by omega)) ?_; conv => whnf
  refine AppendX.tag (new := lgC a ts' ds') hd10 V3.lT (rd_ext (Ext.jl _ _) (rd_own nlen)) nlen rfl (lgC_one _ _ _) (by decide) (Nat.le_trans (Nat.mul_le_mul_right _ (show v.lS.2.1 + 1 ≤ 2800 by omega)) (by decide)) fun s2 hm5 hd5 lT5 kp5 => ?_; conv => whnf
  have hb5 := kp5 _ _ _ (by decide) V3.blk
  refine StoreX.jf hd5 hb5 27016 rfl (by omega) fun hd6 => ?_
  rw [show Value.slice s2.1 s2.2.1 s2.2.2 = sl s2 from rfl, eU_l] at hd6 ⊢; conv => whnf
  have hEy := (hEx.trans e9).trans he10
  have CL : COK { v.core with jL := v.jL ++ [⟨7, 0, 0, 0, nilS, [], false⟩], nl := v.lL.length + 1 } := ⟨CJ.fewA, CJ.fewS, CJ.fewT, CJ.fewJ, by show v.lL.length + 1 ≤ 2800; omega, CJ.awf, CJ.swf, CJ.twf, CJ.jwf, CJ.adis, CJ.sdis, CJ.tdis, CJ.ref, CJ.nm, CJ.mks⟩
  have V4 := V3.setL hEy hd5 kp5 lT5 (by
    show COK { v.core with jL := v.jL ++ [⟨7, 0, 0, 0, nilS, [], false⟩], nl := (v.lL ++ [lgC a ts' ds']).length }
    rw [List.length_append]; exact CL)
  refine RetX.same (hk _ _ _ hEy ⟨V4, ?_, ?_, A.orig⟩ ⟨Nat.le_refl _, Nat.le_refl _, Nat.le_refl _, by show (v.jL ++ [_]).length ≤ _; simp, fun b hb => hb, rfl⟩)
  · rw [← A.abs]
    show (⟨_, _, _, _, (v.lL ++ [lgC a ts' ds']).length, _, _, _⟩ : AW) = _
    rw [List.length_append]; rfl
  · refine A.hist.push V.cok (e := ⟨7, 0, 0, 0, nilS, [], false⟩) (Nm.of_eq rfl rfl rfl) rfl ?_ rfl rfl (by show (v.lL ++ [lgC a ts' ds']).length = v.lL.length + 1; rw [List.length_append]; rfl)
    show (⟨_, _, _, _, (v.lL ++ [lgC a ts' ds']).length - 1, _, _, _⟩ : AW) = _
    rw [List.length_append]; rfl
end
end Go.Proofs.YgvalwGreat.X
