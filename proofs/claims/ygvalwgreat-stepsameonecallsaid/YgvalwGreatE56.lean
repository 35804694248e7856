import Derived.Test.YgvalwGreatE55
set_option linter.unusedVariables false
set_option linter.unusedSimpArgs false
namespace Go.Proofs.YgvalwGreat.X
open Go

section
variable {hi hi0 hi' hm hm' : Hp} {K : Value → Hp → Prop} {mc : Nat → Value} {v : VS} {eb : Nat} {w : AW} {sn : List AW} {a : List Int}
/-- A change of the counters. -/
theorem VOK.setB (V : VOK hi hm eb mc v) {r : Int} {n : Int} {m : Nat → Int} (cok : COK { v.core with ref := r, nm := n, mks := m }) : VOK hi (hput hm eb (fnv 27024 (eC mc { v with ref := r, nm := n, mks := m }), 101)) eb mc { v with ref := r, nm := n, mks := m } := by
  have kp : KpT 101 hm (hput hm eb (fnv 27024 (eC mc { v with ref := r, nm := n, mks := m }), 101)) := KpT.put V.blk
  refine ⟨V.dj.put V.blk, hput_same .., V.aT.kp kp (by decide), V.sT.kp kp (by decide), V.jT.kp kp (by decide), V.lT.kp kp (by decide), V.tT.kp kp (by decide), ?_, V.atab, V.stab, V.ac, V.jc, cok⟩
  rcases V.ttT with h1 | ⟨m, h1, h2, h3⟩
  · exact .inl h1
  · exact .inr ⟨m, h1, kp _ _ _ (by decide) h2, h3⟩
theorem COK.setB {c : VCore} (C : COK c) {r n : Int} {m : Nat → Int} (hr : 0 ≤ r ∧ r < 18446744073709551616) (hn : 0 ≤ n ∧ n ≤ 16384) (hm : ∀ i : Nat, (i : Int) < n → 0 ≤ m i ∧ m i ≤ 65536) : COK { c with ref := r, nm := n, mks := m } :=
  ⟨C.fewA, C.fewS, C.fewT, C.fewJ, C.fewL, C.awf, C.swf, C.twf, C.jwf, C.adis, C.sdis, C.tdis, hr, hn, hm⟩
theorem ej0_ok {c : VCore} {kd : Nat} {n w : Int} {bs : Sl} {b : List Int} {fl : Bool} (hk : kd = 6 ∨ kd = 7) : EJ.ok c ⟨kd, 0, n, w, bs, b, fl⟩ :=
  ⟨by dsimp only; omega, by dsimp only; omega, fun h => by unfold EJ.tgtA at h; dsimp only at h; omega, fun h => by dsimp only at h; omega, fun h => by dsimp only at h; omega⟩
set_option maxRecDepth 100000 in
set_option maxHeartbeats 4000000 in
theorem refundUp_ok {n : Int} (hn : 0 ≤ n) (A : VA hi hm eb mc w sn v) (hsum : w.ref + n ≤ 209715200) (hrJ : v.jL.length < 65536)
    (hk : ∀ hm' v', VA hi hm' eb mc { w with ref := w.ref + n } sn v' → Up v v' 0 0 0 1 → K (.bool true) (join hi hm')) : CallX Hval.prog 291 [.pointer (some ⟨eb, 2435, none⟩), .int .u64 n] (join hi hm) K := by
  have V := A.V
  have hjl := V.jT.len
  rw [List.length_map] at hjl
  have hwr : w.ref = v.ref := by rw [← A.abs]; rfl
  have hr0 : 0 ≤ v.ref ∧ v.ref < 18446744073709551616 := V.cok.ref
  rw [hwr] at hsum
  refine CallX.of_xf T_ok Hval.func291 rfl (by kernel_rfl) (Nat.le_of_ble_eq_true rfl) ?_; conv => whnf
  have hb := join_hm V.dj V.blk
  refine room_ok hb (by omega) ?_; conv => whnf
  repeat (first | (refine CondX.tt ?_; conv => whnf) | (refine CondX.ff ?_; conv => whnf))
  refine LoadX.fn hb 27015 rfl (by omega) ?_
  rw [eC_ref]; conv => whnf
  repeat (first | (refine CondX.tt ?_; conv => whnf) | (refine CondX.ff ?_; conv => whnf))
  refine CondX.dF (by omega) ?_; conv => whnf
  repeat (first | (refine CondX.tt ?_; conv => whnf) | (refine CondX.ff ?_; conv => whnf))
  refine LoadX.fn hb 27015 rfl (by omega) ?_
  rw [eC_ref]; conv => whnf
  repeat (first | (refine CondX.tt ?_; conv => whnf) | (refine CondX.ff ?_; conv => whnf))
  rw [show IntKind.u64.wrap (209715200 - v.ref) = 209715200 - v.ref by rw [wrap_u64']; omega]
  refine CondX.dF (by omega) ?_; conv => whnf
  repeat (first | (refine CondX.tt ?_; conv => whnf) | (refine CondX.ff ?_; conv => whnf))
  refine DrawX.go T_ok hM Hval.func291 (tb := dr291) rfl (by kernel_rfl) ?_; conv => whnf
  refine LoadX.fn hb 10629 rfl (by omega) ?_
  rw [eC_j]; conv => whnf
  refine LoadX.fn hb 27015 rfl (by omega) ?_
  rw [eC_ref]; conv => whnf
  refine Ob.mk (by first | decide | omega) ?_; conv => whnf
  refine BoxX.j (vs := jCells ⟨6, 0, v.ref, 0, nilS, [], false⟩) V.dj fun m8 hin8 hmn8 hd8 he8 => ?_; conv => whnf
  have hb8 := join_hm hd8 V.blk
  repeat (refine Ob.mk (by first | exact ldV_fn hb8 10629 rfl (by omega) | exact ldV_fn hb8 27015 rfl (by omega)) ?_; conv => whnf)
  refine AppendX.tag (new := jCells ⟨6, 0, v.ref, 0, nilS, [], false⟩) hd8 V.jT (rd_ext (Ext.jl _ _) (rd_own rfl)) rfl rfl rfl (by decide) (Nat.le_trans (Nat.mul_le_mul_right _ (show v.jS.2.1 + 1 ≤ 65536 by omega)) (by decide)) fun s' hm3 hd3 jT3 kp3 => ?_; conv => whnf
  have hb3 := kp3 _ _ _ (by decide) V.blk
  refine StoreX.jf hd3 hb3 10629 rfl (by omega) fun hd4 => ?_
  rw [show Value.slice s'.1 s'.2.1 s'.2.2 = sl s' from rfl, eU_j] at hd4 ⊢; conv => whnf
  have eok : EJ.ok v.core ⟨6, 0, v.ref, 0, nilS, [], false⟩ := ej0_ok (by decide)
  have CJ := cokJ V.cok eok ⟨hr0.1, by show v.ref < 18446744073709551616; omega⟩ ⟨Int.le_refl 0, W_pos⟩ hrJ
  have V3 := V.setJ (hd3.le he8) kp3 (s' := s') (jL' := v.jL ++ [⟨6, 0, v.ref, 0, nilS, [], false⟩]) (by rw [List.map_append]; exact jT3) (fun y hy => by
    rcases List.mem_append.1 hy with h1 | h1
    · exact V.jc y h1
    · rw [List.mem_singleton.1 h1]; exact Byt_nil hi) CJ
  refine LoadX.fn (join_hm hd4 V3.blk) 27015 rfl (by omega) ?_
  rw [eC_ref]; conv => whnf
  rw [show IntKind.u64.wrap (v.ref + n) = v.ref + n by rw [wrap_u64']; omega]
  refine StoreX.jf hd4 V3.blk 27015 rfl (by omega) fun hd5 => ?_
  rw [eU_ref, hput_hput] at hd5 ⊢; conv => whnf
  refine RetX.drop (h' := join hi (hput hm3 eb (fnv 27024 (eC mc { v with jS := s', jL := v.jL ++ [⟨6, 0, v.ref, 0, nilS, [], false⟩], ref := v.ref + n }), 101))) (Ext.j2 he8 hd5 (Ext.refl _)) ?_
  have CF := COK.setB CJ (r := v.ref + n) (n := v.nm) (m := v.mks) ⟨by omega, by omega⟩ V.cok.nm V.cok.mks
  have V4 := V3.setB (r := v.ref + n) (n := v.nm) (m := v.mks) CF
  rw [hput_hput] at V4
  refine hk _ _ ⟨V4, ?_, ?_, A.orig⟩ ⟨Nat.le_refl _, Nat.le_refl _, Nat.le_refl _, by show (v.jL ++ [_]).length ≤ _; simp, fun b hb => hb, rfl⟩
  · rw [← A.abs]; rfl
  · refine A.hist.push V.cok (e := ⟨6, 0, v.ref, 0, nilS, [], false⟩) (Nm.of_eq rfl rfl rfl) rfl ?_ rfl rfl rfl
    rfl
theorem Hist.snap {c : VCore} (H : Hist c sn) : Hist { c with nm := ((sn.length + 1 : Nat) : Int), mks := updN c.mks sn.length c.jL.length } (sn ++ [absC c]) := by
  refine ⟨?_, fun i x hx => ?_, fun i j hij hj => ?_, H.lg⟩
  · show ((sn.length + 1 : Nat) : Int) = (sn ++ [absC c]).length; simp
  · by_cases h1 : i < sn.length
    · rw [List.getElem?_append_left h1] at hx
      obtain ⟨n, g1, g2, g3⟩ := H.at_ i x hx
      refine ⟨n, ?_, g2, g3⟩
      show updN c.mks sn.length c.jL.length i = n
      unfold updN; rw [if_neg (by omega)]; exact g1
    · have h2 : i = sn.length := by
        have := (List.getElem?_eq_some_iff.1 hx).1
        rw [List.length_append, List.length_singleton] at this
        omega
      subst h2
      rw [List.getElem?_append_right (Nat.le_refl _), Nat.sub_self] at hx
      injection hx with hx
      refine ⟨c.jL.length, ?_, Nat.le_refl _, ?_⟩
      · show updN c.mks sn.length c.jL.length sn.length = _
        unfold updN; rw [if_pos rfl]
      · unfold back
        dsimp only
        rw [List.drop_length, ← hx]; rfl
  · rw [List.length_append, List.length_singleton] at hj
    show updN c.mks sn.length c.jL.length i ≤ updN c.mks sn.length c.jL.length j
    unfold updN
    by_cases h1 : j = sn.length
    · rw [if_pos h1]
      by_cases h2 : i = sn.length
      · rw [if_pos h2]; exact Int.le_refl _
      · rw [if_neg h2]
        obtain ⟨n, g1, g2, -⟩ := H.at_ i _ (List.getElem?_eq_getElem (by omega))
        omega
    · rw [if_neg h1, if_neg (by omega)]; exact H.mono i j hij (by omega)
set_option maxRecDepth 100000 in
set_option maxHeartbeats 4000000 in
theorem snap_ok (A : VA hi hm eb mc w sn v) (hrm : sn.length < 16384)
    (hk : ∀ hm' v', VA hi hm' eb mc w (sn ++ [w]) v' → v'.aL = v.aL → v'.sL = v.sL → v'.tL = v.tL → v'.jL = v.jL → K (.int .i32 sn.length) (join hi hm')) : CallX Hval.prog 164 [.pointer (some ⟨eb, 2435, none⟩)] (join hi hm) K := by
  have V := A.V
  have hjl := V.jT.len
  rw [List.length_map] at hjl
  have hnm : v.nm = sn.length := A.hist.nm
  have hfj : v.jL.length ≤ 65536 := V.cok.fewJ
  refine CallX.of_xf T_ok Hval.func164 rfl (by kernel_rfl) (Nat.le_of_ble_eq_true rfl) ?_; conv => whnf
  have hb := join_hm V.dj V.blk
  refine LoadX.fn hb 27014 rfl (by omega) ?_
  rw [eC_nm]; conv => whnf
  refine CondX.dF (by omega) ?_; conv => whnf
  repeat (first | (refine CondX.tt ?_; conv => whnf) | (refine CondX.ff ?_; conv => whnf))
  refine LoadX.fn hb 27014 rfl (by omega) ?_
  rw [eC_nm]; conv => whnf
  repeat (first | (refine CondX.tt ?_; conv => whnf) | (refine CondX.ff ?_; conv => whnf))
  refine CondX.dF (by omega) ?_; conv => whnf
  repeat (first | (refine CondX.tt ?_; conv => whnf) | (refine CondX.ff ?_; conv => whnf))
  refine DrawX.go T_ok hM Hval.func164 (tb := dr164) rfl (by kernel_rfl) ?_; conv => whnf
  refine LoadX.fn hb 27014 rfl (by omega) ?_
  rw [eC_nm]; conv => whnf
  refine LoadX.fn hb 10629 rfl (by omega) ?_
  rw [eC_j]; conv => whnf
  refine Ob.mk ⟨by omega, by omega⟩ ?_; conv => whnf
  have e32 : IntKind.i32.wrap (v.jS.2.1 : Int) = v.jL.length := by rw [wrap_i32 (by omega) (by omega)]; omega
  rw [e32, hnm]
  refine StoreX.jf V.dj V.blk (10630 + sn.length) (by rw [Int.toNat_natCast, show (fd 8195 89).offset = 8195 from rfl, show (21, y21).snd.size = 1 from rfl]; omega) (by omega) fun hd5 => ?_
  rw [eU_mk hrm] at hd5 ⊢; conv => whnf
  refine LoadX.fn (join_hm hd5 (hput_same ..)) 27014 rfl (by omega) ?_
  rw [eC_nm]; conv => whnf
  rw [show IntKind.i32.wrap (v.nm + 1) = ((sn.length + 1 : Nat) : Int) by rw [wrap_i32 (by omega) (by omega)]; omega]
  refine StoreX.jf hd5 (hput_same ..) 27014 rfl (by omega) fun hd6 => ?_
  rw [eU_nm, hput_hput] at hd6 ⊢; conv => whnf
  refine LoadX.fn (join_hm hd6 (hput_same ..)) 27014 rfl (by omega) ?_
  rw [eC_nm]; conv => whnf
  rw [show IntKind.i32.wrap (((sn.length + 1 : Nat) : Int) - 1) = sn.length by rw [wrap_i32 (by omega) (by omega)]; omega]
  have CF := COK.setB V.cok (r := v.ref) (n := ((sn.length + 1 : Nat) : Int)) (m := updN v.mks sn.length v.jL.length) V.cok.ref ⟨by omega, by omega⟩ (fun i hi => by
    unfold updN; split
    · omega
    · exact V.cok.mks i (by show (i : Int) < v.nm; omega))
  have V4 := V.setB CF
  have H4 := A.hist.snap
  rw [A.abs] at H4
  exact RetX.same (hk _ _ ⟨V4, A.abs, H4, A.orig⟩ rfl rfl rfl rfl)
end
end Go.Proofs.YgvalwGreat.X
