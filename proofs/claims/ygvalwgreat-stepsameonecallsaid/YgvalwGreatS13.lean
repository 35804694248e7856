import Derived.Test.YgvalwGreatS12
set_option linter.unusedVariables false
set_option linter.unusedSimpArgs false
namespace Go.Proofs.YgvalwGreat.X
open Go

section
variable {hi hm hb hY h : Hp} {K : Value → Hp → Prop} {g : Int} {d : List Int} {sD s : Sl} {cs : List (Sl × List Int)}
set_option maxRecDepth 100000 in
set_option maxHeartbeats 4000000 in
theorem news_ok (Wd : WldOK h s (stgW cs)) (h6 : cs.length ≤ 6) (h256 : ∀ p ∈ cs, p.2.length ≤ 256) (hk : K (.bool true) h) : CallX Hval.prog 24 [sl s, .agg stEnv.toArray, .bool true, .bool true] h K := by
  refine CallX.of_xf T_ok Hval.func24 rfl (by kernel_rfl) (Nat.le_of_ble_eq_true rfl) ?_; conv => whnf
  refine BoxX.ext fun m5 hm5 em5 => ?_; conv => whnf
  refine worldOK_ok (Wd.ext em5) h6 h256 ?_; conv => whnf
  repeat (first | (refine CondX.tt ?_; conv => whnf) | (refine CondX.ff ?_; conv => whnf))
  refine LoadX.all (c := stEnv) (hput_same ..) rfl ?_; conv => whnf
  repeat (first | (refine CondX.tt ?_; conv => whnf) | (refine CondX.ff ?_; conv => whnf))
  refine envOK_ok ?_; conv => whnf
  repeat (first | (refine CondX.tt ?_; conv => whnf) | (refine CondX.ff ?_; conv => whnf))
  exact RetX.drop em5 hk
set_option maxRecDepth 100000 in
set_option maxHeartbeats 4000000 in
theorem both_ok (Wd : WldOK h s (stgW cs)) (h6 : cs.length ≤ 6) (h256 : ∀ p ∈ cs, p.2.length ≤ 256)
    (hk : ∀ hi hm hb hY eb c m v sY, Ext h hi → D4 hi hm hb hY → EI hi hm hb eb m (wldA (stgW cs)) v → YI hi hY c 115 sY → absW sY.w = wldA (stgW cs) → K (.tuple #[.pointer (some ⟨eb, 0, none⟩), .pointer (some ⟨c, 0, none⟩), .bool true]) (join (join (join hi hm) hb) hY)) : CallX Hval.prog 9 [sl s, .agg stEnv.toArray] h K := by
  refine CallX.of_xf T_ok Hval.func9 rfl (by kernel_rfl) (Nat.le_of_ble_eq_true rfl) ?_; conv => whnf
  refine BoxX.ext fun m3 hm3 em3 => ?_; conv => whnf
  have b3 : hput h m3 (stEnv.toArray.toList, 36) m3 = some (stEnv, 36) := hput_same ..
  have Wd := Wd.ext em3
  generalize hput h m3 (stEnv.toArray.toList, 36) = h1 at *
  refine LoadX.all b3 rfl ?_; conv => whnf
  refine enew_ok Wd h6 h256 fun h2 hmE eb m v e2 I => ?_; conv => whnf
  have b3 := e2 _ _ b3
  have Wd := Wd.ext e2
  refine LoadX.all (join_l b3) rfl ?_; conv => whnf
  refine CallX.fj I.A.V.dj (ynew_ok Wd h6 h256 fun h3 hY c sY e3 Y hw d3 => ?_); conv => whnf
  have b3 := e3 _ _ b3
  have Wd := Wd.ext e3
  refine LoadX.all (join_l (join_l b3)) rfl ?_; conv => whnf
  refine news_ok (Wd.ext ((Ext.jl _ _).trans (Ext.jl _ _))) h6 h256 ?_; conv => whnf
  repeat (first | (refine CondX.tt ?_; conv => whnf) | (refine CondX.ff ?_; conv => whnf))
  have a := dj_join.1 d3
  have D : D4 h3 hmE hNil hY := ⟨a.1, Dj_hNil _, Y.S.dj, Dj_hNil _, a.2.comm, (Dj_hNil _).comm⟩
  have ht : join (join h3 hY) hmE = join (join (join h3 hmE) hNil) hY := by rw [D.turn, join_hNil]
  rw [ht]
  exact RetX.same (hk h3 hmE hNil hY eb c m v sY ((em3.trans e2).trans e3) D (I.exti e3 a.1 (Dj_hNil _)) Y hw)
theorem CallX.turn {P : Program} {f : FuncId} {args : List Value} (D : D4 hi hm hb hY) (hc : CallX P f args (join (join hi hY) (join hm hb)) K) : CallX P f args (join (join (join hi hm) hb) hY) K := D.turn ▸ hc
set_option maxRecDepth 100000 in
set_option maxHeartbeats 4000000 in
theorem same_ok (Wd : WldOK h s (stgW cs)) (h6 : cs.length ≤ 6) (h256 : ∀ p ∈ cs, p.2.length ≤ 256) (hD : BytS h sD d) (hg : 0 ≤ g ∧ g < 18446744073709551616) (hk : ∀ h', Ext h h' → K (.bool true) h') : CallX Hval.prog 4 [sl s, .agg stEnv.toArray, .agg (txC sD g).toArray] h K := by
  have hib := intr_bd (d := d)
  refine CallX.of_xf T_ok Hval.func4 rfl (by kernel_rfl) (Nat.le_of_ble_eq_true rfl) ?_; conv => whnf
  refine BoxX.ext fun m4 hm4 em4 => ?_; conv => whnf
  have b4 : hput h m4 (stEnv.toArray.toList, 36) m4 = some (stEnv, 36) := hput_same ..
  generalize hput h m4 (stEnv.toArray.toList, 36) = h1 at *
  refine BoxX.ext fun m5 hm5 em5 => ?_; conv => whnf
  have b5 : hput h1 m5 ((txC sD g).toArray.toList, 40) m5 = some (txC sD g, 40) := hput_same ..
  have b4 := em5 _ _ b4
  generalize hput h1 m5 ((txC sD g).toArray.toList, 40) = h2 at *
  have Wd := Wd.ext (em4.trans em5)
  have hD := hD.ext (em4.trans em5)
  refine LoadX.all b4 rfl ?_; conv => whnf
  refine both_ok Wd h6 h256 fun h3 hmE hbE hY eb c m v sY e3 D I Y hw => ?_; conv => whnf
  repeat (first | (refine CondX.tt ?_; conv => whnf) | (refine CondX.ff ?_; conv => whnf))
  have b5 := e3 _ _ b5
  have hD := hD.ext e3
  refine DrawX.go T_ok hM Hval.func4 (tb := dr4) rfl (by kernel_rfl) ?_; conv => whnf
  have hE3 : Ext h3 (join (join (join h3 hmE) hbE) hY) := ((Ext.jl _ _).trans (Ext.jl _ _)).trans (Ext.jl _ _)
  refine LoadX.all (hE3 _ _ b5) rfl ?_; conv => whnf
  refine LoadX.all (hE3 _ _ b5) rfl ?_; conv => whnf
  by_cases hv : vd d g = 0
  · have hvb : g ≤ 1048576 ∧ intr d ≤ g := by
      unfold vd at hv
      by_cases h1 : 1048576 < g ∨ 1024 < d.length
      · rw [if_pos h1] at hv; cases hv
      · rw [if_neg h1] at hv
        by_cases h2 : g < intr d
        · rw [if_pos h2] at hv; cases hv
        · omega
    refine CallX.fj D.y (ebegin_ok (s0 := 0) (l0 := 0) I hD hg hv fun h4 hm4 m4' v4 e4 X ha E R d4 => ?_); conv => whnf
    have D4a := D4.of X.M.A.V.dj X.dj d4
    have b5a := e4 _ _ b5
    repeat (refine Ob.mk (by exact ldV_all (join_l (join_l (join_l b5a))) rfl) ?_; conv => whnf)
    refine CallX.turn D4a (CallX.fj D4a.s (ybegin_ok (Y.exti e4 D4a.ic) (hD.ext e4) hg hv fun h5 hY5 s5 frs5 ret5 left5 e5 S5 N5 ha5 EY5 or5 d5 => ?_)); conv => whnf
    have D5 := D4a.back S5.dj d5
    have b5b := e5 _ _ b5a
    repeat (refine Ob.mk (by exact ldV_all (join_l (join_l b5b)) rfl) ?_; conv => whnf)
    rw [← D5.turn]
    repeat (first | (refine CondX.tt ?_; conv => whnf) | (refine CondX.ff ?_; conv => whnf))
    have hf0 : frsM m4' 0 [begW (wldA (stgW cs))] (fun _ => []) = [] := rfl
    have hf1 : frM m4' [begW (wldA (stgW cs))] (fun _ => []) 0 = begF (wldA (stgW cs)) d g := by
      have := congrArg AS.frs ha
      have this : frsM m4' 0 [begW (wldA (stgW cs))] (fun _ => []) ++ [frM m4' [begW (wldA (stgW cs))] (fun _ => []) 0] = [begF (wldA (stgW cs)) d g] := this
      simpa [hf0] using this
    have hQ : RunI h h5 hm4 hbE hY5 eb c m4' 0 (begW (wldA (stgW cs))) [begW (wldA (stgW cs))] v4 (fun _ => []) [] s5 frs5 ret5 left5 200 (muL (frsM m4' 0 [begW (wldA (stgW cs))] (fun _ => []) ++ [frM m4' [begW (wldA (stgW cs))] (fun _ => []) 0])) := by
      refine ⟨D5, X.exti e5 D5.ia D5.e, E, ?_, ?_, S5, N5, EY5, or5, ?_, rfl, ?_, (((em4.trans em5).trans e3).trans e4).trans e5⟩
      · rw [hf0, hf1]; exact ai_beg h256 hvb.2 (by omega) hvb.1
      · unfold sM; rw [hf0, hf1]; exact R
      · have h1 := ha5 s5.status left5
        rw [hw] at h1
        have h2 := congrArg (fun a : AS => { a with status := s5.status, left := left5 }) ha
        exact h2.trans h1.symm
      · rw [hf0, hf1, List.nil_append]
        unfold muL
        have : gsum [begF (wldA (stgW cs)) d g] = g - intr d := by show g - intr d + 0 = _; omega
        rw [this]
        simp only [List.length_singleton]
        omega
    refine LoopX.st T_ok Hval.func4 (σ := Nat) (fun _ => [(7, .pointer (some ⟨eb, 0, none⟩)), (8, .pointer (some ⟨c, 0, none⟩))]) (fun k h' => LI h eb c k h') (fun k => k) _ ⟨rfl, rfl, trivial⟩ (.inl ⟨_, _, _, _, _, _, _, _, _, _, _, _, _, _, _, _, rfl, _, rfl, hQ⟩) ?_
    rintro k ρ h' hL ih
    conv => whnf
    rcases hL with ⟨hi, hm, hb, hY, m, t, w, sn, v, mems, stale, s, frs, ret, left, N, rfl, kk, rfl, Q⟩ | ⟨rfl, hx, V, St⟩
    · have Se := see_run Q
      refine Se.e _ _ (Ext.refl _) fun h1 sS sM sR e1 V1 => ?_; conv => whnf
      refine Se.y _ _ e1 fun h2 sS' sM' sR' e2 V2 => ?_; conv => whnf
      refine views_ok Se.len.1 Se.len.2.1 Se.len.2.2 (V1.ext e2) V2 ?_; conv => whnf
      repeat (first | (refine CondX.tt ?_; conv => whnf) | (refine CondX.ff ?_; conv => whnf))
      obtain ⟨hi2, rfl, Q2⟩ := run_ext Q (e1.trans e2)
      refine run_e Q2 fun hi' hm' hb' m' w' sn' v' a base q M => ?_; conv => whnf
      refine mid_y M fun k' h3 hk' L => ?_; conv => whnf
      repeat (first | (refine CondX.tt ?_; conv => whnf) | (refine CondX.ff ?_; conv => whnf))
      refine ih k' _ _ L (by omega) ⟨rfl, rfl, trivial⟩
    · have Se := St.see
      refine Se.e _ _ (Ext.refl _) fun h1 sS sM sR e1 V1 => ?_; conv => whnf
      refine Se.y _ _ e1 fun h2 sS' sM' sR' e2 V2 => ?_; conv => whnf
      refine views_ok Se.len.1 Se.len.2.1 Se.len.2.2 (V1.ext e2) V2 ?_; conv => whnf
      repeat (first | (refine CondX.tt ?_; conv => whnf) | (refine CondX.ff ?_; conv => whnf))
      refine St.e _ _ (e1.trans e2) ?_; conv => whnf
      refine St.y _ _ (e1.trans e2) ?_; conv => whnf
      repeat (first | (refine CondX.tt ?_; conv => whnf) | (refine CondX.ff ?_; conv => whnf))
      refine Se.e _ _ (e1.trans e2) fun h3 tS tM tR e3 V3 => ?_; conv => whnf
      refine Se.y _ _ ((e1.trans e2).trans e3) fun h4 tS' tM' tR' e4 V4 => ?_; conv => whnf
      refine views_ok Se.len.1 Se.len.2.1 Se.len.2.2 (V3.ext e4) V4 ?_; conv => whnf
      exact RetX.same (hk _ (hx.trans (((e1.trans e2).trans e3).trans e4)))
  · refine ebegin_no I ((Ext.jl _ _).trans (Ext.jl _ _)) (hD.ext hE3) hg hv ?_; conv => whnf
    repeat (refine Ob.mk (by exact ldV_all (hE3 _ _ b5) rfl) ?_; conv => whnf)
    refine ybegin_no Y (by rw [D.turn]; exact Ext.jl _ _) (hD.ext hE3) hg hv ?_; conv => whnf
    repeat (refine Ob.mk (by exact ldV_all (hE3 _ _ b5) rfl) ?_; conv => whnf)
    refine CondX.neI (fun h => absurd rfl h) (fun _ => ?_); conv => whnf
    refine LoopX.st T_ok Hval.func4 (σ := Nat) (fun _ => [(7, .pointer (some ⟨eb, 0, none⟩)), (8, .pointer (some ⟨c, 0, none⟩))]) (fun k h' => LI h eb c k h') (fun k => k) 0 ⟨rfl, rfl, trivial⟩ (.inr ⟨rfl, ((em4.trans em5).trans e3).trans hE3, _, stop_idle D I Y⟩) ?_
    rintro k ρ h' hL ih
    conv => whnf
    rcases hL with ⟨hi, hm, hb, hY, m, t, w, sn, v, mems, stale, s, frs, ret, left, N, rfl, kk, rfl, Q⟩ | ⟨rfl, hx, V, St⟩
    · have Se := see_run Q
      refine Se.e _ _ (Ext.refl _) fun h1 sS sM sR e1 V1 => ?_; conv => whnf
      refine Se.y _ _ e1 fun h2 sS' sM' sR' e2 V2 => ?_; conv => whnf
      refine views_ok Se.len.1 Se.len.2.1 Se.len.2.2 (V1.ext e2) V2 ?_; conv => whnf
      repeat (first | (refine CondX.tt ?_; conv => whnf) | (refine CondX.ff ?_; conv => whnf))
      obtain ⟨hi2, rfl, Q2⟩ := run_ext Q (e1.trans e2)
      refine run_e Q2 fun hi' hm' hb' m' w' sn' v' a base q M => ?_; conv => whnf
      refine mid_y M fun k' h3 hk' L => ?_; conv => whnf
      repeat (first | (refine CondX.tt ?_; conv => whnf) | (refine CondX.ff ?_; conv => whnf))
      refine ih k' _ _ L (by omega) ⟨rfl, rfl, trivial⟩
    · have Se := St.see
      refine Se.e _ _ (Ext.refl _) fun h1 sS sM sR e1 V1 => ?_; conv => whnf
      refine Se.y _ _ e1 fun h2 sS' sM' sR' e2 V2 => ?_; conv => whnf
      refine views_ok Se.len.1 Se.len.2.1 Se.len.2.2 (V1.ext e2) V2 ?_; conv => whnf
      repeat (first | (refine CondX.tt ?_; conv => whnf) | (refine CondX.ff ?_; conv => whnf))
      refine St.e _ _ (e1.trans e2) ?_; conv => whnf
      refine St.y _ _ (e1.trans e2) ?_; conv => whnf
      repeat (first | (refine CondX.tt ?_; conv => whnf) | (refine CondX.ff ?_; conv => whnf))
      refine Se.e _ _ (e1.trans e2) fun h3 tS tM tR e3 V3 => ?_; conv => whnf
      refine Se.y _ _ ((e1.trans e2).trans e3) fun h4 tS' tM' tR' e4 V4 => ?_; conv => whnf
      refine views_ok Se.len.1 Se.len.2.1 Se.len.2.2 (V3.ext e4) V4 ?_; conv => whnf
      exact RetX.same (hk _ (hx.trans (((e1.trans e2).trans e3).trans e4)))
end
end Go.Proofs.YgvalwGreat.X
