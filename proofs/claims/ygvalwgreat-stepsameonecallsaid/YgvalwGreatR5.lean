import Derived.Test.YgvalwGreatR4
set_option linter.unusedVariables false
set_option linter.unusedSimpArgs false
namespace Go.Proofs.YgvalwGreat.X
open Go

section
variable {R hi hm hb hY h : Hp} {K : Value → Hp → Prop} {g o : Int} {d : List Int} {sD s : Sl} {cs : List (Sl × List Int)}
set_option maxRecDepth 100000 in
set_option maxHeartbeats 4000000 in
theorem same_long (Wd : WldOK h s (stgW cs)) (h6 : cs.length ≤ 6) (h256 : ∀ p ∈ cs, p.2.length ≤ 256) (hdl : d.length = sD.2.1) (hlong : 1024 < d.length) (hg : 0 ≤ g ∧ g < 18446744073709551616) (hk : ∀ h', Ext h h' → K (.bool true) h') : CallX Hval.prog 4 [sl s, .agg stEnv.toArray, .agg (txC sD g).toArray] h K := by
  refine CallX.of_xf T_ok Hval.func4 rfl (by kernel_rfl) (Nat.le_of_ble_eq_true rfl) ?_; conv => whnf
  refine BoxX.ext fun m4 hm4 em4 => ?_; conv => whnf
  have b4 : hput h m4 (stEnv.toArray.toList, 36) m4 = some (stEnv, 36) := hput_same ..
  generalize hput h m4 (stEnv.toArray.toList, 36) = h1 at *
  refine BoxX.ext fun m5 hm5 em5 => ?_; conv => whnf
  have b5 : hput h1 m5 ((txC sD g).toArray.toList, 40) m5 = some (txC sD g, 40) := hput_same ..
  have b4 := em5 _ _ b4
  generalize hput h1 m5 ((txC sD g).toArray.toList, 40) = h2 at *
  have Wd := Wd.ext (em4.trans em5)
  refine LoadX.all b4 rfl ?_; conv => whnf
  refine both_ok Wd h6 h256 fun h3 hmE hbE hY eb c m v sY e3 D I Y hw => ?_; conv => whnf
  repeat (first | (refine CondX.tt ?_; conv => whnf) | (refine CondX.ff ?_; conv => whnf))
  have b5 := e3 _ _ b5
  refine DrawX.go T_ok hM Hval.func4 (tb := dr4) rfl (by kernel_rfl) ?_; conv => whnf
  have hE3 : Ext h3 (join (join (join h3 hmE) hbE) hY) := ((Ext.jl _ _).trans (Ext.jl _ _)).trans (Ext.jl _ _)
  refine LoadX.all (hE3 _ _ b5) rfl ?_; conv => whnf
  refine LoadX.all (hE3 _ _ b5) rfl ?_; conv => whnf
  refine ebegin_long I ((Ext.jl _ _).trans (Ext.jl _ _)) hdl hlong hg ?_; conv => whnf
  repeat (refine Ob.mk (by exact ldV_all (hE3 _ _ b5) rfl) ?_; conv => whnf)
  refine ybegin_long Y (by rw [D.turn]; exact Ext.jl _ _) hdl hlong hg ?_; conv => whnf
  repeat (refine Ob.mk (by exact ldV_all (hE3 _ _ b5) rfl) ?_; conv => whnf)
  refine CondX.neI (fun h => absurd rfl h) (fun _ => ?_); conv => whnf
  refine LoopX.st T_ok Hval.func4 (σ := Nat) (fun _ => [(7, .pointer (some ⟨eb, 0, none⟩)), (8, .pointer (some ⟨c, 0, none⟩))]) (fun k h' => LI h eb c k h') (fun k => k) 0 ⟨rfl, rfl, trivial⟩ (.inr ⟨rfl, ((em4.trans em5).trans e3).trans hE3, _, stop_idle D I Y⟩) ?_
  rintro k ρ h' hL ih
  conv => whnf
  rcases hL with ⟨hi, hm, hb, hY, m, t, w, sn, v, mems, stale, s, frs, ret, left, N, rfl, kk, rfl, Q⟩ | ⟨rfl, hx, V, St⟩
  · have Se := see_run Q
    refine Se.e _ _ (Ext.refl _) fun h1 sS sM sR e1 V1 => ?_; conv => whnf
    refine Se.y _ _ e1 fun h2 sS' sM' sR' e2 V2 => ?_; conv => whnf
    refine views_ok Se.len.1 Se.len.2.1 Se.len.2.2 (V1.ext e2) V2 ?_; conv => whnf
    repeat (first | (refine CondX.tt ?_; conv => whnf) | (refine CondX.ff ?_; conv => whnf))
    obtain ⟨hi2, rfl, Q2⟩ := run_ext Q (e1.trans e2)
    refine run_e Q2 fun hi' hm' hb' m' w' sn' v' a base q M => ?_; conv => whnf
    refine mid_y M fun k' h3 hk' L => ?_; conv => whnf
    repeat (first | (refine CondX.tt ?_; conv => whnf) | (refine CondX.ff ?_; conv => whnf))
    refine ih k' _ _ L (by omega) ⟨rfl, rfl, trivial⟩
  · have Se := St.see
    refine Se.e _ _ (Ext.refl _) fun h1 sS sM sR e1 V1 => ?_; conv => whnf
    refine Se.y _ _ e1 fun h2 sS' sM' sR' e2 V2 => ?_; conv => whnf
    refine views_ok Se.len.1 Se.len.2.1 Se.len.2.2 (V1.ext e2) V2 ?_; conv => whnf
    repeat (first | (refine CondX.tt ?_; conv => whnf) | (refine CondX.ff ?_; conv => whnf))
    refine St.e _ _ (e1.trans e2) ?_; conv => whnf
    refine St.y _ _ (e1.trans e2) ?_; conv => whnf
    repeat (first | (refine CondX.tt ?_; conv => whnf) | (refine CondX.ff ?_; conv => whnf))
    refine Se.e _ _ (e1.trans e2) fun h3 tS tM tR e3 V3 => ?_; conv => whnf
    refine Se.y _ _ ((e1.trans e2).trans e3) fun h4 tS' tM' tR' e4 V4 => ?_; conv => whnf
    refine views_ok Se.len.1 Se.len.2.1 Se.len.2.2 (V3.ext e4) V4 ?_; conv => whnf
    exact RetX.same (hk _ (hx.trans (((e1.trans e2).trans e3).trans e4)))
set_option maxRecDepth 100000 in
set_option maxHeartbeats 4000000 in
theorem sameinR_ok (hA : SlI R s cs) (hr : s.2.1 < 2 ^ 50) (hD : BytI R sD d) (hDr : sD.2.1 ≤ 2 ^ 47) (hg : 0 ≤ g ∧ g < 18446744073709551616) (hk : ∀ h', K (.bool true) h') : CallR R Hval.prog 3 [sl s, sl sD, .int .u64 g] h K := by
  refine CallR.of_xf T_ok Hval.func3 rfl (by kernel_rfl) (Nat.le_of_ble_eq_true rfl) ?_; conv => whnf
  refine masked_R hA hr fun s1 h1 cs1 e1 hr1 hA1 => ?_; conv => whnf
  refine CallX.toR (stage2_ok hA1 hr1 fun s2 h2 cs2 e2 h6 h256 Wd => ?_); conv => whnf
  refine CallX.toR (stageEnv_ok ?_); conv => whnf
  refine callOf_R hD hDr fun s3 h3 e3 hD3 hc3 hn3 => ?_; conv => whnf
  by_cases hl : d.length ≤ 1024
  · refine CallX.toR (same_ok (Wd.ext e3) h6 h256 (bytL_byt hD3 (by have := hD3.len; omega) (by omega) hn3) hg fun h4 _ => ?_); conv => whnf
    exact RetX.same (hk h4)
  · refine CallX.toR (same_long (Wd.ext e3) h6 h256 hD3.len (by omega) hg fun h4 _ => ?_); conv => whnf
    exact RetX.same (hk h4)
end
end Go.Proofs.YgvalwGreat.X
