import Derived.Test.YgvalwGreatM50a
import Derived.Test.YgvalwGreatW7
import Derived.Test.YgvalwGreatA4
set_option linter.unusedVariables false
set_option linter.unusedSimpArgs false
namespace Go.Proofs.YgvalwGreat.X
open Go

section
variable {hi hi' hm hm' hb hb' h : Hp} {K : Value → Hp → Prop} {KK : Hp → Prop} {v v' : VS} {eb : Nat} {m m' : MS} {t : Nat} {mems : Nat → List Int} {stale stale' mem' orig : List Int} {w w' : AW} {sn : List AW} {s0 l0 S S' x o : Int} {A : Nat → Nat} {a : AS} {f f' : MF}
def spn (a : AS) : Int := 1048576 - gsum a.frs
theorem EnK.mono (hk : EnK hi eb m S' a s0 l0 KK) (hs : S ≤ S') : EnK hi eb m S a s0 l0 KK := fun hi1 hm' hb' m2 w' sn' v' h1 h2 h3 h4 => hk hi1 hm' hb' m2 w' sn' v' h1 h2 h3 (h4.mono hs)
theorem spn_leave {base : List AF} {f : AF} {st : Int} {l : List Int} (hg : 0 ≤ f.gas) : 1048576 - gsum (base ++ [f]) + (f.gas - lvGA f st l) ≤ spn (leaveA a base f st l) := by
  have hb := lvGA_bd (st := st) (l := l) hg
  unfold spn
  rcases List.eq_nil_or_concat base with rfl | ⟨b, p, rfl⟩
  · show 1048576 - (f.gas + 0) + _ ≤ 1048576 - 0
    omega
  · rw [List.concat_eq_append, leave_up]
    show _ ≤ 1048576 - gsum (b ++ [upA p f st l])
    rw [gsum_app, gsum_app, gsum_app]
    show _ ≤ 1048576 - (gsum b + (p.gas + lvGA f st l))
    omega
set_option maxRecDepth 100000 in
set_option maxHeartbeats 4000000 in
theorem runNat0 (X : EX hi hm hb eb m t w sn v mems stale) (hn : (m.fr t).natv = 0) (hk : K (.bool false) (join (join hi hm) hb)) : CallX Hval.prog 112 [.pointer (some ⟨eb, 0, none⟩)] (join (join hi hm) hb) K := by
  have h7 := X.M.t7
  have hbE := X.M.blk (Ext.jl _ hb)
  refine CallX.of_xf T_ok Hval.func112 rfl (by kernel_rfl) (Nat.le_of_ble_eq_true rfl) ?_; conv => whnf
  refine running_ok X.M (Ext.jl _ _) ?_; conv => whnf
  repeat (first | (refine CondX.tt ?_; conv => whnf) | (refine CondX.ff ?_; conv => whnf))
  refine LoadX.fx hbE (1803 + t * 65 + 2) rfl (by omega) (mR_native h7) ?_; conv => whnf
  repeat (first | (refine CondX.tt ?_; conv => whnf) | (refine CondX.ff ?_; conv => whnf))
  refine CondX.eqT hn ?_; conv => whnf
  exact RetX.same hk
set_option maxRecDepth 100000 in
set_option maxHeartbeats 4000000 in
theorem runNat (X : EX hi hm hb eb m t w sn v mems stale) (hn : (m.fr t).natv ≠ 0) (hgs : ∀ i, i ≤ t → (m.fr i).gas ≤ 1048576) (hI : AI 0 w (frsM m t sn mems) (frM m sn mems t)) (R : Rs (1048576 - gsum (frsM m t sn mems ++ [frM m sn mems t])) v sn)
    (hk : EnK hi eb m (spn (natvA (absM m t w sn mems s0 l0) (frsM m t sn mems) (frM m sn mems t))) (natvA (absM m t w sn mems s0 l0) (frsM m t sn mems) (frM m sn mems t)) s0 l0 (K (.bool true))) : CallX Hval.prog 112 [.pointer (some ⟨eb, 0, none⟩)] (join (join hi hm) hb) K := by
  have h7 := X.M.t7
  have F := X.M.f
  have hbE := X.M.blk (Ext.jl _ hb)
  have hS : 0 ≤ 1048576 - gsum (frsM m t sn mems ++ [frM m sn mems t]) ∧ 1048576 - gsum (frsM m t sn mems ++ [frM m sn mems t]) ≤ 1048576 := by
    have h1 := psum_gsum (frsM m t sn mems ++ [frM m sn mems t])
    have h2 := hI.pot
    have h3 := hI.base_nn
    have h4 : 0 ≤ (frM m sn mems t).gas := F.gas.1
    rw [gsum_app] at *
    omega
  refine CallX.of_xf T_ok Hval.func112 rfl (by kernel_rfl) (Nat.le_of_ble_eq_true rfl) ?_; conv => whnf
  refine running_ok X.M (Ext.jl _ _) ?_; conv => whnf
  repeat (first | (refine CondX.tt ?_; conv => whnf) | (refine CondX.ff ?_; conv => whnf))
  refine LoadX.fx hbE (1803 + t * 65 + 2) rfl (by omega) (mR_native h7) ?_; conv => whnf
  repeat (first | (refine CondX.tt ?_; conv => whnf) | (refine CondX.ff ?_; conv => whnf))
  refine CondX.eqF hn ?_; conv => whnf
  refine DrawX.go T_ok hM Hval.func112 (tb := dr112) rfl (by kernel_rfl) ?_; conv => whnf
  refine LoadX.fx hbE (1803 + t * 65 + 2) rfl (by omega) (mR_native h7) ?_; conv => whnf
  refine LoadX.fx hbE (1803 + t * 65 + 54) rfl (by omega) (mR_is h7) ?_; conv => whnf
  have hP : Byt (join (join hi hm) hb) (m.fr t).is.1 (m.fr t).is.2.1 (m.fr t).is.2.2 (m.fr t).input := F.input.ext ((Ext.jl _ _).trans (Ext.jl _ _))
  have hfail : natCost (m.fr t).natv (m.fr t).input = none ∨ (∃ y, natCost (m.fr t).natv (m.fr t).input = some y ∧ (m.fr t).gas < y) → EnK hi eb m (1048576 - gsum (frsM m t sn mems ++ [frM m sn mems t]) + ((m.fr t).gas - lvGA (frM m sn mems t) 2 [])) (leaveA (absM m t w sn mems s0 l0) (frsM m t sn mems) (frM m sn mems t) 2 []) s0 l0 (K (.bool true)) := fun hc => by
    have e : natvA (absM m t w sn mems s0 l0) (frsM m t sn mems) (frM m sn mems t) = leaveA (absM m t w sn mems s0 l0) (frsM m t sn mems) (frM m sn mems t) 2 [] := by
      unfold natvA
      rcases hc with hc | ⟨y, hc, hy⟩
      · rw [show natCost (frM m sn mems t).natv (frM m sn mems t).input = none from hc]
      · rw [show natCost (frM m sn mems t).natv (frM m sn mems t).input = some y from hc]
        exact if_pos hy
    rw [e] at hk
    exact hk.mono (spn_leave F.gas.1)
  have hob : ∀ h', Ext (join (join hi hm) hb) h' → ldV false 1 h' eb (1803 + t * 65 + 2) = some (.int .u8 (m.fr t).natv) := fun h' e => (ldV_fn (e _ _ hbE) (1803 + t * 65 + 2) rfl (by omega)).trans (congrArg some (mR_native h7))
  refine mNativeCost_ok hP (fun hc => ?_) (fun y hc hy0 hy1 => ?_) <;> conv => whnf
  · repeat (refine Ob.mk (by first | exact (ldV_fn hbE (1803 + t * 65 + 2) rfl (by omega)).trans (congrArg some (mR_native h7)) | exact (ldV_fn hbE (1803 + t * 65 + 54) rfl (by omega)).trans (congrArg some (mR_is h7))) ?_; conv => whnf)
    repeat (first | (refine CondX.tt ?_; conv => whnf) | (refine CondX.ff ?_; conv => whnf))
    refine fail_ok (s0 := s0) (l0 := l0) X hgs hS R (by decide) (by decide) ((hfail (.inl hc)).map fun h' hh => ?_)
    conv => whnf
    exact RetX.same hh
  · repeat (refine Ob.mk (by first | exact (ldV_fn hbE (1803 + t * 65 + 2) rfl (by omega)).trans (congrArg some (mR_native h7)) | exact (ldV_fn hbE (1803 + t * 65 + 54) rfl (by omega)).trans (congrArg some (mR_is h7))) ?_; conv => whnf)
    repeat (first | (refine CondX.tt ?_; conv => whnf) | (refine CondX.ff ?_; conv => whnf))
    refine LoadX.fx hbE (1803 + t * 65 + 7) rfl (by omega) (mR_gas h7) ?_; conv => whnf
    repeat (first | (refine CondX.tt ?_; conv => whnf) | (refine CondX.ff ?_; conv => whnf))
    refine CondX.decI (fun hgt => ?_) (fun hgt => ?_) <;> conv => whnf
    · refine fail_ok (s0 := s0) (l0 := l0) X hgs hS R (by decide) (by decide) ((hfail (.inr ⟨y, hc, by omega⟩)).map fun h' hh => ?_)
      conv => whnf
      exact RetX.same hh
    · refine LoadX.fx hbE (1803 + t * 65 + 7) rfl (by omega) (mR_gas h7) ?_; conv => whnf
      have hg := F.gas
      rw [show IntKind.u64.wrap ((m.fr t).gas - y) = (m.fr t).gas - y by rw [wrap_u64']; omega]
      refine X.M.A.sto X.dj (eU_gas h7 _) rfl (by omega) fun hm2 A2 d2 => ?_; conv => whnf
      obtain ⟨X2, -⟩ := X.fset (s0 := s0) (l0 := l0) A2 d2 (F.gol (g := (m.fr t).gas - y) (a := (m.fr t).oo) (b := (m.fr t).ol) (by omega)) rfl rfl (fun _ h => h)
      obtain ⟨m2, hm2e⟩ : ∃ m2 : MS, m2 = { m with fr := updN m.fr t { m.fr t with gas := (m.fr t).gas - y } } := ⟨_, rfl⟩
      have hf2 : m2.fr t = { m.fr t with gas := (m.fr t).gas - y } := by rw [hm2e]; exact updN_same ..
      have hfx : fixM m m2 := by rw [hm2e]; exact ⟨rfl, rfl, rfl, rfl, rfl, rfl, rfl, rfl, rfl, rfl, rfl⟩
      have hfr2 : frM m2 sn mems t = { frM m sn mems t with gas := (m.fr t).gas - y } := by rw [hm2e]; exact frM_gol (g := (m.fr t).gas - y) (a := (m.fr t).oo) (b := (m.fr t).ol)
      have hfs2 : frsM m2 t sn mems = frsM m t sn mems := by rw [hm2e]; exact frsM_fset
      have hre2 : m2.ret = m.ret := by rw [hm2e]
      have hgs2 : ∀ i, i ≤ t → (m2.fr i).gas ≤ 1048576 := fun i hi => by
        rw [hm2e]
        show (updN m.fr t _ i).gas ≤ _
        unfold updN
        split
        · show (m.fr t).gas - y ≤ _; have := hgs t (Nat.le_refl _); omega
        · exact hgs i hi
      rw [← hm2e] at A2 X2
      have hbE2 := A2.blk (Ext.jl _ hb)
      have hn2 : (m2.fr t).natv = (m.fr t).natv := by rw [hf2]
      have hi2 : (m2.fr t).is = (m.fr t).is ∧ (m2.fr t).input = (m.fr t).input := by rw [hf2]; exact ⟨rfl, rfl⟩
      have hP2 : Byt (join (join hi hm2) hb) (m.fr t).is.1 (m.fr t).is.2.1 (m.fr t).is.2.2 (m.fr t).input := F.input.ext ((Ext.jl _ _).trans (Ext.jl _ _))
      refine DrawX.go T_ok hM Hval.func112 (tb := dr112) rfl (by kernel_rfl) ?_; conv => whnf
      refine LoadX.fx hbE2 (1803 + t * 65 + 2) rfl (by omega) (x := .int .u8 (m.fr t).natv) ((mR_native h7).trans (by rw [hn2])) ?_; conv => whnf
      refine LoadX.fx hbE2 (1803 + t * 65 + 54) rfl (by omega) (x := sl (m.fr t).is) ((mR_is h7).trans (by rw [hi2.1])) ?_; conv => whnf
      refine mNativeRun_ok hP2 ⟨y, hc⟩ fun sO h' e1 hO hwO => ?_
      obtain ⟨h2, eI, d5, d6, rfl, hO2⟩ := own_j X2.M.A.V.dj X2.dj e1 hO hwO
      conv => whnf
      have X3 := X2.exti eI d5 d6
      have hbE3 := X3.M.blk (Ext.jl _ hb)
      repeat (refine Ob.mk (by first | exact (ldV_fn hbE3 (1803 + t * 65 + 2) rfl (by omega)).trans (congrArg some ((mR_native h7).trans (by rw [hn2]))) | exact (ldV_fn hbE3 (1803 + t * 65 + 54) rfl (by omega)).trans (congrArg some ((mR_is h7).trans (by rw [hi2.1]; rfl)))) ?_; conv => whnf)
      have hS2 : 0 ≤ 1048576 - gsum (frsM m t sn mems ++ [frM m2 sn mems t]) := by
        rw [gsum_app] at hS ⊢
        rw [hfr2]
        show 0 ≤ 1048576 - (gsum (frsM m t sn mems) + ((m.fr t).gas - y))
        have : (frM m sn mems t).gas = (m.fr t).gas := rfl
        omega
      refine mend_ok (s0 := s0) (l0 := l0) X3 hgs2 hS R hO2 (by decide) (by decide) ?_
      have e : natvA (absM m t w sn mems s0 l0) (frsM m t sn mems) (frM m sn mems t) = leaveA (absM m2 t w sn mems s0 l0) (frsM m2 t sn mems) (frM m2 sn mems t) 0 (natOut (m.fr t).natv (m.fr t).input) := by
        unfold natvA
        rw [show natCost (frM m sn mems t).natv (frM m sn mems t).input = some y from hc]
        dsimp only
        rw [if_neg (show ¬ (frM m sn mems t).gas < y by show ¬ (m.fr t).gas < y; omega), hfs2, hfr2]
        rfl
      rw [e] at hk
      refine EnK.mono ?_ (?_ : _ ≤ spn (leaveA (absM m2 t w sn mems s0 l0) (frsM m2 t sn mems) (frM m2 sn mems t) 0 (natOut (m.fr t).natv (m.fr t).input)))
      · refine ((hk.fix hfx).ext eI).map fun h' hh => ?_
        conv => whnf
        exact RetX.same hh
      · refine Int.le_trans ?_ (spn_leave (a := absM m2 t w sn mems s0 l0) (base := frsM m2 t sn mems) (f := frM m2 sn mems t) (st := 0) (l := natOut (m.fr t).natv (m.fr t).input) X3.M.f.gas.1)
        rw [gsum_app, gsum_app, hfs2]
        show 1048576 - (gsum (frsM m t sn mems) + (m.fr t).gas) + ((m2.fr t).gas - _) ≤ 1048576 - (gsum (frsM m t sn mems) + (m2.fr t).gas) + ((m2.fr t).gas - _)
        rw [hf2]
        dsimp only
        omega
end
end Go.Proofs.YgvalwGreat.X
