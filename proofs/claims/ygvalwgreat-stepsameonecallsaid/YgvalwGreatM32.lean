import Derived.Test.YgvalwGreatM31
set_option linter.unusedVariables false
set_option linter.unusedSimpArgs false
namespace Go.Proofs.YgvalwGreat.X
open Go

section
variable {hi hi' hm hb h : Hp} {K : Value → Hp → Prop} {v : VS} {eb : Nat} {m : MS} {t : Nat} {mems : Nat → List Int} {stale : List Int} {w : AW} {sn : List AW} {s0 l0 S : Int} {A : Nat → Nat}
set_option maxRecDepth 100000 in
set_option maxHeartbeats 4000000 in
theorem admit_ok {o : Int} (h0 : 0 ≤ o) (h1 : o < 256)  (X : EX hi hm hb eb m t w sn v mems stale) (hA : ∀ i, argM m t i = A i) (hgs : ∀ i, i ≤ t → (m.fr i).gas ≤ 1048576) (hS : 0 ≤ S ∧ S ≤ 1048576) (R : Rs S v sn)
    (hpot : (m.fr t).gas + memCost ((mems t).length / 32 : Nat) ≤ 1048576) (hmod : (mems t).length % 32 = 0) (hlow : (lowN mems t).length ≤ 4400000)
    (hkF : ∀ st, (refA o (costA w (m.fr t).self o (fun i => A i) ((mems t).length / 32 : Nat)) (m.fr t).gas (m.fr t).sp (fun i => A i) (m.fr t).static (m.fr t).code m.ret.length).1 = st → st ≠ 0 → EnK hi eb m (S + ((m.fr t).gas - lvGA (frM m sn mems t) st [])) (leaveA (absM m t w sn mems s0 l0) (frsM m t sn mems) (frM m sn mems t) st []) s0 l0 (K (.bool false)))
    (hkT : (refA o (costA w (m.fr t).self o (fun i => A i) ((mems t).length / 32 : Nat)) (m.fr t).gas (m.fr t).sp (fun i => A i) (m.fr t).static (m.fr t).code m.ret.length).1 = 0 → PaK hi eb m t w sn v mems ((m.fr t).gas - costA w (m.fr t).self o (fun i => A i) ((mems t).length / 32 : Nat)) (needI o fun i => A i).toNat (K (.bool true))) :
    CallX Hval.prog 115 [.pointer (some ⟨eb, 0, none⟩), .int .u8 o, .int .u8 (rowI o).tk, .int .u8 (rowI o).gv, .int .u16 (rowI o).sg, .bool (rowI o).kn] (join (join hi hm) hb) K := by
  have M := X.M
  have h7 := M.t7
  have F := M.f
  have hsp := F.sp
  have hbE := M.blk (Ext.jl (join hi hm) hb)
  have hro := rowE h0 h1
  have hab := arI_bd h0 h1
  have hMe : Ext (join hi hm) (join (join hi hm) hb) := Ext.jl _ _
  refine CallX.of_xf T_ok Hval.func115 rfl (by kernel_rfl) (Nat.le_of_ble_eq_true rfl) ?_; conv => whnf
  refine running_ok M hMe ?_; conv => whnf
  repeat (first | (refine CondX.tt ?_; conv => whnf) | (refine CondX.ff ?_; conv => whnf))
  cases hkn : (rowI o).kn with
  | false =>
    conv => whnf
    repeat (first | (refine CondX.tt ?_; conv => whnf) | (refine CondX.ff ?_; conv => whnf))
    have hr1 : (refA o (costA w (m.fr t).self o (fun i => A i) ((mems t).length / 32 : Nat)) (m.fr t).gas (m.fr t).sp (fun i => A i) (m.fr t).static (m.fr t).code m.ret.length).1 = 5 := by unfold refA; rw [if_pos (by rw [← hro.2.2.1]; exact hkn)]
    refine fail_ok (s0 := s0) (l0 := l0) (st := 5) X hgs hS R (by omega) (by omega) ((hkF 5 hr1 (by omega)).map fun h' hh => ?_)
    conv => whnf
    exact RetX.same hh
  | true =>
    conv => whnf
    repeat (first | (refine CondX.tt ?_; conv => whnf) | (refine CondX.ff ?_; conv => whnf))
    refine LoadX.fx hbE (1803 + t * 65 + 6) rfl (by omega) (mR_sp h7) ?_; conv => whnf
    rw [show IntKind.u16.wrap (rowI o).tk = (rowI o).tk by rw [wrap_u16]; omega]
    refine CondX.decI (fun hc => ?_) (fun hc => ?_) <;> conv => whnf
    · have hr1 : (refA o (costA w (m.fr t).self o (fun i => A i) ((mems t).length / 32 : Nat)) (m.fr t).gas (m.fr t).sp (fun i => A i) (m.fr t).static (m.fr t).code m.ret.length).1 = 3 := by unfold refA; rw [if_neg (by rw [← hro.2.2.1, hkn]; decide), if_pos (by omega)]
      refine fail_ok (s0 := s0) (l0 := l0) (st := 3) X hgs hS R (by omega) (by omega) ((hkF 3 hr1 (by omega)).map fun h' hh => ?_)
      conv => whnf
      exact RetX.same hh
    · refine LoadX.fx hbE (1803 + t * 65 + 6) rfl (by omega) (mR_sp h7) ?_; conv => whnf
      rw [show IntKind.u16.wrap (rowI o).tk = (rowI o).tk by rw [wrap_u16]; omega, show IntKind.u16.wrap (rowI o).gv = (rowI o).gv by rw [wrap_u16]; omega, show IntKind.u16.wrap (((m.fr t).sp : Int) - (rowI o).tk) = ((m.fr t).sp : Int) - (rowI o).tk by rw [wrap_u16]; omega, show IntKind.u16.wrap (((m.fr t).sp : Int) - (rowI o).tk + (rowI o).gv) = ((m.fr t).sp : Int) - (rowI o).tk + (rowI o).gv by rw [wrap_u16]; omega]
      refine CondX.decI (fun hc2 => ?_) (fun hc2 => ?_) <;> conv => whnf
      · have hr1 : (refA o (costA w (m.fr t).self o (fun i => A i) ((mems t).length / 32 : Nat)) (m.fr t).gas (m.fr t).sp (fun i => A i) (m.fr t).static (m.fr t).code m.ret.length).1 = 4 := by unfold refA; rw [if_neg (by rw [← hro.2.2.1, hkn]; decide), if_neg (by omega), if_pos (by omega)]
        refine fail_ok (s0 := s0) (l0 := l0) (st := 4) X hgs hS R (by omega) (by omega) ((hkF 4 hr1 (by omega)).map fun h' hh => ?_)
        conv => whnf
        exact RetX.same hh
      · refine pass_ok (s0 := s0) (l0 := l0) (S := S) h0 h1 hkn X hA hgs hS R (by omega) (by omega) hpot hmod hlow (fun st h1 h2 => (hkF st h1 h2).map fun h' hh => ?_) (fun h1 hm' hb' s b stale' X' => ?_)
        · conv => whnf
          exact RetX.same hh
        · conv => whnf
          exact RetX.same (hkT h1 hm' hb' s b stale' X')
end
end Go.Proofs.YgvalwGreat.X
