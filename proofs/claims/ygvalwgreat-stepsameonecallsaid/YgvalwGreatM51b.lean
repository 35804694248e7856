import Derived.Test.YgvalwGreatM51
set_option linter.unusedVariables false
set_option linter.unusedSimpArgs false
namespace Go.Proofs.YgvalwGreat.X
open Go

section
variable {hi hi' hm hm' hb hb' hl h h1 : Hp} {K : Value → Hp → Prop} {KK : Hp → Prop} {v v' : VS} {eb : Nat} {m m' : MS} {t : Nat} {mems : Nat → List Int} {stale stale' mem' orig : List Int} {w w' : AW} {sn : List AW} {s0 l0 S S' x o : Int} {A : Nat → Nat} {a : AS} {f f' : MF}

set_option maxRecDepth 100000 in
set_option maxHeartbeats 4000000 in
theorem x_245 (hbal : (w.acct (m.fr t).self).bal = 0) (hnn : 0 ≤ (w.acct (m.fr t).self).nonce ∧ (w.acct (m.fr t).self).nonce < 100) (hnw : ∀ a, 0 ≤ (w.acct a).nonce) (hA2 : A 2 ≤ 512) (P : OpS hi hm hb eb m t w sn v mems stale 245 A S S')
    (hk : EnK hi eb m S' (createA { absM m t w sn mems s0 l0 with ret := [] } (frsM m t sn mems) (frM m sn mems t) 245) s0 l0 (K (.tuple #[]))) : CallX Hval.prog 195 [.pointer (some ⟨eb, 0, none⟩)] (join (join hi hm) hb) K := by
  have h7 := P.X.M.t7
  refine CallX.of_xf T_ok Hval.func195 rfl (by kernel_rfl) (Nat.le_of_ble_eq_true rfl) ?_; conv => whnf
  refine running_ok P.X.M (Ext.jl _ _) ?_; conv => whnf
  repeat (first | (refine CondX.tt ?_; conv => whnf) | (refine CondX.ff ?_; conv => whnf))
  refine opcodeM_ok P.X.M (Ext.jl _ _) ?_
  rw [P.ho]; conv => whnf
  repeat (first | (refine CondX.tt ?_; conv => whnf) | (refine CondX.ff ?_; conv => whnf))
  refine P.X.M.A.sto P.X.dj (eU_ret nilS []) rfl (by omega) fun hm1 A1 d1 => ?_; conv => whnf
  obtain ⟨m1, P, hbal, hnn, hk⟩ : ∃ m1, OpS hi hm1 hb eb m1 t w sn v mems stale 245 A S S' ∧ (w.acct (m1.fr t).self).bal = 0 ∧ (0 ≤ (w.acct (m1.fr t).self).nonce ∧ (w.acct (m1.fr t).self).nonce < 100) ∧ EnK hi eb m1 S' (createA (absM m1 t w sn mems s0 l0) (frsM m1 t sn mems) (frM m1 sn mems t) 245) s0 l0 (K (.tuple #[])) :=
    ⟨_, P.rt A1 d1, hbal, hnn, hk.fix ⟨rfl, rfl, rfl, rfl, rfl, rfl, rfl, rfl, rfl, rfl, rfl⟩⟩
  have hsf := P.X.M.f.self
  have q : ∀ i, (A i : Int) < W := fun i => P.hA i ▸ (argM_W P.X.M i).2
  have hrm := P.R.room (by have := P.le; have := P.hS; omega)
  clear A1
  refine arg_okM (i := 0) P.X.M (Ext.jl _ _) (by decide) ?_
  rw [P.hA]; conv => whnf
  rw [← join_hNil (join (join hi hm1) hb)]
  refine BoxX.jm (Dj_hNil _) fun nv g1 g2 g3 => ?_; conv => whnf
  refine Ob.mk ⟨rfl, rfl⟩ ?_; conv => whnf
  refine StoreX.top g3 (wc (A 0)) (setSeg_all rfl) (Nat.le_of_ble_eq_true rfl) fun hd4 => ?_; conv => whnf
  have bw : hput hNil nv (wc (A 0), 75) nv = some (wc (A 0), 75) := hput_same ..
  generalize hput hNil nv (wc (A 0), 75) = hl at *
  have hMe : Ext (join hi hm1) (join (join (join hi hm1) hb) hl) := (Ext.jl _ _).trans (Ext.jl _ _)
  have hbE := P.X.M.blk hMe
  refine DrawX.go T_ok hM Hval.func195 (tb := dr195) rfl (by kernel_rfl) ?_; conv => whnf
  refine LoadX.fx hbE 0 rfl (by omega) mR_S ?_; conv => whnf
  refine LoadX.fnA hbE (1803 + t * 65 + 9) rfl (by show _ + 20 ≤ _; omega) ?_
  rw [show (31, y31).snd.size = 20 from rfl, mR_self h7 hsf.1]; conv => whnf
  refine nonce_ok hsf.1 hsf.2 P.X.M.A hMe ?_; conv => whnf
  repeat (refine Ob.mk (by first | exact ldV_fn hbE 0 rfl (by omega) | exact (ldV_fnA hbE (1803 + t * 65 + 9) rfl (by show _ + 20 ≤ _; omega)).trans (congrArg (fun y => some (Value.agg y.toArray)) (mR_self h7 hsf.1))) ?_; conv => whnf)
  refine DrawX.go T_ok hM Hval.func195 (tb := dr195) rfl (by kernel_rfl) ?_; conv => whnf
  refine LoadX.fx hbE 2258 rfl (by omega) (x := .int .i8 t) (mR_top.trans (congrArg _ P.X.M.top)) ?_; conv => whnf
  have hsp : 4 ≤ (m1.fr t).sp := Int.ofNat_le.1 P.sp
  have hs64 := P.X.M.f.sp
  have hpc := P.pc
  refine CondX.decI (fun h6 => ?_) (fun h6 => ?_) <;> conv => whnf
  · repeat (first | (refine CondX.tt ?_; conv => whnf) | (refine CondX.ff ?_; conv => whnf))
    refine CallX.fj hd4 (settleS_w (tk := 4) (st := 1) (Ext.refl _) P.X.M.A.V.dj P.X.dj P.X.M hsp (by omega) (by omega) ⟨Int.le_refl 0, W_pos⟩ fun hm2 g1 g2 M2 g4 => ?_); conv => whnf
    obtain ⟨X', e⟩ := P.X.settle (s0 := s0) (l0 := l0) M2 g2 (P.X.mm.set P.X.mm.top fun i _ => rfl) (fun _ h => h)
    refine RetX.drop (Ext.jl _ _) (hk hi hm2 hb _ w sn v (Ext.refl _) (.inl ⟨t, _, _, X', e.trans ?_⟩) fixM.settle P.R')
    unfold createA
    rw [if_pos (by rw [frsM_len]; show 6 ≤ t ∨ (w.acct (m1.fr t).self).bal < argA (stM m1 t) 0 ∨ _; rw [hbal, stM_arg, P.hA]; omega)]
    rfl
  repeat (first | (refine CondX.tt ?_; conv => whnf) | (refine CondX.ff ?_; conv => whnf))
  refine LoadX.fx hbE 0 rfl (by omega) mR_S ?_; conv => whnf
  repeat (first | (refine CondX.tt ?_; conv => whnf) | (refine CondX.ff ?_; conv => whnf))
  refine LoadX.fnA hbE (1803 + t * 65 + 9) rfl (by show _ + 20 ≤ _; omega) ?_
  rw [show (31, y31).snd.size = 20 from rfl, mR_self h7 hsf.1]; conv => whnf
  repeat (first | (refine CondX.tt ?_; conv => whnf) | (refine CondX.ff ?_; conv => whnf))
  refine LoadX.all (join_hm hd4 bw) rfl ?_; conv => whnf
  repeat (first | (refine CondX.tt ?_; conv => whnf) | (refine CondX.ff ?_; conv => whnf))
  refine balance_ok hsf.1 hsf.2 P.X.M.A hMe ?_
  rw [hbal]; conv => whnf
  repeat (refine Ob.mk (by first | exact ldV_fn hbE 0 rfl (by omega) | exact ldV_fn hbE 2258 rfl (by omega) | exact ldV_all (join_hm hd4 bw) rfl | exact (ldV_fnA hbE (1803 + t * 65 + 9) rfl (by show _ + 20 ≤ _; omega)).trans (congrArg (fun y => some (Value.agg y.toArray)) (mR_self h7 hsf.1))) ?_; conv => whnf)
  repeat (first | (refine CondX.tt ?_; conv => whnf) | (refine CondX.ff ?_; conv => whnf))
  refine eLt_ok (Int.le_refl 0) W_pos (Int.natCast_nonneg _) (q 0) ?_; conv => whnf
  repeat (refine Ob.mk (by first | exact ldV_fn hbE 0 rfl (by omega) | exact ldV_fn hbE 2258 rfl (by omega) | exact ldV_all (join_hm hd4 bw) rfl | exact (ldV_fnA hbE (1803 + t * 65 + 9) rfl (by show _ + 20 ≤ _; omega)).trans (congrArg (fun y => some (Value.agg y.toArray)) (mR_self h7 hsf.1))) ?_; conv => whnf)
  repeat (first | (refine CondX.tt ?_; conv => whnf) | (refine CondX.ff ?_; conv => whnf))
  refine CondX.mk (fun h0 => ?_) (fun h0 => ?_) <;> conv => whnf
  · have h0 : 0 < (A 0 : Int) := of_decide_eq_true h0
    repeat (first | (refine CondX.tt ?_; conv => whnf) | (refine CondX.ff ?_; conv => whnf))
    refine CallX.fj hd4 (settleS_w (tk := 4) (st := 1) (Ext.refl _) P.X.M.A.V.dj P.X.dj P.X.M hsp (by omega) (by omega) ⟨Int.le_refl 0, W_pos⟩ fun hm2 g1 g2 M2 g4 => ?_); conv => whnf
    obtain ⟨X', e⟩ := P.X.settle (s0 := s0) (l0 := l0) M2 g2 (P.X.mm.set P.X.mm.top fun i _ => rfl) (fun _ h => h)
    refine RetX.drop (Ext.jl _ _) (hk hi hm2 hb _ w sn v (Ext.refl _) (.inl ⟨t, _, _, X', e.trans ?_⟩) fixM.settle P.R')
    unfold createA
    rw [if_pos (by rw [frsM_len]; show 6 ≤ t ∨ (w.acct (m1.fr t).self).bal < argA (stM m1 t) 0 ∨ _; rw [hbal, stM_arg, P.hA]; omega)]
    rfl
  have h0 : ¬ 0 < (A 0 : Int) := of_decide_eq_false h0
  repeat (first | (refine CondX.tt ?_; conv => whnf) | (refine CondX.ff ?_; conv => whnf))
  refine CondX.eqF (by omega) ?_; conv => whnf
  repeat (first | (refine CondX.tt ?_; conv => whnf) | (refine CondX.ff ?_; conv => whnf))
  refine arg_okM (i := 1) P.X.M hMe (by decide) ?_
  rw [P.hA]; conv => whnf
  refine arg_okM (i := 2) P.X.M hMe (by decide) ?_
  rw [P.hA]; conv => whnf
  refine CallX.fj hd4 (read_own (P.X.M.blk (Ext.jl _ _)) P.X.mm.top (Ext.jr P.X.dj) h7 (q 1) (q 2) (fun hz => ?_) fun sD h' e1 hsD hwD g4 => ?_)
  · have h1 : endI (A 1) (A 2) ≤ ((mems t).length : Int) := P.fit
    unfold endI at h1
    rw [if_neg (by omega)] at h1
    omega
  obtain ⟨h2, eI, d5, d6, rfl, hsD2⟩ := own_j P.X.M.A.V.dj P.X.dj e1 hsD hwD
  conv => whnf
  repeat (first | (refine CondX.tt ?_; conv => whnf) | (refine CondX.ff ?_; conv => whnf))
  have P := P.exti eI d5 d6
  have hk := hk.ext eI
  have hMe : Ext (join h2 hm1) (join (join (join h2 hm1) hb) hl) := (Ext.jl _ _).trans (Ext.jl _ _)
  have hbE := P.X.M.blk hMe
  have hd4 := g4
  clear g4 e1 hsD hwD
  refine DrawX.go T_ok hM Hval.func195 (tb := dr195) rfl (by kernel_rfl) ?_; conv => whnf
  refine LoadX.fnA hbE (1803 + t * 65 + 9) rfl (by show _ + 20 ≤ _; omega) ?_
  rw [show (31, y31).snd.size = 20 from rfl, mR_self h7 hsf.1]; conv => whnf
  refine LoadX.all (join_hm hd4 bw) rfl ?_; conv => whnf
  refine LoadX.fnA hbE (1803 + t * 65 + 9) rfl (by show _ + 20 ≤ _; omega) ?_
  rw [show (31, y31).snd.size = 20 from rfl, mR_self h7 hsf.1]; conv => whnf
  refine createM_ok hsf.1 hsf.2 hnn.1 (by omega) ?_; conv => whnf
  repeat (refine Ob.mk (by first | exact ldV_fn hbE 0 rfl (by omega) | exact ldV_fn hbE 2258 rfl (by omega) | exact ldV_all (join_hm hd4 bw) rfl | exact (ldV_fnA hbE (1803 + t * 65 + 9) rfl (by show _ + 20 ≤ _; omega)).trans (congrArg (fun y => some (Value.agg y.toArray)) (mR_self h7 hsf.1))) ?_; conv => whnf)
  erw [cr_fill (l := cutN (mems t) (A 1) (A 2)) (b := createI (m1.fr t).self (w.acct (m1.fr t).self).nonce) (s := sD) hsf.1 (hashedI_len _)]
  refine forceL_of fok_fB ?_; conv => whnf
  refine BoxW.jm hd4 fun nf g1 g2 g3 => ?_; conv => whnf
  refine Ob.mk ⟨rfl, ones_fB⟩ ?_; conv => whnf
  refine StoreX.top g3 (fB (crF 5 (m1.fr t).self (createI (m1.fr t).self (w.acct (m1.fr t).self).nonce) (A 0) 0 sD (cutN (mems t) (A 1) (A 2)))) (setSeg_all rfl) (Nat.le_of_ble_eq_true rfl) fun hd5 => ?_; conv => whnf
  have hnfv : nf ≠ nv := fun e => by rw [e, bw] at g2; cases g2
  have L : LBx (hput hl nf (fB (crF 5 (m1.fr t).self (createI (m1.fr t).self (w.acct (m1.fr t).self).nonce) (A 0) 0 sD (cutN (mems t) (A 1) (A 2))), 80)) nf nv (crF 5 (m1.fr t).self (createI (m1.fr t).self (w.acct (m1.fr t).self).nonce) (A 0) 0 sD (cutN (mems t) (A 1) (A 2))) (A 0) := ⟨hput_same .., by rw [hput_ne (Ne.symm hnfv)]; exact bw, hnfv⟩
  clear bw g3 hd4
  generalize hput hl nf (fB (crF 5 (m1.fr t).self (createI (m1.fr t).self (w.acct (m1.fr t).self).nonce) (A 0) 0 sD (cutN (mems t) (A 1) (A 2))), 80) = hl5 at *
  have hd4 := hd5
  have bw := L.wd
  have hMe : Ext (join h2 hm1) (join (join (join h2 hm1) hb) hl5) := (Ext.jl _ _).trans (Ext.jl _ _)
  have hbE := P.X.M.blk hMe
  repeat (refine Ob.mk (by first | exact ldV_fn hbE 0 rfl (by omega) | exact ldV_fn hbE 2258 rfl (by omega) | exact ldV_all (join_hm hd4 bw) rfl | exact (ldV_fnA hbE (1803 + t * 65 + 9) rfl (by show _ + 20 ≤ _; omega)).trans (congrArg (fun y => some (Value.agg y.toArray)) (mR_self h7 hsf.1))) ?_; conv => whnf)
  repeat (first | (refine CondX.tt ?_; conv => whnf) | (refine CondX.ff ?_; conv => whnf))
  refine L.set (f' := crF 6 (m1.fr t).self (createI (m1.fr t).self (w.acct (m1.fr t).self).nonce) (A 0) 0 sD (cutN (mems t) (A 1) (A 2))) hd4 rfl (by decide) (fU_kind 6) fun hl7 L7 d7 => ?_; conv => whnf
  have hbE7 := P.X.M.blk (((Ext.jl _ _).trans (Ext.jl _ hl7)) : Ext (join h2 hm1) (join (join (join h2 hm1) hb) hl7))
  refine DrawX.go T_ok hM Hval.func195 (tb := dr195) rfl (by kernel_rfl) ?_; conv => whnf
  refine LoadX.fnA hbE7 (1803 + t * 65 + 9) rfl (by show _ + 20 ≤ _; omega) ?_
  rw [show (31, y31).snd.size = 20 from rfl, mR_self h7 hsf.1]; conv => whnf
  refine arg_okM (i := 3) P.X.M ((Ext.jl _ _).trans (Ext.jl _ hl7)) (by decide) ?_
  rw [P.hA]; conv => whnf
  repeat (refine Ob.mk (by exact (ldV_fnA hbE7 (1803 + t * 65 + 9) rfl (by show _ + 20 ≤ _; omega)).trans (congrArg (fun y => some (Value.agg y.toArray)) (mR_self h7 hsf.1))) ?_; conv => whnf)
  refine create2M_ok hsf.1 hsf.2 (Int.natCast_nonneg _) (q 3) (hsD2.ext (((Ext.jl _ _).trans (Ext.jl _ _)).trans (Ext.jl _ _))) ?_; conv => whnf
  repeat (refine Ob.mk (by exact (ldV_fnA hbE7 (1803 + t * 65 + 9) rfl (by show _ + 20 ≤ _; omega)).trans (congrArg (fun y => some (Value.agg y.toArray)) (mR_self h7 hsf.1))) ?_; conv => whnf)
  have hsfl : (create2I (m1.fr t).self (A 3) (cutN (mems t) (A 1) (A 2))).length = 20 ∧ isB (create2I (m1.fr t).self (A 3) (cutN (mems t) (A 1) (A 2))) := ⟨hashedI_len _, hashedI_isB _⟩
  obtain ⟨sf, hsfe⟩ : ∃ sf, sf = create2I (m1.fr t).self (A 3) (cutN (mems t) (A 1) (A 2)) := ⟨_, rfl⟩
  rw [← hsfe] at hsfl ⊢
  refine Ob.mk ⟨by rw [List.size_toArray, bcells_len, hsfl.1]; rfl, ones_bcells _⟩ ?_; conv => whnf
  refine L7.setL (f' := crF 6 (m1.fr t).self sf (A 0) 0 sD (cutN (mems t) (A 1) (A 2))) d7 (bcells_fnv hsfl.1) rfl (by decide) (fU_self sf) fun hl8 L8 d8 => ?_; conv => whnf
  have L := L8
  have hd4 := d8
  have hbE := P.X.M.blk (((Ext.jl _ _).trans (Ext.jl _ hl8)) : Ext (join h2 hm1) (join (join (join h2 hm1) hb) hl8))
  have ea3 : ∀ i, argA (frM m1 sn mems t).st i = A i := fun i => (stM_arg i).trans (P.hA i)
  have hgas := P.X.M.f.gas
  obtain ⟨g1, hg1⟩ : ∃ g1, g1 = min (m1.fr t).gas ((m1.fr t).gas - (m1.fr t).gas / 64) := ⟨_, rfl⟩
  have hgq : g1 = (m1.fr t).gas - (m1.fr t).gas / 64 := by omega
  refine DrawX.go T_ok hM Hval.func195 (tb := dr195) rfl (by kernel_rfl) ?_; conv => whnf
  refine LoadX.fx hbE (1803 + t * 65 + 7) rfl (by omega) (mR_gas h7) ?_; conv => whnf
  refine LoadX.fx hbE (1803 + t * 65 + 7) rfl (by omega) (mR_gas h7) ?_; conv => whnf
  repeat (refine Ob.mk (by first | decide | omega) ?_; conv => whnf)
  rw [show IntKind.u64.wrap ((m1.fr t).gas - IntKind.u64.wrap ((m1.fr t).gas.tdiv 64)) = g1 by rw [Int.tdiv_eq_ediv_of_nonneg hgas.1, wrap_u64', wrap_u64']; omega]
  refine L.set (f' := crF 6 (m1.fr t).self sf (A 0) g1 sD (cutN (mems t) (A 1) (A 2))) hd4 rfl (by decide) (fU_gas g1) fun hl6 L6 d6 => ?_; conv => whnf
  have hbE6 := P.X.M.blk (((Ext.jl _ _).trans (Ext.jl _ hl6)) : Ext (join h2 hm1) (join (join (join h2 hm1) hb) hl6))
  refine DrawX.go T_ok hM Hval.func195 (tb := dr195) rfl (by kernel_rfl) ?_; conv => whnf
  refine LoadX.fx hbE6 (1803 + t * 65 + 7) rfl (by omega) (mR_gas h7) ?_; conv => whnf
  refine LoadX.fx (join_hm d6 L6.fr) 7 rfl (by decide) (x := .int .u64 g1) rfl ?_; conv => whnf
  rw [show IntKind.u64.wrap ((m1.fr t).gas - g1) = (m1.fr t).gas - g1 by rw [wrap_u64']; omega]
  refine P.X.M.A.sto5 P.X.dj d6 (eU_gas h7 _) rfl (by omega) fun hm2 A2 d7 d8 => ?_; conv => whnf
  obtain ⟨X2, -⟩ := P.X.fset (s0 := s0) (l0 := l0) A2 d7 (P.X.M.f.gol (g := (m1.fr t).gas - g1) (a := (m1.fr t).oo) (b := (m1.fr t).ol) (by omega)) rfl rfl (fun _ h => h)
  obtain ⟨m2, hm2e⟩ : ∃ m2 : MS, m2 = { m1 with fr := updN m1.fr t { m1.fr t with gas := (m1.fr t).gas - g1 } } := ⟨_, rfl⟩
  have hf2 : m2.fr t = { m1.fr t with gas := (m1.fr t).gas - g1 } := by rw [hm2e]; exact updN_same ..
  have hs2e : (m2.fr t).self = (m1.fr t).self := by rw [hf2]
  have hs2 : (m2.fr t).self.length = 20 ∧ isB (m2.fr t).self := by rw [hs2e]; exact hsf
  rw [← hm2e] at A2 X2
  have hbE7 := A2.blk (((Ext.jl _ _).trans (Ext.jl _ hl6)) : Ext (join h2 hm2) (join (join (join h2 hm2) hb) hl6))
  refine DrawX.go T_ok hM Hval.func195 (tb := dr195) rfl (by kernel_rfl) ?_; conv => whnf
  refine LoadX.fx hbE7 0 rfl (by omega) mR_S ?_; conv => whnf
  refine LoadX.fnA hbE7 (1803 + t * 65 + 9) rfl (by show _ + 20 ≤ _; omega) ?_
  rw [show (31, y31).snd.size = 20 from rfl, mR_self (m := m2) h7 hs2.1, hs2e]; conv => whnf
  rw [show IntKind.u64.wrap ((w.acct (m1.fr t).self).nonce + 1) = (w.acct (m1.fr t).self).nonce + 1 by rw [wrap_u64']; omega]
  refine CallX.fj d8 (CallX.fj d7 (putNonce_ok hsf.1 hsf.2 ⟨by omega, by omega⟩ A2 (by omega) (by omega) fun hm3 v3 A3 u3 hh3 d9 d10 => ?_)); conv => whnf
  have X3 := X2.vset A3 d9 u3.has
  have hbE8 := A3.blk (((Ext.jl _ _).trans (Ext.jl _ hl6)) : Ext (join h2 hm3) (join (join (join h2 hm3) hb) hl6))
  repeat (refine Ob.mk (by first | exact ldV_fn hbE8 0 rfl (by omega) | exact (ldV_fnA hbE8 (1803 + t * 65 + 9) rfl (by show _ + 20 ≤ _; omega)).trans (congrArg (fun y => some (Value.agg y.toArray)) ((mR_self (m := m2) h7 hs2.1).trans (by rw [hs2e])))) ?_; conv => whnf)
  repeat (first | (refine CondX.tt ?_; conv => whnf) | (refine CondX.ff ?_; conv => whnf))
  refine LoadX.fnA (join_hm d10 L6.fr) 9 rfl (by decide) ?_
  erw [fB_self (f := crF 6 (m1.fr t).self sf (A 0) g1 sD (cutN (mems t) (A 1) (A 2))) hsfl.1]; conv => whnf
  repeat (first | (refine CondX.tt ?_; conv => whnf) | (refine CondX.ff ?_; conv => whnf))
  refine CallX.fj d10 (CallX.fj d9 (warmAcct_okM (a := sf) hsfl.1 hsfl.2 X3.M (by have := u3.a; have := newA_le v (m1.fr t).self; omega) (by have := u3.j; omega) fun hm4 v4 M4 u4 hh4 d11 d12 => ?_)); conv => whnf
  have X4 := X3.vset M4.A d11 u4.has
  have hbE9 := M4.blk (((Ext.jl _ _).trans (Ext.jl _ hl6)) : Ext (join h2 hm4) (join (join (join h2 hm4) hb) hl6))
  repeat (refine Ob.mk (by first | exact ldV_fn hbE9 0 rfl (by omega) | exact (ldV_fnA hbE9 (1803 + t * 65 + 9) rfl (by show _ + 20 ≤ _; omega)).trans (congrArg (fun y => some (Value.agg y.toArray)) ((mR_self (m := m2) h7 hs2.1).trans (by rw [hs2e]))) | exact (ldV_fnA (join_hm d12 L6.fr) 9 rfl (by decide)).trans (congrArg (fun y => some (Value.agg y.toArray)) (fB_self (f := crF 6 (m1.fr t).self sf (A 0) g1 sD (cutN (mems t) (A 1) (A 2))) hsfl.1))) ?_; conv => whnf)
  repeat (first | (refine CondX.tt ?_; conv => whnf) | (refine CondX.ff ?_; conv => whnf))
  refine LoadX.fnA (join_hm d12 L6.fr) 9 rfl (by decide) ?_
  erw [fB_self (f := crF 6 (m1.fr t).self sf (A 0) g1 sD (cutN (mems t) (A 1) (A 2))) hsfl.1]; conv => whnf
  refine CallX.rdrop (taken_okM (a := sf) hsfl.1 hsfl.2 M4 ((Ext.jl _ _).trans (Ext.jl _ hl6)) fun h' e => ⟨_, e, ?_⟩); conv => whnf
  obtain ⟨w4, hw4⟩ : ∃ w4, w4 = warmW (nonceW w (m1.fr t).self ((w.acct (m1.fr t).self).nonce + 1)) sf := ⟨_, rfl⟩
  rw [← hw4] at M4 X4 ⊢
  have hup : Up v v4 2 0 0 2 := (u3.trans u4).le (by have := newA_le v (m1.fr t).self; omega) (Nat.le_refl _) (Nat.le_refl _) (Nat.le_refl _)
  have hco : S + 32000 ≤ S' := by
    have h1 := P.cost
    have h2 : bareA w (m1.fr t).self 245 (fun i => (A i : Int)) = enterCA w 245 (fun i => (A i : Int)) := rfl
    have h3 : 32000 ≤ enterCA w 245 (fun i => (A i : Int)) := by unfold enterCA; simp; omega
    omega
  have hR5 : Rs (S' - 100) v4 sn := P.R.up hup (by omega) (by omega) (by omega) (by omega)
  have hsp2 : (m2.fr t).sp = (m1.fr t).sp := by rw [hf2]
  have hpc2 : (m2.fr t).pc = (m1.fr t).pc := by rw [hf2]
  have hfx : fixM m1 m2 := by rw [hm2e]; exact ⟨rfl, rfl, rfl, rfl, rfl, rfl, rfl, rfl, rfl, rfl, rfl⟩
  have hfr2 : frM m2 sn mems t = { frM m1 sn mems t with gas := (m1.fr t).gas - g1 } := by rw [hm2e]; exact frM_gol (g := (m1.fr t).gas - g1) (a := (m1.fr t).oo) (b := (m1.fr t).ol)
  have hfs2 : frsM m2 t sn mems = frsM m1 t sn mems := by rw [hm2e]; exact frsM_fset
  have hgo : ¬ (6 ≤ (frsM m1 t sn mems).length ∨ (w.acct (m1.fr t).self).bal < argA (stM m1 t) 0 ∨ 18446744073709551615 ≤ (w.acct (m1.fr t).self).nonce) := by
    rw [frsM_len, hbal, stM_arg, P.hA]; omega
  have hsel : (if (245 : Int) = 245 then create2I (frM m1 sn mems t).self (argA (frM m1 sn mems t).st 3) (cutN (frM m1 sn mems t).mem (argA (frM m1 sn mems t).st 1).toNat (argA (frM m1 sn mems t).st 2).toNat) else createI (frM m1 sn mems t).self ((absM m1 t w sn mems s0 l0).w.acct (frM m1 sn mems t).self).nonce) = sf := (by rw [if_pos rfl, ea3, ea3, ea3, Int.toNat_natCast, Int.toNat_natCast]; exact hsfe.symm)
  have n0 : 0 ≤ (w4.acct sf).nonce := by
    rw [hw4]
    show 0 ≤ (updA w.acct (m1.fr t).self { w.acct (m1.fr t).self with nonce := (w.acct (m1.fr t).self).nonce + 1 } sf).nonce
    unfold updA
    split
    · show 0 ≤ (w.acct (m1.fr t).self).nonce + 1; omega
    · exact hnw sf
  have hst : (stM m1 t).length = (m1.fr t).sp := stM_len ..
  refine CondX.decI (fun htk => ?_) (fun htk => ?_) <;> conv => whnf
  · refine CallX.fj d12 (settleS_w (tk := 4) (st := 1) (Ext.refl _) M4.A.V.dj d11 M4 (by omega) (by omega) (by omega) ⟨Int.le_refl 0, W_pos⟩ fun hm5 g1 g2 M5 g4 => ?_); conv => whnf
    obtain ⟨X5, e5⟩ := X4.settle (s0 := s0) (l0 := l0) M5 g2 (X4.mm.set X4.mm.top fun i _ => rfl) (fun _ h => h)
    refine RetX.drop (Ext.jl _ _) (hk h2 hm5 hb _ _ sn v4 (Ext.refl _) (.inl ⟨t, _, _, X5, e5.trans ?_⟩) (hfx.trans fixM.settle) (hR5.mono (by omega)))
    rw [createA_tk (a := absM m1 t w sn mems s0 l0) hgo hsel hw4.symm (htk.imp (fun h => by omega) List.length_pos_iff.1), hfs2, hfr2, hm2e, hg1]
    rfl
  refine M4.A.sto5 d11 d12 (eU_oo h7 _) rfl (by omega) fun hm5 A5 d13 d14 => ?_; conv => whnf
  refine A5.sto5 d13 d14 (eU_ol h7 _) rfl (by omega) fun hm6 A6 d15 d16 => ?_; conv => whnf
  have A6 : VA h2 hm6 eb (mC eb { m2 with fr := updN m2.fr t { m2.fr t with gas := (m2.fr t).gas, oo := 0, ol := 0 } }) w4 sn v4 := cast (congrArg (fun y => VA h2 hm6 eb (mC eb y) w4 sn v4) (fset_ool (m := m2) (t := t))) A6
  obtain ⟨X6, -⟩ := X4.fset (s0 := s0) (l0 := l0) A6 d15 (X4.M.f.gol (g := (m2.fr t).gas) (a := 0) (b := 0) X4.M.f.gas) rfl rfl (fun _ h => h)
  obtain ⟨m6, hm6e⟩ : ∃ m6 : MS, m6 = { m2 with fr := updN m2.fr t { m2.fr t with gas := (m2.fr t).gas, oo := 0, ol := 0 } } := ⟨_, rfl⟩
  have hf6 : m6.fr t = { m2.fr t with gas := (m2.fr t).gas, oo := 0, ol := 0 } := by rw [hm6e]; exact updN_same ..
  have hfr6 : frM m6 sn mems t = { frM m2 sn mems t with gas := (m2.fr t).gas, oo := 0, ol := 0 } := by rw [hm6e]; exact frM_gol
  have hfs6 : frsM m6 t sn mems = frsM m2 t sn mems := by rw [hm6e]; exact frsM_fset
  have hfx6 : fixM m2 m6 := by rw [hm6e]; exact ⟨rfl, rfl, rfl, rfl, rfl, rfl, rfl, rfl, rfl, rfl, rfl⟩
  have hre6 : m6.ret = m1.ret := by rw [hm6e, hm2e]
  rw [← hm6e] at A6 X6
  clear A5
  have hsp6 : (m6.fr t).sp = (m1.fr t).sp := by rw [hf6]; exact hsp2
  have hpc6 : (m6.fr t).pc = (m1.fr t).pc := by rw [hf6]; exact hpc2
  refine CallX.fj d16 (settleN_w (x := 0) (tk := 4) (st := 0) (Ext.refl _) X6.M.A.V.dj d15 X6.M (by omega) (by omega) fun hm7 q1 q2 M7 q4 => ?_); conv => whnf
  obtain ⟨X7, e7⟩ := X6.settle (s0 := s0) (l0 := l0) M7 q2 (X6.mm.set X6.mm.top fun i _ => rfl) (fun _ h => h)
  rw [updN_id] at X7 e7
  have hf7 : (settleM m6 t 4 none 0).fr t = { m6.fr t with sp := (m6.fr t).sp - 4, pc := (m6.fr t).pc + 0 } := updN_same ..
  refine LoadX.all (c := fB (crF 6 (m1.fr t).self sf (A 0) g1 sD (cutN (mems t) (A 1) (A 2)))) (join_hm q4 L6.fr) rfl ?_; conv => whnf
  refine CallX.fj q4 (ent_ok (S := S' - 100) (S' := S') (s0 := s0) (l0 := l0) (f := crF 6 (m1.fr t).self sf (A 0) g1 sD (cutN (mems t) (A 1) (A 2))) X7 (by omega) ⟨by rw [hf7]; show (m6.fr t).sp - 4 < 64; omega, by rw [hf7]; show (m6.fr t).pc + 0 < 1000; omega, by rw [hf7, hf6]; show (0 : Int) ≤ 0 ∧ (0 : Int) < 4294967296; omega, by rw [hf7, hf6]; show (0 : Int) ≤ 0 ∧ (0 : Int) < 4294967296; omega, fun hh => absurd (by rw [hf7, hf6]) hh⟩ hsD2 (Byt_nil _) (by show (cutN (mems t) (A 1) (A 2)).length ≤ 512; rw [cutN_length]; exact hA2) hsfl hsf (by show (A 0 : Int) = 0; omega) (by show 0 ≤ g1 ∧ g1 < _; omega) rfl rfl hh4 hR5 ⟨by have := P.hS.1; omega, P.hS.2⟩ (by omega) ?_)
  intro hi1 hm8 hb8 m8 w8 sn8 v8 p1 p2 p3 p4 p5
  conv => whnf
  refine RetX.drop (Ext.jl _ _) (hk hi1 hm8 hb8 m8 w8 sn8 v8 p1 ?_ (((hfx.trans hfx6).trans fixM.settle).trans p3) p4)
  rw [createA_go (a := absM m1 t w sn mems s0 l0) hgo hsel hw4.symm (fun hh => htk (hh.imp (fun h => by omega) List.length_pos_iff.2))]
  rw [e7, hfs6, hfr6, hfs2, hfr2, hre6] at p2
  have ea : ∀ i, argA (frM m1 sn mems t).st i = A i := fun i => (stM_arg i).trans (P.hA i)
  have hg1' : min (frM m1 sn mems t).gas ((frM m1 sn mems t).gas - (frM m1 sn mems t).gas / 64) = g1 := hg1.symm
  have hg2 : (m2.fr t).gas = (m1.fr t).gas - g1 := by rw [hf2]
  rw [hg2] at p2
  rw [ea, ea, ea, Int.toNat_natCast, Int.toNat_natCast, hg1']
  simp only [settleF, Option.toList_none, List.append_nil, Int.natCast_zero, Int.add_zero] at p2
  exact p2
end
end Go.Proofs.YgvalwGreat.X
