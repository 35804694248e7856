import Derived.Test.YgvalwGreatM52
set_option linter.unusedVariables false
set_option linter.unusedSimpArgs false
namespace Go.Proofs.YgvalwGreat.X
open Go

section
variable {hi hi' hm hm' hb hb' hl h h1 : Hp} {K : Value → Hp → Prop} {KK : Hp → Prop} {v v' : VS} {eb : Nat} {m m' : MS} {t : Nat} {mems : Nat → List Int} {stale stale' mem' orig : List Int} {w w' : AW} {sn : List AW} {s0 l0 S S' x o : Int} {A : Nat → Nat} {a : AS} {f f' : MF}

set_option maxRecDepth 100000 in
set_option maxHeartbeats 4000000 in
theorem x_244 (hbal : (w.acct (m.fr t).self).bal = 0) (hval : (m.fr t).val = 0) (hgl : (m.fr t).gas ≤ 1048576) (hcodes : ∀ b, (w.acct b).code.length ≤ 512) (P : OpS hi hm hb eb m t w sn v mems stale 244 A S S')
    (hk : EnK hi eb m S' (callA { absM m t w sn mems s0 l0 with ret := [] } (frsM m t sn mems) (frM m sn mems t) 244) s0 l0 (K (.tuple #[]))) : CallX Hval.prog 198 [.pointer (some ⟨eb, 0, none⟩)] (join (join hi hm) hb) K := by
  have h7 := P.X.M.t7
  have q : ∀ i, (A i : Int) < W := fun i => P.hA i ▸ (argM_W P.X.M i).2
  refine CallX.of_xf T_ok Hval.func198 rfl (by kernel_rfl) (Nat.le_of_ble_eq_true rfl) ?_; conv => whnf
  refine running_ok P.X.M (Ext.jl _ _) ?_; conv => whnf
  repeat (first | (refine CondX.tt ?_; conv => whnf) | (refine CondX.ff ?_; conv => whnf))
  refine arg_okM (i := 1) P.X.M (Ext.jl _ _) (by decide) ?_
  rw [P.hA]; conv => whnf
  refine addrOf_okM (q 1) ?_; conv => whnf
  obtain ⟨ad, ead⟩ : ∃ ad, ad = addrI (A 1) := ⟨_, rfl⟩
  have hal : ad.length = 20 := by rw [ead]; exact addrI_length _
  have haB : isB ad := by rw [ead]; exact isB_addrI _
  rw [← ead]
  have alen : (bcells ad).length = (31, y31).snd.size := by rw [bcells_len, hal]; rfl
  refine BoxX.jj P.X.M.A.V.dj P.X.dj fun n3 e3 d31 d32 => ?_; conv => whnf
  refine Ob.mk ⟨by rw [List.size_toArray, bcells_len, hal]; rfl, ones_bcells _⟩ ?_; conv => whnf
  refine StoreX.fr (StoreX.jx (x := bcells ad) (by rw [List.toList_toArray, bcells_len, hal]; exact Nat.le_of_ble_eq_true rfl) (setSeg_all (by rw [List.toList_toArray, bcells_len, hal]; rfl)) ?_); conv => whnf
  have P := P.exti (e3 (bcells ad, 31)) (d31 _) (d32 _)
  have hk := hk.ext (e3 (bcells ad, 31))
  have b3 : hput hi n3 (bcells ad, 31) n3 = some (bcells ad, 31) := hput_same ..
  clear e3 d31 d32
  generalize hput hi n3 (bcells ad, 31) = h0 at *
  refine P.X.M.A.sto P.X.dj (eU_ret nilS []) rfl (by omega) fun hm1 A1 d1 => ?_; conv => whnf
  obtain ⟨m1, P, hbal, hval, hgl, hk⟩ : ∃ m1, OpS h0 hm1 hb eb m1 t w sn v mems stale 244 A S S' ∧ (w.acct (m1.fr t).self).bal = 0 ∧ (m1.fr t).val = 0 ∧ (m1.fr t).gas ≤ 1048576 ∧ EnK h0 eb m1 S' (callA (absM m1 t w sn mems s0 l0) (frsM m1 t sn mems) (frM m1 sn mems t) 244) s0 l0 (K (.tuple #[])) :=
    ⟨_, P.rt A1 d1, hbal, hval, hgl, hk.fix ⟨rfl, rfl, rfl, rfl, rfl, rfl, rfl, rfl, rfl, rfl, rfl⟩⟩
  have hsf := P.X.M.f.self
  have hcl := P.X.M.f.caller
  have hrm := P.R.room (by have := P.le; have := P.hS; omega)
  clear A1
  refine LoadX.all (join_l (join_l b3)) alen ?_; conv => whnf
  refine CallX.fj P.X.dj (warmAcct_c hal haB P.X.M (by omega) (by omega) fun hm2 v2 M2 u2 hh2 d2 => ?_); conv => whnf
  repeat (first | (refine CondX.tt ?_; conv => whnf) | (refine CondX.ff ?_; conv => whnf))
  have X2 := P.X.vset M2.A d2 u2.has
  have hbE := M2.blk (Ext.jl _ hb)
  refine DrawX.go T_ok hM Hval.func198 (tb := dr198) rfl (by kernel_rfl) ?_; conv => whnf
  refine LoadX.fx hbE (1803 + t * 65 + 3) rfl (by omega) (mR_static h7) ?_; conv => whnf
  refine LoadX.all (join_l (join_l b3)) alen ?_; conv => whnf
  refine LoadX.fnA hbE (1803 + t * 65 + 9) rfl (by show _ + 20 ≤ _; omega) ?_
  rw [show (31, y31).snd.size = 20 from rfl, mR_self h7 hsf.1]; conv => whnf
  erw [ca_fill (st := (m1.fr t).static) hsf.1 hal]
  refine forceL_of fok_fB ?_; conv => whnf
  rw [← join_hNil (join (join h0 hm2) hb)]
  refine BoxW.jm (Dj_hNil _) fun nf g1 g2 g3 => ?_; conv => whnf
  refine Ob.mk ⟨rfl, ones_fB⟩ ?_; conv => whnf
  refine StoreX.top g3 (fB (caF 2 0 (m1.fr t).static 0 ad (m1.fr t).self 0 nilS [] nilS [])) (setSeg_all rfl) (Nat.le_of_ble_eq_true rfl) fun hd3 => ?_; conv => whnf
  have bf : hput hNil nf (fB (caF 2 0 (m1.fr t).static 0 ad (m1.fr t).self 0 nilS [] nilS []), 80) nf = some (fB (caF 2 0 (m1.fr t).static 0 ad (m1.fr t).self 0 nilS [] nilS []), 80) := hput_same ..
  clear g1 g2 g3
  generalize hput hNil nf (fB (caF 2 0 (m1.fr t).static 0 ad (m1.fr t).self 0 nilS [] nilS []), 80) = hlf at *
  have hMe : Ext (join h0 hm2) (join (join (join h0 hm2) hb) hlf) := (Ext.jl _ _).trans (Ext.jl _ _)
  have hbE := M2.blk hMe
  repeat (refine Ob.mk (by first | exact (ldV_fn hbE (1803 + t * 65 + 3) rfl (by omega)).trans (congrArg some (mR_static h7)) | exact (ldV_fn hbE (1803 + t * 65 + 7) rfl (by omega)).trans (congrArg some (mR_gas h7)) | exact ldV_fn hbE 0 rfl (by omega) | exact (ldV_fn hbE 2258 rfl (by omega)).trans (congrArg some (mR_top.trans (congrArg _ M2.top))) | exact (ldV_fnA hbE (1803 + t * 65 + 9) rfl (by show _ + 20 ≤ _; omega)).trans (congrArg (fun y => some (Value.agg y.toArray)) (mR_self h7 hsf.1)) | exact ldV_all (join_l (join_l b3)) (by rw [alen]) | exact ldV_all (join_l (join_l (join_l b3))) (by rw [alen])) ?_; conv => whnf)
  refine BoxX.jm hd3 fun nv g4 g5 g6 => ?_; conv => whnf
  refine Ob.mk ⟨rfl, rfl⟩ ?_; conv => whnf
  refine StoreX.top g6 (wc 0) (setSeg_all rfl) (Nat.le_of_ble_eq_true rfl) fun hd4 => ?_; conv => whnf
  have hnfv : nf ≠ nv := fun e => by rw [← e, bf] at g5; cases g5
  have L : LBx (hput hlf nv (wc 0, 75)) nf nv (caF 2 0 (m1.fr t).static 0 ad (m1.fr t).self 0 nilS [] nilS []) 0 := ⟨by rw [hput_ne hnfv]; exact bf, hput_same .., hnfv⟩
  clear g4 g5 g6 bf hMe hbE
  generalize hput hlf nv (wc 0, 75) = hl at *
  have hMe : Ext (join h0 hm2) (join (join (join h0 hm2) hb) hl) := (Ext.jl _ _).trans (Ext.jl _ _)
  have hbE := M2.blk hMe
  refine opcodeM_ok M2 hMe ?_
  rw [P.ho]; conv => whnf
  repeat (first | (refine CondX.tt ?_; conv => whnf) | (refine CondX.ff ?_; conv => whnf))
  refine L.set (f' := caF 3 0 (m1.fr t).static 0 ad (m1.fr t).self 0 nilS [] nilS []) hd4 rfl (by decide) (fU_kind 3) fun hlB LB dB => ?_; conv => whnf
  have hbEB := M2.blk (((Ext.jl _ _).trans (Ext.jl _ hlB)) : Ext (join h0 hm2) (join (join (join h0 hm2) hb) hlB))
  refine LoadX.fnA hbEB (1803 + t * 65 + 9) rfl (by show _ + 20 ≤ _; omega) ?_
  rw [show (31, y31).snd.size = 20 from rfl, mR_self h7 hsf.1]; conv => whnf
  refine Ob.mk ⟨by rw [List.size_toArray, bcells_len, hsf.1]; rfl, ones_bcells _⟩ ?_; conv => whnf
  refine LB.setL (f' := caF 3 0 (m1.fr t).static 0 (m1.fr t).self (m1.fr t).self 0 nilS [] nilS []) dB (bcells_fnv hsf.1) rfl (by decide) (fU_self _) fun hlC LC dC => ?_; conv => whnf
  have hbEC := M2.blk (((Ext.jl _ _).trans (Ext.jl _ hlC)) : Ext (join h0 hm2) (join (join (join h0 hm2) hb) hlC))
  refine LoadX.fnA hbEC (1803 + t * 65 + 29) rfl (by show _ + 20 ≤ _; omega) ?_
  rw [show (31, y31).snd.size = 20 from rfl, mR_caller h7 hcl.1]; conv => whnf
  refine Ob.mk ⟨by rw [List.size_toArray, bcells_len, hcl.1]; rfl, ones_bcells _⟩ ?_; conv => whnf
  refine LC.setL (f' := caF 3 0 (m1.fr t).static 0 (m1.fr t).self (m1.fr t).caller 0 nilS [] nilS []) dC (bcells_fnv hcl.1) rfl (by decide) (fU_caller _) fun hlD LD dD => ?_; conv => whnf
  have hbED := M2.blk (((Ext.jl _ _).trans (Ext.jl _ hlD)) : Ext (join h0 hm2) (join (join (join h0 hm2) hb) hlD))
  refine LoadX.fnA hbED (1803 + t * 65 + 49) rfl (by show _ + 4 ≤ _; omega) ?_
  rw [show (75, y75).snd.size = 4 from rfl, mR_val h7]; conv => whnf
  refine Ob.mk ⟨rfl, rfl⟩ ?_; conv => whnf
  refine LD.setL (f' := caF 3 0 (m1.fr t).static 0 (m1.fr t).self (m1.fr t).caller (m1.fr t).val nilS [] nilS []) dD (wc_fnv _) rfl (by decide) (fU_val _) fun hlA LA dA => ?_; conv => whnf
  clear hbEB hbEC hbED LB LC LD dB dC dD
  have hV0 : (0 : Int) ≤ 0 := Int.le_refl 0
  have hVW : (0 : Int) < W := W_pos
  have hMe : Ext (join h0 hm2) (join (join (join h0 hm2) hb) hlA) := (Ext.jl _ _).trans (Ext.jl _ _)
  have hbE := M2.blk hMe
  have hgas := P.X.M.f.gas
  obtain ⟨g1, hg1⟩ : ∃ g1, g1 = min (A 0 : Int) ((m1.fr t).gas - (m1.fr t).gas / 64) := ⟨_, rfl⟩
  have hg1b : 0 ≤ g1 ∧ g1 ≤ (m1.fr t).gas := by omega
  refine DrawX.go T_ok hM Hval.func198 (tb := dr198) rfl (by kernel_rfl) ?_; conv => whnf
  refine LoadX.fx hbE (1803 + t * 65 + 7) rfl (by omega) (mR_gas h7) ?_; conv => whnf
  refine arg_okM (i := 0) M2 hMe (by decide) ?_
  rw [P.hA]; conv => whnf
  repeat (refine Ob.mk (by first | exact (ldV_fn hbE (1803 + t * 65 + 3) rfl (by omega)).trans (congrArg some (mR_static h7)) | exact (ldV_fn hbE (1803 + t * 65 + 7) rfl (by omega)).trans (congrArg some (mR_gas h7)) | exact ldV_fn hbE 0 rfl (by omega) | exact (ldV_fn hbE 2258 rfl (by omega)).trans (congrArg some (mR_top.trans (congrArg _ M2.top))) | exact (ldV_fnA hbE (1803 + t * 65 + 9) rfl (by show _ + 20 ≤ _; omega)).trans (congrArg (fun y => some (Value.agg y.toArray)) (mR_self h7 hsf.1)) | exact ldV_all (join_l (join_l b3)) (by rw [alen]) | exact ldV_all (join_l (join_l (join_l b3))) (by rw [alen])) ?_; conv => whnf)
  refine sentGas_okM hgas.1 hgas.2 (q 0) ?_
  rw [← hg1]; conv => whnf
  repeat (refine Ob.mk (by first | exact (ldV_fn hbE (1803 + t * 65 + 3) rfl (by omega)).trans (congrArg some (mR_static h7)) | exact (ldV_fn hbE (1803 + t * 65 + 7) rfl (by omega)).trans (congrArg some (mR_gas h7)) | exact ldV_fn hbE 0 rfl (by omega) | exact (ldV_fn hbE 2258 rfl (by omega)).trans (congrArg some (mR_top.trans (congrArg _ M2.top))) | exact (ldV_fnA hbE (1803 + t * 65 + 9) rfl (by show _ + 20 ≤ _; omega)).trans (congrArg (fun y => some (Value.agg y.toArray)) (mR_self h7 hsf.1)) | exact ldV_all (join_l (join_l b3)) (by rw [alen]) | exact ldV_all (join_l (join_l (join_l b3))) (by rw [alen])) ?_; conv => whnf)
  refine LA.set (f' := caF 3 0 (m1.fr t).static g1 (m1.fr t).self (m1.fr t).caller (m1.fr t).val nilS [] nilS []) dA rfl (by decide) (fU_gas g1) fun hl6 L6 d6 => ?_; conv => whnf
  clear LA dA hMe hbE
  have hbE6 := M2.blk (((Ext.jl _ _).trans (Ext.jl _ hl6)) : Ext (join h0 hm2) (join (join (join h0 hm2) hb) hl6))
  refine DrawX.go T_ok hM Hval.func198 (tb := dr198) rfl (by kernel_rfl) ?_; conv => whnf
  refine LoadX.fx hbE6 (1803 + t * 65 + 7) rfl (by omega) (mR_gas h7) ?_; conv => whnf
  refine LoadX.fx (join_hm d6 L6.fr) 7 rfl (by decide) (x := .int .u64 g1) rfl ?_; conv => whnf
  rw [show IntKind.u64.wrap ((m1.fr t).gas - g1) = (m1.fr t).gas - g1 by rw [wrap_u64']; omega]
  refine M2.A.sto5 d2 d6 (eU_gas h7 _) rfl (by omega) fun hm3 A3 d7 d8 => ?_; conv => whnf
  obtain ⟨X3, -⟩ := X2.fset (s0 := s0) (l0 := l0) A3 d7 (X2.M.f.gol (g := (m1.fr t).gas - g1) (a := (m1.fr t).oo) (b := (m1.fr t).ol) (by omega)) rfl rfl (fun _ h => h)
  obtain ⟨m3, hm3e⟩ : ∃ m3 : MS, m3 = { m1 with fr := updN m1.fr t { m1.fr t with gas := (m1.fr t).gas - g1 } } := ⟨_, rfl⟩
  have hf3 : m3.fr t = { m1.fr t with gas := (m1.fr t).gas - g1 } := by rw [hm3e]; exact updN_same ..
  have hs3e : (m3.fr t).self = (m1.fr t).self := by rw [hf3]
  have hs3 : (m3.fr t).self.length = 20 ∧ isB (m3.fr t).self := by rw [hs3e]; exact hsf
  have hsp3 : (m3.fr t).sp = (m1.fr t).sp := by rw [hf3]
  have hpc3 : (m3.fr t).pc = (m1.fr t).pc := by rw [hf3]
  have hgs3 : (m3.fr t).gas = (m1.fr t).gas - g1 := by rw [hf3]
  have hfx3 : fixM m1 m3 := by rw [hm3e]; exact ⟨rfl, rfl, rfl, rfl, rfl, rfl, rfl, rfl, rfl, rfl, rfl⟩
  have hfr3 : frM m3 sn mems t = { frM m1 sn mems t with gas := (m1.fr t).gas - g1 } := by rw [hm3e]; exact frM_gol (g := (m1.fr t).gas - g1) (a := (m1.fr t).oo) (b := (m1.fr t).ol)
  have hfs3 : frsM m3 t sn mems = frsM m1 t sn mems := by rw [hm3e]; exact frsM_fset
  have hre3 : m3.ret = m1.ret := by rw [hm3e]
  have hA3 : ∀ i, argM m3 t i = A i := fun i => (argM_ext hsp3 (by rw [hm3e]) i).trans (P.hA i)
  rw [← hm3e] at A3 X3
  have hsp : 6 ≤ (m1.fr t).sp := Int.ofNat_le.1 P.sp
  have hs64 := P.X.M.f.sp
  have hpc := P.pc
  have hbc : accA w ad ≤ bareA w (m1.fr t).self 244 (fun i => (A i : Int)) := by
    show accA w ad ≤ enterCA w 244 (fun i => (A i : Int))
    unfold enterCA
    rw [if_neg (by decide), if_neg (by decide), ead]
    show accA w (addrI (A 1)) ≤ accA w (addrI (A 1)) + _
    split <;> (try split) <;> omega
  have hcst := P.cost
  have hac := accA_bd w ad
  have hcw : 2500 * ((cldW w ad : Nat) : Int) + 100 ≤ accA w ad := by unfold cldW accA; split <;> omega
  have hR3 : Rs (S' - 100) v2 sn := P.R.up u2 (by omega) (by omega) (by omega) (by omega)
  have ea : ∀ i, argA (frM m1 sn mems t).st i = A i := fun i => (stM_arg i).trans (P.hA i)
  refine LoadX.all (join_hm d8 L6.wd) rfl ?_; conv => whnf
  refine eIsZero' hV0 hVW ?_; conv => whnf
  have hbalW : ((warmW w ad).acct (m1.fr t).self).bal = 0 := hbal
  repeat (first | (refine CondX.tt ?_; conv => whnf) | (refine CondX.ff ?_; conv => whnf))
  have hRf : Rs S' v2 sn := hR3.mono (by omega)
  have hvv : (if (0 : Int) = 0 then (0 : Int) else 2300) = 0 := if_pos rfl
  have hva : (if (244 : Int) = 241 ∨ (244 : Int) = 242 then argA (frM m1 sn mems t).st 2 else 0) = 0 := if_neg (by decide)
  have hMe9 : Ext (join h0 hm3) (join (join (join h0 hm3) hb) hl6) := (Ext.jl _ _).trans (Ext.jl _ hl6)
  have hbE9 := A3.blk hMe9
  refine DrawX.go T_ok hM Hval.func198 (tb := dr198) rfl (by kernel_rfl) ?_; conv => whnf
  refine LoadX.fx hbE9 2258 rfl (by omega) (x := .int .i8 t) (mR_top.trans (congrArg _ X3.M.top)) ?_; conv => whnf
  refine CondX.decI (fun h6 => ?_) (fun h6 => ?_) <;> conv => whnf
  · repeat (first | (refine CondX.tt ?_; conv => whnf) | (refine CondX.ff ?_; conv => whnf))
    have hbEf := A3.blk (((Ext.jl _ _).trans (Ext.jl _ hl6)) : Ext (join h0 hm3) (join (join (join h0 hm3) hb) hl6))
    refine DrawX.go T_ok hM Hval.func198 (tb := dr198) rfl (by kernel_rfl) ?_; conv => whnf
    refine LoadX.fx hbEf (1803 + t * 65 + 7) rfl (by omega) (mR_gas h7) ?_; conv => whnf
    refine LoadX.fx (join_hm d8 L6.fr) 7 rfl (by decide) (x := .int .u64 (g1)) rfl ?_; conv => whnf
    rw [hgs3, show IntKind.u64.wrap ((m1.fr t).gas - g1 + (g1)) = (m1.fr t).gas - g1 + (g1) by rw [wrap_u64']; omega]
    refine A3.sto5 d7 d8 (eU_gas h7 _) rfl (by omega) fun hm4 A4 e7 e8 => ?_; conv => whnf
    obtain ⟨X4, -⟩ := X3.fset (s0 := s0) (l0 := l0) A4 e7 (X3.M.f.gol (g := (m1.fr t).gas - g1 + (g1)) (a := (m3.fr t).oo) (b := (m3.fr t).ol) (by omega)) rfl rfl (fun _ h => h)
    obtain ⟨m4, hm4e⟩ : ∃ m4 : MS, m4 = { m3 with fr := updN m3.fr t { m3.fr t with gas := (m1.fr t).gas - g1 + (g1) } } := ⟨_, rfl⟩
    have hf4 : m4.fr t = { m3.fr t with gas := (m1.fr t).gas - g1 + (g1) } := by rw [hm4e]; exact updN_same ..
    have hsp4 : (m4.fr t).sp = (m1.fr t).sp := by rw [hf4]; exact hsp3
    have hpc4 : (m4.fr t).pc = (m1.fr t).pc := by rw [hf4]; exact hpc3
    have hfx4 : fixM m3 m4 := by rw [hm4e]; exact ⟨rfl, rfl, rfl, rfl, rfl, rfl, rfl, rfl, rfl, rfl, rfl⟩
    have hfr4 : frM m4 sn mems t = { frM m3 sn mems t with gas := (m1.fr t).gas - g1 + (g1) } := by rw [hm4e]; exact frM_gol (g := (m1.fr t).gas - g1 + (g1)) (a := (m3.fr t).oo) (b := (m3.fr t).ol)
    have hfs4 : frsM m4 t sn mems = frsM m3 t sn mems := by rw [hm4e]; exact frsM_fset
    have hre4 : m4.ret = m1.ret := by rw [hm4e]; exact hre3
    rw [← hm4e] at A4 X4
    refine CallX.fj e8 (settleS_w (tk := 6) (st := 1) (Ext.refl _) X4.M.A.V.dj e7 X4.M (by omega) (by omega) (by omega) ⟨Int.le_refl 0, W_pos⟩ fun hm5 p1 p2 M5 p4 => ?_); conv => whnf
    obtain ⟨X5, e5⟩ := X4.settle (s0 := s0) (l0 := l0) M5 p2 (X4.mm.set X4.mm.top fun i _ => rfl) (fun _ h => h)
    refine RetX.drop (Ext.jl _ _) (hk h0 hm5 hb _ _ sn v2 (Ext.refl _) (.inl ⟨t, _, _, X5, e5.trans ?_⟩) ((hfx3.trans hfx4).trans fixM.settle) hRf)
    rw [callA_fail (a := absM m1 t w sn mems s0 l0) hva (.inl (by rw [frsM_len]; omega)), hfs4, hfr4, hfs3, hfr3, hre4, ea, ea, hvv, ← ead]
    have hg1' : min (A 0 : Int) ((frM m1 sn mems t).gas - (frM m1 sn mems t).gas / 64) = g1 := hg1.symm
    rw [hg1']
    try rw [Int.add_zero g1]
    rfl
  repeat (first | (refine CondX.tt ?_; conv => whnf) | (refine CondX.ff ?_; conv => whnf))
  refine LoadX.fx hbE9 0 rfl (by omega) mR_S ?_; conv => whnf
  repeat (first | (refine CondX.tt ?_; conv => whnf) | (refine CondX.ff ?_; conv => whnf))
  refine LoadX.fnA hbE9 (1803 + t * 65 + 9) rfl (by show _ + 20 ≤ _; omega) ?_
  rw [show (31, y31).snd.size = 20 from rfl, mR_self (m := m3) h7 hs3.1, hs3e]; conv => whnf
  repeat (first | (refine CondX.tt ?_; conv => whnf) | (refine CondX.ff ?_; conv => whnf))
  refine LoadX.all (join_hm d8 L6.wd) rfl ?_; conv => whnf
  repeat (first | (refine CondX.tt ?_; conv => whnf) | (refine CondX.ff ?_; conv => whnf))
  refine balance_ok (a := (m1.fr t).self) hsf.1 hsf.2 A3 hMe9 ?_
  rw [hbalW]; conv => whnf
  repeat (refine Ob.mk (by first | exact (ldV_fn hbE9 2258 rfl (by omega)).trans (congrArg some (mR_top.trans (congrArg _ X3.M.top))) | exact ldV_fn hbE9 0 rfl (by omega) | exact ldV_all (join_hm d8 L6.wd) rfl | exact (ldV_fnA hbE9 (1803 + t * 65 + 9) rfl (by show _ + 20 ≤ _; omega)).trans (congrArg (fun y => some (Value.agg y.toArray)) ((mR_self (m := m3) h7 hs3.1).trans (by rw [hs3e])))) ?_; conv => whnf)
  repeat (first | (refine CondX.tt ?_; conv => whnf) | (refine CondX.ff ?_; conv => whnf))
  refine eLt_ok (Int.le_refl 0) W_pos hV0 hVW ?_; conv => whnf
  repeat (refine Ob.mk (by first | exact (ldV_fn hbE9 2258 rfl (by omega)).trans (congrArg some (mR_top.trans (congrArg _ X3.M.top))) | exact ldV_fn hbE9 0 rfl (by omega) | exact ldV_all (join_hm d8 L6.wd) rfl | exact (ldV_fnA hbE9 (1803 + t * 65 + 9) rfl (by show _ + 20 ≤ _; omega)).trans (congrArg (fun y => some (Value.agg y.toArray)) ((mR_self (m := m3) h7 hs3.1).trans (by rw [hs3e])))) ?_; conv => whnf)
  repeat (first | (refine CondX.tt ?_; conv => whnf) | (refine CondX.ff ?_; conv => whnf))
  have hva0 := hva
  have hSELF : ((m1.fr t).self).length = 20 ∧ isB ((m1.fr t).self) := hsf
  have hCALL : ((m1.fr t).caller).length = 20 ∧ isB ((m1.fr t).caller) := hcl
  have hVAL : (((m1.fr t).val) : Int) = 0 := hval
  have hHAS : hasA v2 ((m1.fr t).self) = true := u2.has _ (P.X.has t (Nat.le_refl _))
  have hfit : (A (2 + 1) ≠ 0 → A 2 + A (2 + 1) ≤ (mems t).length) ∧ (A (2 + 3) ≠ 0 → A (2 + 2) + A (2 + 3) ≤ (mems t).length) := by
    have h1 : max (endI (A 2) (A (2 + 1))) (endI (A (2 + 2)) (A (2 + 3))) ≤ ((mems t).length : Int) := P.fit
    unfold endI at h1
    constructor
    · intro hz
      rw [if_neg (by omega)] at h1
      omega
    · intro hz
      rw [if_neg (show ¬ ((A (2 + 3) : Nat) : Int) = 0 by omega)] at h1
      omega
  have hfew : (mems t).length ≤ 6000000 := by
    have h1 := X3.mm.few
    have h2 : lowN mems (t + 1) = lowN mems t ++ mems t := rfl
    rw [h2, List.length_append, List.length_append] at h1
    omega
  have hMe9 : Ext (join h0 hm3) (join (join (join h0 hm3) hb) hl6) := (Ext.jl _ _).trans (Ext.jl _ hl6)
  refine arg_okM (i := 2) X3.M hMe9 (by decide) ?_
  rw [hA3]; conv => whnf
  refine arg_okM (i := 2 + 1) X3.M hMe9 (by decide) ?_
  rw [hA3]; conv => whnf
  refine CallX.fj d8 (read_own (X3.M.blk (Ext.jl _ _)) X3.mm.top (Ext.jr X3.dj) h7 (q 2) (q (2 + 1)) hfit.1 fun sI h' e1 hsI hwI g4 => ?_)
  obtain ⟨h2, eI, d10, d11, rfl, hsI2⟩ := own_j X3.M.A.V.dj X3.dj e1 hsI hwI
  conv => whnf
  repeat (first | (refine CondX.tt ?_; conv => whnf) | (refine CondX.ff ?_; conv => whnf))
  have X3 := X3.exti eI d10 d11
  have hk := hk.ext eI
  have b3 := eI _ _ b3
  clear e1 hsI hwI hMe9
  refine L6.set (f' := caF 3 0 (m1.fr t).static g1 (m1.fr t).self (m1.fr t).caller (m1.fr t).val nilS [] sI (cutN (mems t) (A 2) (A (2 + 1)))) g4 rfl (by decide) (fU_input sI (cutN (mems t) (A 2) (A (2 + 1)))) fun hl8 L8 d12 => ?_; conv => whnf
  refine LoadX.all (join_l (join_l (join_l b3))) alen ?_; conv => whnf
  refine natvAtM_ok hal ?_; conv => whnf
  refine L8.set (f' := caF 3 (natK ad) (m1.fr t).static g1 (m1.fr t).self (m1.fr t).caller (m1.fr t).val nilS [] sI (cutN (mems t) (A 2) (A (2 + 1)))) d12 rfl (by decide) (fU_native _) fun hl9 L9 d13 => ?_; conv => whnf
  refine LoadX.fx (join_hm d13 L9.fr) 2 rfl (by decide) (x := .int .u8 (natK ad)) rfl ?_; conv => whnf
  refine CondX.eqI (fun hnat => ?_) (fun hnat => ?_) <;> conv => whnf
  · have hMe9 : Ext (join h2 hm3) (join (join h2 hm3) hb) := Ext.jl _ _
    have hbE9 := X3.M.blk (hMe9.trans (Ext.jl _ hl9))
    refine DrawX.go T_ok hM Hval.func198 (tb := dr198) rfl (by kernel_rfl) ?_; conv => whnf
    refine LoadX.fx hbE9 0 rfl (by omega) mR_S ?_; conv => whnf
    refine LoadX.all (join_l (join_l (join_l b3))) alen ?_; conv => whnf
    refine CallX.fj d13 (code_own hal haB X3.M.A hMe9 fun sC h' e5 hs5 hw5 g5 => ?_)
    obtain ⟨h6, e6, d14, d15, rfl, hsC2⟩ := own_j X3.M.A.V.dj X3.dj e5 hs5 hw5
    conv => whnf
    have X3 := X3.exti e6 d14 d15
    have hk := hk.ext e6
    have b3 := e6 _ _ b3
    have hsI2 := hsI2.ext e6
    have hbE9 := X3.M.blk (((Ext.jl _ _).trans (Ext.jl _ hl9)) : Ext (join h6 hm3) (join (join (join h6 hm3) hb) hl9))
    repeat (refine Ob.mk (by first | exact ldV_fn hbE9 0 rfl (by omega) | exact ldV_all (join_l (join_l (join_l b3))) (by rw [alen])) ?_; conv => whnf)
    refine L9.set (f' := caF 3 (natK ad) (m1.fr t).static g1 (m1.fr t).self (m1.fr t).caller (m1.fr t).val sC (w.acct ad).code sI (cutN (mems t) (A 2) (A (2 + 1)))) g5 rfl (by decide) (fU_code sC (w.acct ad).code) fun hl10 L10 d16 => ?_; conv => whnf
    have hcl : (w.acct ad).code.length ≤ 512 := hcodes ad
    have hCC : (if natK ad = 0 then (w.acct ad).code else []) = (w.acct ad).code := if_pos hnat
    refine X3.M.A.sto5 X3.dj d16 (eU_oo h7 _) rfl (by omega) fun hm5 A5 f13 f14 => ?_; conv => whnf
    refine A5.sto5 f13 f14 (eU_ol h7 _) rfl (by omega) fun hm6 A6 f15 f16 => ?_; conv => whnf
    have A6 : VA h6 hm6 eb (mC eb { m3 with fr := updN m3.fr t { m3.fr t with gas := (m3.fr t).gas, oo := 0, ol := 0 } }) (warmW w ad) sn v2 := cast (congrArg (fun y => VA h6 hm6 eb (mC eb y) (warmW w ad) sn v2) (fset_ool (m := m3) (t := t))) A6
    obtain ⟨X6, -⟩ := X3.fset (s0 := s0) (l0 := l0) A6 f15 (X3.M.f.gol (g := (m3.fr t).gas) (a := 0) (b := 0) X3.M.f.gas) rfl rfl (fun _ h => h)
    obtain ⟨m6, hm6e⟩ : ∃ m6 : MS, m6 = { m3 with fr := updN m3.fr t { m3.fr t with gas := (m3.fr t).gas, oo := 0, ol := 0 } } := ⟨_, rfl⟩
    have hf6 : m6.fr t = { m3.fr t with gas := (m3.fr t).gas, oo := 0, ol := 0 } := by rw [hm6e]; exact updN_same ..
    have hfr6 : frM m6 sn mems t = { frM m3 sn mems t with gas := (m3.fr t).gas, oo := 0, ol := 0 } := by rw [hm6e]; exact frM_gol
    have hfs6 : frsM m6 t sn mems = frsM m3 t sn mems := by rw [hm6e]; exact frsM_fset
    have hfx6 : fixM m3 m6 := by rw [hm6e]; exact ⟨rfl, rfl, rfl, rfl, rfl, rfl, rfl, rfl, rfl, rfl, rfl⟩
    have hre6 : m6.ret = m1.ret := by rw [hm6e]; exact hre3
    rw [← hm6e] at A6 X6
    clear A5
    have hgs6 : (m6.fr t).gas = (m1.fr t).gas - g1 := by rw [hf6]; exact hgs3
    have hsp6 : (m6.fr t).sp = (m1.fr t).sp := by rw [hf6]; exact hsp3
    have hpc6 : (m6.fr t).pc = (m1.fr t).pc := by rw [hf6]; exact hpc3
    have hA6 : ∀ i, argM m6 t i = A i := fun i => (argM_ext (hsp6.trans hsp3.symm) (by rw [hm6e]) i).trans (hA3 i)
    have hMe6 : Ext (join h6 hm6) (join (join (join h6 hm6) hb) hl10) := (Ext.jl _ _).trans (Ext.jl _ hl10)
    refine arg_okM (i := 2 + 3) X6.M hMe6 (by decide) ?_
    rw [hA6]; conv => whnf
    refine BoxX.jm f16 fun n9 k1 k2 k3 => ?_; conv => whnf
    refine Ob.mk ⟨rfl, rfl⟩ ?_; conv => whnf
    refine StoreX.top k3 (wc (A (2 + 3))) (setSeg_all rfl) (Nat.le_of_ble_eq_true rfl) fun f17 => ?_; conv => whnf
    have L11 : LBx (hput hl10 n9 (wc (A (2 + 3)), 75)) nf nv _ _ := L10.more k2
    have b9 : hput hl10 n9 (wc (A (2 + 3)), 75) n9 = some (wc (A (2 + 3)), 75) := hput_same ..
    clear k1 k2 k3 hMe6
    generalize hput hl10 n9 (wc (A (2 + 3)), 75) = hl11 at *
    refine LoadX.all (join_hm f17 b9) rfl ?_; conv => whnf
    refine eIsZero_ok (q (2 + 3)) ?_; conv => whnf
    refine CondX.notI (fun hz => ?_) (fun hz => ?_) <;> conv => whnf
    · have hz : A (2 + 3) ≠ 0 := of_decide_eq_false hz
      have hMe6 : Ext (join h6 hm6) (join (join (join h6 hm6) hb) hl11) := (Ext.jl _ _).trans (Ext.jl _ hl11)
      refine arg_okM (i := 2 + 2) X6.M hMe6 (by decide) ?_
      rw [hA6]; conv => whnf
      refine small_okM (q (2 + 2)) (by have := hfit.2 hz; omega) ?_; conv => whnf
      refine X6.M.A.sto5 f15 f17 (eU_oo h7 _) rfl (by omega) fun hm7 A7 f18 f19 => ?_; conv => whnf
      refine LoadX.all (join_hm f19 b9) rfl ?_; conv => whnf
      refine small_okM (q (2 + 3)) (by have := hfit.2 hz; omega) ?_; conv => whnf
      refine A7.sto5 f18 f19 (eU_ol h7 _) rfl (by omega) fun hm8 A8 f20 f21 => ?_; conv => whnf
      have A8 : VA h6 hm8 eb (mC eb { m6 with fr := updN m6.fr t { m6.fr t with gas := (m6.fr t).gas, oo := A (2 + 2), ol := A (2 + 3) } }) (warmW w ad) sn v2 := cast (congrArg (fun y => VA h6 hm8 eb (mC eb y) (warmW w ad) sn v2) (fset_ools (m := m6) (t := t))) A8
      obtain ⟨X8, -⟩ := X6.fset (s0 := s0) (l0 := l0) A8 f20 (X6.M.f.gol (g := (m6.fr t).gas) (a := A (2 + 2)) (b := A (2 + 3)) X6.M.f.gas) rfl rfl (fun _ h => h)
      obtain ⟨m8, hm8e⟩ : ∃ m8 : MS, m8 = { m6 with fr := updN m6.fr t { m6.fr t with gas := (m6.fr t).gas, oo := A (2 + 2), ol := A (2 + 3) } } := ⟨_, rfl⟩
      have hf8 : m8.fr t = { m6.fr t with gas := (m6.fr t).gas, oo := A (2 + 2), ol := A (2 + 3) } := by rw [hm8e]; exact updN_same ..
      have hfr8 : frM m8 sn mems t = { frM m6 sn mems t with gas := (m6.fr t).gas, oo := A (2 + 2), ol := A (2 + 3) } := by rw [hm8e]; exact frM_gol
      have hfs8 : frsM m8 t sn mems = frsM m6 t sn mems := by rw [hm8e]; exact frsM_fset
      have hfx8 : fixM m3 m8 := hfx6.trans (by rw [hm8e]; exact ⟨rfl, rfl, rfl, rfl, rfl, rfl, rfl, rfl, rfl, rfl, rfl⟩)
      have hre8 : m8.ret = m1.ret := by rw [hm8e]; exact hre6
      rw [← hm8e] at A8 X8
      clear A7
      have hsp8 : (m8.fr t).sp = (m1.fr t).sp := by rw [hf8]; exact hsp6
      have hpc8 : (m8.fr t).pc = (m1.fr t).pc := by rw [hf8]; exact hpc6
      have hoo : (if (A (2 + 3) : Int) = 0 then (0 : Int) else A (2 + 2)) = A (2 + 2) := if_neg (by omega)
      refine CallX.fj f21 (settleN_w (x := 0) (tk := 6) (st := 0) (Ext.refl _) X8.M.A.V.dj f20 X8.M (by omega) (by omega) fun hmE q1 q2 ME q4 => ?_); conv => whnf
      obtain ⟨XE, eE⟩ := X8.settle (s0 := s0) (l0 := l0) ME q2 (X8.mm.set X8.mm.top fun i _ => rfl) (fun _ h => h)
      rw [updN_id] at XE eE
      have hf7 : (settleM m8 t 6 none 0).fr t = { m8.fr t with sp := (m8.fr t).sp - 6, pc := (m8.fr t).pc + 0 } := updN_same ..
      refine LoadX.all (c := fB (caF 3 (natK ad) (m1.fr t).static g1 (m1.fr t).self (m1.fr t).caller (m1.fr t).val sC ((w.acct ad).code) sI (cutN (mems t) (A 2) (A (2 + 1))))) (join_hm q4 L11.fr) rfl ?_; conv => whnf
      refine CallX.fj q4 (ent_ok (S := S' - 100) (S' := S') (s0 := s0) (l0 := l0) (f := caF 3 (natK ad) (m1.fr t).static g1 (m1.fr t).self (m1.fr t).caller (m1.fr t).val sC ((w.acct ad).code) sI (cutN (mems t) (A 2) (A (2 + 1)))) XE (by omega) ⟨by rw [hf7]; show (m8.fr t).sp - 6 < 64; omega, by rw [hf7]; show (m8.fr t).pc + 0 < 1000; omega, (by rw [hf7, hf8]; exact ⟨Int.natCast_nonneg _, by have := hfit.2 hz; show ((A (2 + 2) : Nat) : Int) < 4294967296; omega⟩), (by rw [hf7, hf8]; exact ⟨Int.natCast_nonneg _, by have := hfit.2 hz; show ((A (2 + 3) : Nat) : Int) < 4294967296; omega⟩), (fun _ => by rw [hf7, hf8]; have := hfit.2 hz; show ((A (2 + 2) : Nat) : Int) + ((A (2 + 3) : Nat) : Int) ≤ _; omega)⟩ hsC2 hsI2 hcl hSELF hCALL hVAL (by show 0 ≤ g1 ∧ g1 < _; omega) rfl rfl hHAS hR3 ⟨by have := P.hS.1; omega, P.hS.2⟩ (by omega) ?_)
      intro hi1 hm9 hb9 m9 w9 sn9 v9 p1 p2 p3 p4 p5
      conv => whnf
      refine RetX.drop (Ext.jl _ _) (hk hi1 hm9 hb9 m9 w9 sn9 v9 p1 ?_ (((hfx3.trans hfx8).trans fixM.settle).trans p3) p4)
      rw [callA_go (a := absM m1 t w sn mems s0 l0) hva0 (by rw [frsM_len]; show ¬ (6 ≤ t ∨ (w.acct (m1.fr t).self).bal < 0); rw [hbal]; omega)]
      rw [eE, hfs8, hfr8, hfs6, hfr6, hfs3, hfr3, hre8] at p2
      have hg1' : min (A 0 : Int) ((frM m1 sn mems t).gas - (frM m1 sn mems t).gas / 64) = g1 := hg1.symm
      have hoo' : (if (A (callT 244 - 4 + 3) : Int) = 0 then (0 : Int) else A (callT 244 - 4 + 2)) = (A (2 + 2)) := hoo
      simp only [ea, Int.toNat_natCast, hg1', Int.add_zero]
      rw [← ead]
      rw [hoo']
      have hol : ((A (callT 244 - 4 + 3) : Nat) : Int) = (A (2 + 3)) := by first | rfl | (show ((A (2 + 3) : Nat) : Int) = 0; omega)
      rw [hol]
      try rw [hVALr] at p2
      rw [show ((absM m1 t w sn mems s0 l0).w.acct ad).code = (w.acct ad).code from rfl, hCC]
      simp only [hgs3, hgs6, settleF, Option.toList_none, List.append_nil, Int.natCast_zero, Int.add_zero] at p2
      exact p2
    · have hz : A (2 + 3) = 0 := of_decide_eq_true hz
      have hoo : (if (A (2 + 3) : Int) = 0 then (0 : Int) else A (2 + 2)) = 0 := if_pos (by omega)
      refine CallX.fj f17 (settleN_w (x := 0) (tk := 6) (st := 0) (Ext.refl _) X6.M.A.V.dj f15 X6.M (by omega) (by omega) fun hmE q1 q2 ME q4 => ?_); conv => whnf
      obtain ⟨XE, eE⟩ := X6.settle (s0 := s0) (l0 := l0) ME q2 (X6.mm.set X6.mm.top fun i _ => rfl) (fun _ h => h)
      rw [updN_id] at XE eE
      have hf7 : (settleM m6 t 6 none 0).fr t = { m6.fr t with sp := (m6.fr t).sp - 6, pc := (m6.fr t).pc + 0 } := updN_same ..
      refine LoadX.all (c := fB (caF 3 (natK ad) (m1.fr t).static g1 (m1.fr t).self (m1.fr t).caller (m1.fr t).val sC ((w.acct ad).code) sI (cutN (mems t) (A 2) (A (2 + 1))))) (join_hm q4 L11.fr) rfl ?_; conv => whnf
      refine CallX.fj q4 (ent_ok (S := S' - 100) (S' := S') (s0 := s0) (l0 := l0) (f := caF 3 (natK ad) (m1.fr t).static g1 (m1.fr t).self (m1.fr t).caller (m1.fr t).val sC ((w.acct ad).code) sI (cutN (mems t) (A 2) (A (2 + 1)))) XE (by omega) ⟨by rw [hf7]; show (m6.fr t).sp - 6 < 64; omega, by rw [hf7]; show (m6.fr t).pc + 0 < 1000; omega, (by rw [hf7, hf6]; show (0 : Int) ≤ 0 ∧ (0 : Int) < 4294967296; omega), (by rw [hf7, hf6]; show (0 : Int) ≤ 0 ∧ (0 : Int) < 4294967296; omega), (fun hh => absurd (by rw [hf7, hf6]) hh)⟩ hsC2 hsI2 hcl hSELF hCALL hVAL (by show 0 ≤ g1 ∧ g1 < _; omega) rfl rfl hHAS hR3 ⟨by have := P.hS.1; omega, P.hS.2⟩ (by omega) ?_)
      intro hi1 hm9 hb9 m9 w9 sn9 v9 p1 p2 p3 p4 p5
      conv => whnf
      refine RetX.drop (Ext.jl _ _) (hk hi1 hm9 hb9 m9 w9 sn9 v9 p1 ?_ (((hfx3.trans hfx6).trans fixM.settle).trans p3) p4)
      rw [callA_go (a := absM m1 t w sn mems s0 l0) hva0 (by rw [frsM_len]; show ¬ (6 ≤ t ∨ (w.acct (m1.fr t).self).bal < 0); rw [hbal]; omega)]
      rw [eE, hfs6, hfr6, hfs3, hfr3, hre6] at p2
      have hg1' : min (A 0 : Int) ((frM m1 sn mems t).gas - (frM m1 sn mems t).gas / 64) = g1 := hg1.symm
      have hoo' : (if (A (callT 244 - 4 + 3) : Int) = 0 then (0 : Int) else A (callT 244 - 4 + 2)) = 0 := hoo
      simp only [ea, Int.toNat_natCast, hg1', Int.add_zero]
      rw [← ead]
      rw [hoo']
      have hol : ((A (callT 244 - 4 + 3) : Nat) : Int) = 0 := by first | rfl | (show ((A (2 + 3) : Nat) : Int) = 0; omega)
      rw [hol]
      try rw [hVALr] at p2
      rw [show ((absM m1 t w sn mems s0 l0).w.acct ad).code = (w.acct ad).code from rfl, hCC]
      simp only [hgs3, hgs6, settleF, Option.toList_none, List.append_nil, Int.natCast_zero, Int.add_zero] at p2
      exact p2
  · have hCC : (if natK ad = 0 then (w.acct ad).code else []) = [] := if_neg hnat
    have hsC2 : BytS h2 nilS [] := Byt_nil _
    have hcl : ([] : List Int).length ≤ 512 := Nat.zero_le _
    refine X3.M.A.sto5 X3.dj d13 (eU_oo h7 _) rfl (by omega) fun hm5 A5 f13 f14 => ?_; conv => whnf
    refine A5.sto5 f13 f14 (eU_ol h7 _) rfl (by omega) fun hm6 A6 f15 f16 => ?_; conv => whnf
    have A6 : VA h2 hm6 eb (mC eb { m3 with fr := updN m3.fr t { m3.fr t with gas := (m3.fr t).gas, oo := 0, ol := 0 } }) (warmW w ad) sn v2 := cast (congrArg (fun y => VA h2 hm6 eb (mC eb y) (warmW w ad) sn v2) (fset_ool (m := m3) (t := t))) A6
    obtain ⟨X6, -⟩ := X3.fset (s0 := s0) (l0 := l0) A6 f15 (X3.M.f.gol (g := (m3.fr t).gas) (a := 0) (b := 0) X3.M.f.gas) rfl rfl (fun _ h => h)
    obtain ⟨m6, hm6e⟩ : ∃ m6 : MS, m6 = { m3 with fr := updN m3.fr t { m3.fr t with gas := (m3.fr t).gas, oo := 0, ol := 0 } } := ⟨_, rfl⟩
    have hf6 : m6.fr t = { m3.fr t with gas := (m3.fr t).gas, oo := 0, ol := 0 } := by rw [hm6e]; exact updN_same ..
    have hfr6 : frM m6 sn mems t = { frM m3 sn mems t with gas := (m3.fr t).gas, oo := 0, ol := 0 } := by rw [hm6e]; exact frM_gol
    have hfs6 : frsM m6 t sn mems = frsM m3 t sn mems := by rw [hm6e]; exact frsM_fset
    have hfx6 : fixM m3 m6 := by rw [hm6e]; exact ⟨rfl, rfl, rfl, rfl, rfl, rfl, rfl, rfl, rfl, rfl, rfl⟩
    have hre6 : m6.ret = m1.ret := by rw [hm6e]; exact hre3
    rw [← hm6e] at A6 X6
    clear A5
    have hgs6 : (m6.fr t).gas = (m1.fr t).gas - g1 := by rw [hf6]; exact hgs3
    have hsp6 : (m6.fr t).sp = (m1.fr t).sp := by rw [hf6]; exact hsp3
    have hpc6 : (m6.fr t).pc = (m1.fr t).pc := by rw [hf6]; exact hpc3
    have hA6 : ∀ i, argM m6 t i = A i := fun i => (argM_ext (hsp6.trans hsp3.symm) (by rw [hm6e]) i).trans (hA3 i)
    have hMe6 : Ext (join h2 hm6) (join (join (join h2 hm6) hb) hl9) := (Ext.jl _ _).trans (Ext.jl _ hl9)
    refine arg_okM (i := 2 + 3) X6.M hMe6 (by decide) ?_
    rw [hA6]; conv => whnf
    refine BoxX.jm f16 fun n9 k1 k2 k3 => ?_; conv => whnf
    refine Ob.mk ⟨rfl, rfl⟩ ?_; conv => whnf
    refine StoreX.top k3 (wc (A (2 + 3))) (setSeg_all rfl) (Nat.le_of_ble_eq_true rfl) fun f17 => ?_; conv => whnf
    have L11 : LBx (hput hl9 n9 (wc (A (2 + 3)), 75)) nf nv _ _ := L9.more k2
    have b9 : hput hl9 n9 (wc (A (2 + 3)), 75) n9 = some (wc (A (2 + 3)), 75) := hput_same ..
    clear k1 k2 k3 hMe6
    generalize hput hl9 n9 (wc (A (2 + 3)), 75) = hl11 at *
    refine LoadX.all (join_hm f17 b9) rfl ?_; conv => whnf
    refine eIsZero_ok (q (2 + 3)) ?_; conv => whnf
    refine CondX.notI (fun hz => ?_) (fun hz => ?_) <;> conv => whnf
    · have hz : A (2 + 3) ≠ 0 := of_decide_eq_false hz
      have hMe6 : Ext (join h2 hm6) (join (join (join h2 hm6) hb) hl11) := (Ext.jl _ _).trans (Ext.jl _ hl11)
      refine arg_okM (i := 2 + 2) X6.M hMe6 (by decide) ?_
      rw [hA6]; conv => whnf
      refine small_okM (q (2 + 2)) (by have := hfit.2 hz; omega) ?_; conv => whnf
      refine X6.M.A.sto5 f15 f17 (eU_oo h7 _) rfl (by omega) fun hm7 A7 f18 f19 => ?_; conv => whnf
      refine LoadX.all (join_hm f19 b9) rfl ?_; conv => whnf
      refine small_okM (q (2 + 3)) (by have := hfit.2 hz; omega) ?_; conv => whnf
      refine A7.sto5 f18 f19 (eU_ol h7 _) rfl (by omega) fun hm8 A8 f20 f21 => ?_; conv => whnf
      have A8 : VA h2 hm8 eb (mC eb { m6 with fr := updN m6.fr t { m6.fr t with gas := (m6.fr t).gas, oo := A (2 + 2), ol := A (2 + 3) } }) (warmW w ad) sn v2 := cast (congrArg (fun y => VA h2 hm8 eb (mC eb y) (warmW w ad) sn v2) (fset_ools (m := m6) (t := t))) A8
      obtain ⟨X8, -⟩ := X6.fset (s0 := s0) (l0 := l0) A8 f20 (X6.M.f.gol (g := (m6.fr t).gas) (a := A (2 + 2)) (b := A (2 + 3)) X6.M.f.gas) rfl rfl (fun _ h => h)
      obtain ⟨m8, hm8e⟩ : ∃ m8 : MS, m8 = { m6 with fr := updN m6.fr t { m6.fr t with gas := (m6.fr t).gas, oo := A (2 + 2), ol := A (2 + 3) } } := ⟨_, rfl⟩
      have hf8 : m8.fr t = { m6.fr t with gas := (m6.fr t).gas, oo := A (2 + 2), ol := A (2 + 3) } := by rw [hm8e]; exact updN_same ..
      have hfr8 : frM m8 sn mems t = { frM m6 sn mems t with gas := (m6.fr t).gas, oo := A (2 + 2), ol := A (2 + 3) } := by rw [hm8e]; exact frM_gol
      have hfs8 : frsM m8 t sn mems = frsM m6 t sn mems := by rw [hm8e]; exact frsM_fset
      have hfx8 : fixM m3 m8 := hfx6.trans (by rw [hm8e]; exact ⟨rfl, rfl, rfl, rfl, rfl, rfl, rfl, rfl, rfl, rfl, rfl⟩)
      have hre8 : m8.ret = m1.ret := by rw [hm8e]; exact hre6
      rw [← hm8e] at A8 X8
      clear A7
      have hsp8 : (m8.fr t).sp = (m1.fr t).sp := by rw [hf8]; exact hsp6
      have hpc8 : (m8.fr t).pc = (m1.fr t).pc := by rw [hf8]; exact hpc6
      have hoo : (if (A (2 + 3) : Int) = 0 then (0 : Int) else A (2 + 2)) = A (2 + 2) := if_neg (by omega)
      refine CallX.fj f21 (settleN_w (x := 0) (tk := 6) (st := 0) (Ext.refl _) X8.M.A.V.dj f20 X8.M (by omega) (by omega) fun hmE q1 q2 ME q4 => ?_); conv => whnf
      obtain ⟨XE, eE⟩ := X8.settle (s0 := s0) (l0 := l0) ME q2 (X8.mm.set X8.mm.top fun i _ => rfl) (fun _ h => h)
      rw [updN_id] at XE eE
      have hf7 : (settleM m8 t 6 none 0).fr t = { m8.fr t with sp := (m8.fr t).sp - 6, pc := (m8.fr t).pc + 0 } := updN_same ..
      refine LoadX.all (c := fB (caF 3 (natK ad) (m1.fr t).static g1 (m1.fr t).self (m1.fr t).caller (m1.fr t).val nilS ([]) sI (cutN (mems t) (A 2) (A (2 + 1))))) (join_hm q4 L11.fr) rfl ?_; conv => whnf
      refine CallX.fj q4 (ent_ok (S := S' - 100) (S' := S') (s0 := s0) (l0 := l0) (f := caF 3 (natK ad) (m1.fr t).static g1 (m1.fr t).self (m1.fr t).caller (m1.fr t).val nilS ([]) sI (cutN (mems t) (A 2) (A (2 + 1)))) XE (by omega) ⟨by rw [hf7]; show (m8.fr t).sp - 6 < 64; omega, by rw [hf7]; show (m8.fr t).pc + 0 < 1000; omega, (by rw [hf7, hf8]; exact ⟨Int.natCast_nonneg _, by have := hfit.2 hz; show ((A (2 + 2) : Nat) : Int) < 4294967296; omega⟩), (by rw [hf7, hf8]; exact ⟨Int.natCast_nonneg _, by have := hfit.2 hz; show ((A (2 + 3) : Nat) : Int) < 4294967296; omega⟩), (fun _ => by rw [hf7, hf8]; have := hfit.2 hz; show ((A (2 + 2) : Nat) : Int) + ((A (2 + 3) : Nat) : Int) ≤ _; omega)⟩ hsC2 hsI2 hcl hSELF hCALL hVAL (by show 0 ≤ g1 ∧ g1 < _; omega) rfl rfl hHAS hR3 ⟨by have := P.hS.1; omega, P.hS.2⟩ (by omega) ?_)
      intro hi1 hm9 hb9 m9 w9 sn9 v9 p1 p2 p3 p4 p5
      conv => whnf
      refine RetX.drop (Ext.jl _ _) (hk hi1 hm9 hb9 m9 w9 sn9 v9 p1 ?_ (((hfx3.trans hfx8).trans fixM.settle).trans p3) p4)
      rw [callA_go (a := absM m1 t w sn mems s0 l0) hva0 (by rw [frsM_len]; show ¬ (6 ≤ t ∨ (w.acct (m1.fr t).self).bal < 0); rw [hbal]; omega)]
      rw [eE, hfs8, hfr8, hfs6, hfr6, hfs3, hfr3, hre8] at p2
      have hg1' : min (A 0 : Int) ((frM m1 sn mems t).gas - (frM m1 sn mems t).gas / 64) = g1 := hg1.symm
      have hoo' : (if (A (callT 244 - 4 + 3) : Int) = 0 then (0 : Int) else A (callT 244 - 4 + 2)) = (A (2 + 2)) := hoo
      simp only [ea, Int.toNat_natCast, hg1', Int.add_zero]
      rw [← ead]
      rw [hoo']
      have hol : ((A (callT 244 - 4 + 3) : Nat) : Int) = (A (2 + 3)) := by first | rfl | (show ((A (2 + 3) : Nat) : Int) = 0; omega)
      rw [hol]
      try rw [hVALr] at p2
      rw [show ((absM m1 t w sn mems s0 l0).w.acct ad).code = (w.acct ad).code from rfl, hCC]
      simp only [hgs3, hgs6, settleF, Option.toList_none, List.append_nil, Int.natCast_zero, Int.add_zero] at p2
      exact p2
    · have hz : A (2 + 3) = 0 := of_decide_eq_true hz
      have hoo : (if (A (2 + 3) : Int) = 0 then (0 : Int) else A (2 + 2)) = 0 := if_pos (by omega)
      refine CallX.fj f17 (settleN_w (x := 0) (tk := 6) (st := 0) (Ext.refl _) X6.M.A.V.dj f15 X6.M (by omega) (by omega) fun hmE q1 q2 ME q4 => ?_); conv => whnf
      obtain ⟨XE, eE⟩ := X6.settle (s0 := s0) (l0 := l0) ME q2 (X6.mm.set X6.mm.top fun i _ => rfl) (fun _ h => h)
      rw [updN_id] at XE eE
      have hf7 : (settleM m6 t 6 none 0).fr t = { m6.fr t with sp := (m6.fr t).sp - 6, pc := (m6.fr t).pc + 0 } := updN_same ..
      refine LoadX.all (c := fB (caF 3 (natK ad) (m1.fr t).static g1 (m1.fr t).self (m1.fr t).caller (m1.fr t).val nilS ([]) sI (cutN (mems t) (A 2) (A (2 + 1))))) (join_hm q4 L11.fr) rfl ?_; conv => whnf
      refine CallX.fj q4 (ent_ok (S := S' - 100) (S' := S') (s0 := s0) (l0 := l0) (f := caF 3 (natK ad) (m1.fr t).static g1 (m1.fr t).self (m1.fr t).caller (m1.fr t).val nilS ([]) sI (cutN (mems t) (A 2) (A (2 + 1)))) XE (by omega) ⟨by rw [hf7]; show (m6.fr t).sp - 6 < 64; omega, by rw [hf7]; show (m6.fr t).pc + 0 < 1000; omega, (by rw [hf7, hf6]; show (0 : Int) ≤ 0 ∧ (0 : Int) < 4294967296; omega), (by rw [hf7, hf6]; show (0 : Int) ≤ 0 ∧ (0 : Int) < 4294967296; omega), (fun hh => absurd (by rw [hf7, hf6]) hh)⟩ hsC2 hsI2 hcl hSELF hCALL hVAL (by show 0 ≤ g1 ∧ g1 < _; omega) rfl rfl hHAS hR3 ⟨by have := P.hS.1; omega, P.hS.2⟩ (by omega) ?_)
      intro hi1 hm9 hb9 m9 w9 sn9 v9 p1 p2 p3 p4 p5
      conv => whnf
      refine RetX.drop (Ext.jl _ _) (hk hi1 hm9 hb9 m9 w9 sn9 v9 p1 ?_ (((hfx3.trans hfx6).trans fixM.settle).trans p3) p4)
      rw [callA_go (a := absM m1 t w sn mems s0 l0) hva0 (by rw [frsM_len]; show ¬ (6 ≤ t ∨ (w.acct (m1.fr t).self).bal < 0); rw [hbal]; omega)]
      rw [eE, hfs6, hfr6, hfs3, hfr3, hre6] at p2
      have hg1' : min (A 0 : Int) ((frM m1 sn mems t).gas - (frM m1 sn mems t).gas / 64) = g1 := hg1.symm
      have hoo' : (if (A (callT 244 - 4 + 3) : Int) = 0 then (0 : Int) else A (callT 244 - 4 + 2)) = 0 := hoo
      simp only [ea, Int.toNat_natCast, hg1', Int.add_zero]
      rw [← ead]
      rw [hoo']
      have hol : ((A (callT 244 - 4 + 3) : Nat) : Int) = 0 := by first | rfl | (show ((A (2 + 3) : Nat) : Int) = 0; omega)
      rw [hol]
      try rw [hVALr] at p2
      rw [show ((absM m1 t w sn mems s0 l0).w.acct ad).code = (w.acct ad).code from rfl, hCC]
      simp only [hgs3, hgs6, settleF, Option.toList_none, List.append_nil, Int.natCast_zero, Int.add_zero] at p2
      exact p2
end
end Go.Proofs.YgvalwGreat.X
