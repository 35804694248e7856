import Derived.Test.YgvalwGreatM56
import Derived.Test.YgvalwGreatL1
set_option linter.unusedVariables false
set_option linter.unusedSimpArgs false
namespace Go.Proofs.YgvalwGreat.X
open Go

section
variable {hi hi' hm hm' hb hb' h : Hp} {K : Value → Hp → Prop} {KK : Hp → Prop} {v v' : VS} {eb : Nat} {m m' : MS} {t : Nat} {mems : Nat → List Int} {stale stale' mem' orig : List Int} {w w' : AW} {sn : List AW} {s0 l0 S S' x o : Int}
set_option maxRecDepth 100000 in
set_option maxHeartbeats 4000000 in
theorem cstep_ok (X : EX hi hm hb eb m t w sn v mems stale) (E : EnvM m orig) (hI : AI 0 w (frsM m t sn mems) (frM m sn mems t)) (R : Rs (sM m t sn mems) v sn)
    (hk : EnK hi eb m (spn (stepF (absM m t w sn mems s0 l0) (frsM m t sn mems) (frM m sn mems t) orig)) (stepF (absM m t w sn mems s0 l0) (frsM m t sn mems) (frM m sn mems t) orig) s0 l0 (K (.bool true))) : CallX Hval.prog 15 [.pointer (some ⟨eb, 0, none⟩)] (join (join hi hm) hb) K := by
  refine CallX.of_xf T_ok Hval.func15 rfl (by kernel_rfl) (Nat.le_of_ble_eq_true rfl) ?_; conv => whnf
  refine mstep_ok X E hI R (hk.map fun h' hh => ?_)
  conv => whnf
  exact RetX.same hh
set_option maxRecDepth 100000 in
set_option maxHeartbeats 4000000 in
theorem cstep_no (A : VA hi hm eb (mC eb m) w sn v) (hp : m.phase ≠ 1) (he : Ext (join hi hm) h) (hk : K (.bool false) h) : CallX Hval.prog 15 [.pointer (some ⟨eb, 0, none⟩)] h K := by
  have hbE := A.blk he
  refine CallX.of_xf T_ok Hval.func15 rfl (by kernel_rfl) (Nat.le_of_ble_eq_true rfl) ?_; conv => whnf
  refine CallX.of_xf T_ok Hval.func49 rfl (by kernel_rfl) (Nat.le_of_ble_eq_true rfl) ?_; conv => whnf
  refine LoadX.fx hbE 2404 rfl (by omega) mR_phase ?_; conv => whnf
  refine CondX.neI (fun _ => ?_) (fun hc => absurd hc hp); conv => whnf
  repeat (first | (refine CondX.tt ?_; conv => whnf) | (refine CondX.ff ?_; conv => whnf))
  refine RetX.same ?_
  conv => whnf
  exact RetX.same hk
set_option maxRecDepth 100000 in
set_option maxHeartbeats 4000000 in
theorem running_no (A : VA hi hm eb (mC eb m) w sn v) (hp : m.phase ≠ 1) (he : Ext (join hi hm) h) (hk : K (.pointer none) h) : CallX Hval.prog 104 [.pointer (some ⟨eb, 0, none⟩)] h K := by
  have hbE := A.blk he
  refine CallX.of_xf T_ok Hval.func104 rfl (by kernel_rfl) (Nat.le_of_ble_eq_true rfl) ?_; conv => whnf
  refine LoadX.fx hbE 2404 rfl (by omega) mR_phase ?_; conv => whnf
  refine CondX.neI (fun _ => ?_) (fun hc => absurd hc hp); conv => whnf
  repeat (first | (refine CondX.tt ?_; conv => whnf) | (refine CondX.ff ?_; conv => whnf))
  exact RetX.same hk
theorem mask16 {n : Nat} (hn : n ≤ 65535) : IntKind.i64.wrap ((BitVec.ofInt IntKind.i64.bits (n : Int) &&& BitVec.ofInt IntKind.i64.bits 65535).toNat : Int) = (n : Int) := by
  have e : (BitVec.ofInt IntKind.i64.bits (n : Int) &&& BitVec.ofInt IntKind.i64.bits 65535).toNat = n := by
    show (BitVec.ofInt 64 (n : Int) &&& BitVec.ofInt 64 65535).toNat = n
    rw [BitVec.toNat_and, show (BitVec.ofInt 64 (n : Int)).toNat = n by rw [BitVec.ofInt_natCast, BitVec.toNat_ofNat]; omega, show (BitVec.ofInt 64 65535).toNat = 2 ^ 16 - 1 from rfl, Nat.and_two_pow_sub_one_eq_mod]
    omega
  rw [e]
  exact wrap_i64 (by omega) (by omega)
theorem logs_n (A : VA hi hm eb (mC eb m) w sn v) : v.lS.2.1 = w.nlogs ∧ w.nlogs ≤ 2800 := by
  have h1 := A.V.lT.len
  have h2 : w.nlogs = v.lL.length := by rw [← A.abs]; rfl
  have h3 : v.lL.length ≤ 2800 := A.V.cok.fewL
  omega
def idleV : VW := ⟨true, false, 0, 0, 0, 0, z20, z20, [], [], [], 0⟩
set_option maxRecDepth 100000 in
set_option maxHeartbeats 4000000 in
theorem view_idle (A : VA hi hm eb (mC eb m) w sn v) (hp : m.phase = 0) (he : Ext (join hi hm) h) (hk : ∀ h', Ext h h' → K (.agg (idleV.cells nilS nilS nilS).toArray) h') : CallX Hval.prog 46 [.pointer (some ⟨eb, 0, none⟩)] h K := by
  refine CallX.of_xf T_ok Hval.func46 rfl (by kernel_rfl) (Nat.le_of_ble_eq_true rfl) ?_; conv => whnf
  refine BoxX.ext fun m2 hm2 em2 => ?_; conv => whnf
  refine running_no A (by omega) (he.trans em2) ?_; conv => whnf
  repeat (first | (refine CondX.tt ?_; conv => whnf) | (refine CondX.ff ?_; conv => whnf))
  refine BoxX.ext fun m4 hm4 em4 => ?_; conv => whnf
  refine Ob.mk ⟨rfl, rfl⟩ ?_; conv => whnf
  refine StoreX.whole (hput_same ..) rfl ?_
  rw [hput_hput]; conv => whnf
  have hE := em2.trans (Ext.new (x := (idleV.cells nilS nilS nilS, 51)) hm4.at)
  refine LoadX.fx (A.blk (he.trans hE)) 2404 rfl (by omega) (x := .int .u8 0) (mR_phase.trans (congrArg _ hp)) ?_; conv => whnf
  repeat (first | (refine CondX.tt ?_; conv => whnf) | (refine CondX.ff ?_; conv => whnf))
  refine LoadX.all (c := idleV.cells nilS nilS nilS) (hput_same ..) rfl ?_; conv => whnf
  have h24 : m2 ≠ m4 := fun e => by have := hm4.at; rw [← e, hput_same] at this; cases this
  refine Ob.mk ⟨rfl, rfl⟩ ?_; conv => whnf
  refine StoreX.whole (c := (51, y51).snd.zero) (t := 51) (by rw [hput_ne h24]; exact hput_same ..) rfl ?_; conv => whnf
  refine LoadX.all (c := idleV.cells nilS nilS nilS) (hput_same ..) rfl ?_; conv => whnf
  exact RetX.same (hk _ (Ext.keep hE hm2.at))
def endV (g r : Int) (ret : List Int) (n : Nat) : VW := ⟨true, false, 0, 0, g, r, z20, z20, [], [], ret, (n % 65536 : Nat)⟩
set_option maxRecDepth 100000 in
set_option maxHeartbeats 4000000 in
theorem view_end (A : VA hi hm eb (mC eb m) w sn v) (hp : m.phase = 2) (hret : BytS hi m.retS m.ret) (he : Ext (join hi hm) h) (hk : ∀ h' sR, Ext h h' → BytS h' sR m.ret → K (.agg ((endV (m.fr 0).gas w.ref m.ret w.nlogs).cells nilS nilS sR).toArray) h') : CallX Hval.prog 46 [.pointer (some ⟨eb, 0, none⟩)] h K := by
  have hln := logs_n A
  refine CallX.of_xf T_ok Hval.func46 rfl (by kernel_rfl) (Nat.le_of_ble_eq_true rfl) ?_; conv => whnf
  refine BoxX.ext fun m2 hm2 em2 => ?_; conv => whnf
  refine running_no A (by omega) (he.trans em2) ?_; conv => whnf
  repeat (first | (refine CondX.tt ?_; conv => whnf) | (refine CondX.ff ?_; conv => whnf))
  refine BoxX.ext fun m4 hm4 em4 => ?_; conv => whnf
  refine Ob.mk ⟨rfl, rfl⟩ ?_; conv => whnf
  refine StoreX.whole (hput_same ..) rfl ?_
  rw [hput_hput]; conv => whnf
  have h24 : m2 ≠ m4 := fun e => by have := hm4.at; rw [← e, hput_same] at this; cases this
  have hE : ∀ y, Ext h (hput (hput h m2 ((51, y51).snd.zero, 51)) m4 y) := fun y => em2.trans (Ext.new (x := y) hm4.at)
  have hbE : ∀ y, _ := fun y => A.blk (he.trans (hE y))
  refine LoadX.fx (hbE _) 2404 rfl (by omega) (x := .int .u8 2) (mR_phase.trans (congrArg _ hp)) ?_; conv => whnf
  repeat (first | (refine CondX.tt ?_; conv => whnf) | (refine CondX.ff ?_; conv => whnf))
  refine LoadX.fx (hbE _) 0 rfl (by omega) mR_S ?_; conv => whnf
  repeat (first | (refine CondX.tt ?_; conv => whnf) | (refine CondX.ff ?_; conv => whnf))
  repeat (refine Ob.mk (by first | decide | omega) ?_; conv => whnf)
  refine LoadX.fx (hbE _) (1803 + 0 * 65 + 7) rfl (by omega) (mR_gas (t := 0) (by decide)) ?_; conv => whnf
  refine StoreX.at (c := idleV.cells nilS nilS nilS) (t := 51) (hput_same ..) (Nat.le_of_ble_eq_true rfl) ?_
  rw [hput_hput]; conv => whnf
  refine LoadX.fx (hbE _) 0 rfl (by omega) mR_S ?_; conv => whnf
  refine refund_ok A (he.trans (hE _)) ?_; conv => whnf
  refine StoreX.at (t := 51) (hput_same ..) (Nat.le_of_ble_eq_true rfl) ?_
  rw [hput_hput]; conv => whnf
  refine LoadX.fx (hbE _) 0 rfl (by omega) mR_S ?_; conv => whnf
  refine LoadX.fx (hbE _) 27016 rfl (by omega) (eC_l _ _) ?_; conv => whnf
  rw [hln.1, mask16 (by omega), show IntKind.u16.wrap (w.nlogs : Int) = ((w.nlogs % 65536 : Nat) : Int) by rw [wrap_u16']; omega]
  refine StoreX.at (t := 51) (hput_same ..) (Nat.le_of_ble_eq_true rfl) ?_
  rw [hput_hput]; conv => whnf
  refine LoadX.fx (hbE _) 2259 rfl (by omega) mR_ret ?_; conv => whnf
  refine copiedM_own (hret.ext (((Ext.jl _ _).trans he).trans (hE _))) fun sR h' e1 hsR hwR => ?_; conv => whnf
  have b4 := e1 _ _ (hput_same ..)
  have b2 := e1 _ _ (show _ = some ((51, y51).snd.zero, 51) by rw [hput_ne h24]; exact hput_same ..)
  have hE1 := (hE _).trans e1
  refine StoreX.at (t := 51) b4 (Nat.le_of_ble_eq_true rfl) ?_; conv => whnf
  refine LoadX.all (c := (endV (m.fr 0).gas w.ref m.ret w.nlogs).cells nilS nilS sR) (hput_same ..) rfl ?_; conv => whnf
  refine Ob.mk ⟨rfl, rfl⟩ ?_; conv => whnf
  refine StoreX.whole (c := (51, y51).snd.zero) (t := 51) (by rw [hput_ne h24]; exact b2) rfl ?_; conv => whnf
  refine LoadX.all (c := (endV (m.fr 0).gas w.ref m.ret w.nlogs).cells nilS nilS sR) (hput_same ..) rfl ?_; conv => whnf
  have n4 : h m4 = none := noneE em2 hm4.at
  have q4 : ∀ a, sR.1 = some a → a.block ≠ m4 := fun a ha e => by have := hwR a ha; rw [e, hput_same] at this; cases this
  have q2 : ∀ a, sR.1 = some a → a.block ≠ m2 := fun a ha e => by have := hwR a ha; rw [e, hput_ne h24, hput_same] at this; cases this
  exact RetX.same (hk _ sR (Ext.keep (Ext.keep hE1 n4) hm2.at) (hsR.move fun a ha => by rw [hput_ne (q2 a ha), hput_ne (q4 a ha)]))
end
end Go.Proofs.YgvalwGreat.X
