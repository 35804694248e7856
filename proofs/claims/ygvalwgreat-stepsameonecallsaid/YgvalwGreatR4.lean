import Derived.Test.YgvalwGreatR3
set_option linter.unusedVariables false
set_option linter.unusedSimpArgs false
namespace Go.Proofs.YgvalwGreat.X
open Go

theorem vd_long {d : List Int} {g : Int} (h : 1024 < d.length) : vd d g ≠ 0 := by unfold vd; rw [if_pos (.inr h)]; decide
section
variable {hi hi0 hm hb hl h : Hp} {K : Value → Hp → Prop} {KK : Hp → Prop} {v : VS} {eb : Nat} {w w' : AW} {sn : List AW} {m : MS} {sD : Sl} {g : Int} {d : List Int} {c : Nat} {tc : TypeId} {s : YS}
set_option maxRecDepth 100000 in
set_option maxHeartbeats 4000000 in
theorem everdict_long (A : VA hi hm eb (mC eb m) w sn v) (hp : m.phase = 0) (hap : m.applied = 0) (E : ∀ k, k < 120 → stEnv[k]? = some (m.env k)) (hn : (w.acct sndA).nonce = 0) (hc : (w.acct sndA).code = []) (hbal : 0 ≤ (w.acct sndA).bal ∧ (w.acct sndA).bal < W) (he : Ext (join hi hm) h) (hdl : d.length = sD.2.1) (hlong : 1024 < d.length) (hg : 0 ≤ g ∧ g < 18446744073709551616) (hk : K (.tuple #[.int .u8 (vd d g), .agg (wc 0).toArray]) h) : CallX Hval.prog 66 [.pointer (some ⟨eb, 0, none⟩), .agg (txC sD g).toArray] h K := by
  refine CallX.of_xf T_ok Hval.func66 rfl (by kernel_rfl) (Nat.le_of_ble_eq_true rfl) ?_; conv => whnf
  refine BoxX.ext fun m3 hm3 em3 => ?_; conv => whnf
  refine BoxX.ext fun m5 hm5 em5 => ?_; conv => whnf
  have b3 : hput (hput h m3 ((txC sD g).toArray.toList, 40)) m5 ((75, y75).snd.zero, 75) m3 = some (txC sD g, 40) := em5 _ _ (hput_same ..)
  have b5 : hput (hput h m3 ((txC sD g).toArray.toList, 40)) m5 ((75, y75).snd.zero, 75) m5 = some (wc 0, 75) := hput_same ..
  have eA : Ext h (hput (hput h m3 ((txC sD g).toArray.toList, 40)) m5 ((75, y75).snd.zero, 75)) := em3.trans em5
  generalize hput (hput h m3 ((txC sD g).toArray.toList, 40)) m5 ((75, y75).snd.zero, 75) = H at *
  clear em3 em5 hm3 hm5
  have heH := he.trans eA
  have hbE := A.blk heH
  refine LoadX.fx hbE 2404 rfl (by omega) (x := .int .u8 0) (mR_phase.trans (congrArg _ hp)) ?_; conv => whnf
  repeat (first | (refine CondX.tt ?_; conv => whnf) | (refine CondX.ff ?_; conv => whnf))
  refine LoadX.fx hbE 0 rfl (by omega) mR_S ?_; conv => whnf
  repeat (first | (refine CondX.tt ?_; conv => whnf) | (refine CondX.ff ?_; conv => whnf))
  refine LoadX.fx hbE 2406 rfl (by omega) (x := .int .u8 0) (congrArg _ hap) ?_; conv => whnf
  repeat (first | (refine CondX.tt ?_; conv => whnf) | (refine CondX.ff ?_; conv => whnf))
  refine LoadX.blk b3 (.int .u64 g) rfl ?_; conv => whnf
  refine CondX.decI (fun h1 => ?_) (fun h1 => ?_) <;> conv => whnf
  · repeat (first | (refine CondX.tt ?_; conv => whnf) | (refine CondX.ff ?_; conv => whnf))
    refine DrawX.go T_ok hM Hval.func66 (tb := dr66) rfl (by kernel_rfl) ?_; conv => whnf
    refine LoadX.all b5 rfl ?_; conv => whnf
    refine Ob.mk ⟨rfl, rfl⟩ ?_; conv => whnf
    refine StoreX.id b5 rfl ?_; conv => whnf
    refine LoadX.all b5 rfl ?_; conv => whnf
    refine RetX.drop eA ?_
    rw [show vd d g = 3 by unfold vd; first | (rw [if_pos (by omega)]) | (rw [if_neg (by omega), if_pos (by omega)]) | (rw [if_neg (by omega), if_neg (by omega)])] at hk
    exact hk
  repeat (first | (refine CondX.tt ?_; conv => whnf) | (refine CondX.ff ?_; conv => whnf))
  refine LoadX.blk b3 (sl sD) rfl ?_; conv => whnf
  repeat (first | (refine CondX.tt ?_; conv => whnf) | (refine CondX.ff ?_; conv => whnf))
  refine CondX.dT (by omega) ?_; conv => whnf
  repeat (first | (refine CondX.tt ?_; conv => whnf) | (refine CondX.ff ?_; conv => whnf))
  refine DrawX.go T_ok hM Hval.func66 (tb := dr66) rfl (by kernel_rfl) ?_; conv => whnf
  refine LoadX.all b5 rfl ?_; conv => whnf
  refine Ob.mk ⟨rfl, rfl⟩ ?_; conv => whnf
  refine StoreX.id b5 rfl ?_; conv => whnf
  refine LoadX.all b5 rfl ?_; conv => whnf
  refine RetX.drop eA ?_
  rw [show vd d g = 3 by unfold vd; first | (rw [if_pos (by omega)]) | (rw [if_neg (by omega), if_pos (by omega)]) | (rw [if_neg (by omega), if_neg (by omega)])] at hk
  exact hk
set_option maxRecDepth 100000 in
set_option maxHeartbeats 4000000 in
theorem yverdict_long (hc : h c = some (sCells s, tc)) (hA : Arr h s.w.sA 24 (s.w.acc.map acCells)) (hX : ∀ x ∈ s.w.acc, x.addr.length = 20) (hr : s.w.sA.2.1 < 2 ^ 40) (hx : (getA s.w.acc sndA).ok h) (hn : (getA s.w.acc sndA).nonce = 0) (hco : (getA s.w.acc sndA).code = []) (E : EnvOK hi s) (hp : s.phase = 0) (hap : s.applied = 0) (hdl : d.length = sD.2.1) (hlong : 1024 < d.length) (hg : 0 ≤ g ∧ g < 18446744073709551616)
    (hk : K (.int .u8 (vd d g)) h) : CallX Hval.prog 26 [.pointer (some ⟨c, 0, none⟩), .agg (txC sD g).toArray] h K := by
  have hbg := big_lt
  obtain ⟨x, hxe⟩ : ∃ x, x = getA s.w.acc sndA := ⟨_, rfl⟩
  rw [← hxe] at hx hn hco
  have xlen := acCells_len hx.addr
  have xone := acCells_one x
  refine CallX.of_xf T_ok Hval.func26 rfl (by kernel_rfl) (Nat.le_of_ble_eq_true rfl) ?_; conv => whnf
  refine BoxX.ext fun m3 hm3 em3 => ?_; conv => whnf
  have b3 : hput h m3 ((txC sD g).toArray.toList, 40) m3 = some (txC sD g, 40) := hput_same ..
  generalize hput h m3 ((txC sD g).toArray.toList, 40) = H at *
  refine DrawX.go T_ok hM Hval.func26 (tb := dr26) rfl (by kernel_rfl) ?_; conv => whnf
  refine LoadX.of _ (tx_from b3) ?_; conv => whnf
  refine account_ok (xs := s.w.acc) (a := sndA) (em3 _ _ hc) (show (sCells s)[0]? = some (sl s.w.sA) from rfl) (hA.ext em3) hX rfl hr ?_
  rw [← hxe]; conv => whnf
  repeat (refine Ob.mk (by exact tx_from b3) ?_; conv => whnf)
  refine ⟨fun m5 hn5 => ?_⟩
  conv => whnf
  refine Ob.mk ⟨by rw [List.size_toArray, xlen]; rfl, xone⟩ ?_; conv => whnf
  refine StoreX.whole (hput_same ..) (by rw [List.toList_toArray, xlen]; rfl) ?_
  rw [hput_hput, List.toList_toArray]; conv => whnf
  have b5 : hput H m5 (acCells x, 118) m5 = some (acCells x, 118) := hput_same ..
  have eA := em3.trans (Ext.new (x := (acCells x, 118)) hn5)
  have b3 := Ext.new (x := (acCells x, 118)) hn5 _ _ b3
  generalize hput H m5 (acCells x, 118) = H1 at *
  repeat (refine Ob.mk (by exact tx_from b3) ?_; conv => whnf)
  refine LoadX.blk b3 (.int .u64 g) rfl ?_; conv => whnf
  refine num_ok hg.1 hg.2 fun b6 n6 c6 h2 e2 g6 => ?_; conv => whnf
  have b3 := e2 _ _ b3
  have b5 := e2 _ _ b5
  have eA := eA.trans e2
  refine fees_ok b3 ?_; conv => whnf
  refine BoxX.ext fun m7 hm7 em7 => ?_; conv => whnf
  refine BoxX.ext fun m8 hm8 em8 => ?_; conv => whnf
  have b7 : hput (hput h2 m7 ((33, y33).snd.zero, 33)) m8 ((33, y33).snd.zero, 33) m7 = some (bcells zz32, 33) := em8 _ _ (hput_same ..)
  have b8 : hput (hput h2 m7 ((33, y33).snd.zero, 33)) m8 ((33, y33).snd.zero, 33) m8 = some (bcells zz32, 33) := hput_same ..
  have e3 := em7.trans em8
  generalize hput (hput h2 m7 ((33, y33).snd.zero, 33)) m8 ((33, y33).snd.zero, 33) = h3 at *
  have b3 := e3 _ _ b3
  have b5 := e3 _ _ b5
  have eA := eA.trans e3
  have g6 := g6.ext e3
  refine Ob.mk ⟨rfl, rfl⟩ ?_; conv => whnf
  refine StoreX.id b7 rfl ?_; conv => whnf
  refine Ob.mk ⟨rfl, rfl⟩ ?_; conv => whnf
  refine StoreX.id b8 rfl ?_; conv => whnf
  have y7 : Byt h3 (some ⟨m7, 0, none⟩) 32 32 zz32 := ⟨rd_own_at b7 rfl, isB_zeros _, Nat.le_refl _, (fun h => by cases h), by decide⟩
  have y8 : Byt h3 (some ⟨m8, 0, none⟩) 32 32 zz32 := ⟨rd_own_at b8 rfl, isB_zeros _, Nat.le_refl _, (fun h => by cases h), by decide⟩
  repeat (refine Ob.mk (by first | decide | omega) ?_; conv => whnf)
  refine fromBE_ok y7 fun b9 n9 c9 h4 e4 g9 => ?_; conv => whnf
  rw [bv_zz32] at g9
  have b3 := e4 _ _ b3
  refine DrawX.go T_ok hM Hval.func26 (tb := dr26) rfl (by kernel_rfl) ?_; conv => whnf
  refine mulN (g6.ext e4) g9 (by omega) (by omega) fun b10 n10 c10 h5 e5 g10 => ?_; conv => whnf
  repeat (refine Ob.mk (by first | decide | omega) ?_; conv => whnf)
  have b3 := e5 _ _ b3
  refine fromBE_ok (tx_vbyt b3) fun b11 n11 c11 h6 e6 g11 => ?_; conv => whnf
  rw [bv_zz32] at g11
  refine addN (g10.ext e6) g11 (by rw [Int.mul_zero]; omega) fun b12 n12 c12 h7 e7 g12 => ?_; conv => whnf
  rw [Int.mul_zero, Int.add_zero] at g12
  have e47 := ((e4.trans e5).trans e6).trans e7
  have b3 := e7 _ _ (e6 _ _ b3)
  have b5 := e47 _ _ b5
  have hcc := e47 _ _ (eA _ _ hc)
  have g6 := g6.ext e47
  have g9 := g9.ext ((e5.trans e6).trans e7)
  have y8 := y8.ext e47
  have eA := eA.trans e47
  clear e4 e5 e6 e7 e47 e2 e3 y7 b7 b8 em7 em8 em3 hm7 hm8
  refine LoadX.blk hcc (.int .u8 0) (congrArg (fun y => some (Value.int .u8 y)) hp) ?_; conv => whnf
  repeat (first | (refine CondX.tt ?_; conv => whnf) | (refine CondX.ff ?_; conv => whnf))
  refine LoadX.blk hcc (.int .u8 0) (congrArg (fun y => some (Value.int .u8 y)) hap) ?_; conv => whnf
  repeat (first | (refine CondX.tt ?_; conv => whnf) | (refine CondX.ff ?_; conv => whnf))
  refine num_ok (by omega) (by omega) fun b13 n13 c13 h8 e8 g13 => ?_; conv => whnf
  have b3 := e8 _ _ b3
  have b5 := e8 _ _ b5
  have hcc := e8 _ _ hcc
  have g6 := g6.ext e8
  have g9 := g9.ext e8
  have g12 := g12.ext e8
  have y8 := y8.ext e8
  have eA := eA.trans e8
  refine cmpN g6 g13 ?_; conv => whnf
  rw [cmp_gt]
  refine CondX.decI (fun h1 => ?_) (fun h1 => ?_) <;> conv => whnf
  · repeat (first | (refine CondX.tt ?_; conv => whnf) | (refine CondX.ff ?_; conv => whnf))
    refine RetX.drop eA ?_
    rw [show vd d g = 3 by unfold vd; first | (rw [if_pos (by omega)]) | (rw [if_neg (by omega), if_pos (by omega)]) | (rw [if_neg (by omega), if_neg (by omega)])] at hk
    exact hk
  repeat (first | (refine CondX.tt ?_; conv => whnf) | (refine CondX.ff ?_; conv => whnf))
  refine LoadX.blk b3 (sl sD) rfl ?_; conv => whnf
  repeat (first | (refine CondX.tt ?_; conv => whnf) | (refine CondX.ff ?_; conv => whnf))
  refine CondX.dT (by omega) ?_; conv => whnf
  repeat (first | (refine CondX.tt ?_; conv => whnf) | (refine CondX.ff ?_; conv => whnf))
  refine RetX.drop eA ?_
  rw [show vd d g = 3 by unfold vd; first | (rw [if_pos (by omega)]) | (rw [if_neg (by omega), if_pos (by omega)]) | (rw [if_neg (by omega), if_neg (by omega)])] at hk
  exact hk
set_option maxRecDepth 100000 in
set_option maxHeartbeats 4000000 in
theorem open_long (I : EI hi hm hb eb m w v) (he : Ext (join hi hm) h) (hdl : d.length = sD.2.1) (hlong : 1024 < d.length) (hg : 0 ≤ g ∧ g < 18446744073709551616) (hk : K (.int .u8 (vd d g)) h) : CallX Hval.prog 25 [.pointer (some ⟨eb, 0, none⟩), .agg (txC sD g).toArray] h K := by
  refine CallX.of_xf T_ok Hval.func25 rfl (by kernel_rfl) (Nat.le_of_ble_eq_true rfl) ?_; conv => whnf
  refine BoxX.ext fun m3 hm3 em3 => ?_; conv => whnf
  refine LoadX.all (c := txC sD g) (hput_same ..) rfl ?_; conv => whnf
  refine everdict_long I.A I.phase I.applied I.env I.nonce I.code (I.A.balW' sndA).1 (he.trans em3) hdl hlong hg ?_; conv => whnf
  refine BoxX.ext fun m6 hm6 em6 => ?_; conv => whnf
  refine Ob.mk ⟨rfl, rfl⟩ ?_; conv => whnf
  refine StoreX.id (hput_same ..) rfl ?_; conv => whnf
  refine CondX.neI (fun _ => ?_) (fun hc => absurd hc (vd_long hlong)); conv => whnf
  exact RetX.drop (em3.trans em6) hk
set_option maxRecDepth 100000 in
set_option maxHeartbeats 4000000 in
theorem ebegin_long (I : EI hi hm hb eb m w v) (he : Ext (join hi hm) h) (hdl : d.length = sD.2.1) (hlong : 1024 < d.length) (hg : 0 ≤ g ∧ g < 18446744073709551616) (hk : K (.int .u8 (vd d g)) h) : CallX Hval.prog 10 [.pointer (some ⟨eb, 0, none⟩), .agg (txC sD g).toArray] h K := by
  refine CallX.of_xf T_ok Hval.func10 rfl (by kernel_rfl) (Nat.le_of_ble_eq_true rfl) ?_; conv => whnf
  refine BoxX.ext fun m3 hm3 em3 => ?_; conv => whnf
  refine DrawX.go T_ok hM Hval.func10 (tb := dr10) rfl (by kernel_rfl) ?_; conv => whnf
  refine LoadX.all (c := txC sD g) (hput_same ..) rfl ?_; conv => whnf
  refine open_long I (he.trans em3) hdl hlong hg ?_; conv => whnf
  repeat (refine Ob.mk (by exact ldV_all (hput_same ..) rfl) ?_; conv => whnf)
  exact RetX.drop em3 hk
theorem YI.verL (I : YI hi hm c tc s) (hdl : d.length = sD.2.1) (hlong : 1024 < d.length) (he : Ext (join hi hm) h) (hg : 0 ≤ g ∧ g < 18446744073709551616) (hk : K (.int .u8 (vd d g)) h) : CallX Hval.prog 26 [.pointer (some ⟨c, 0, none⟩), .agg (txC sD g).toArray] h K := by
  have hr := I.sz.room I.S.now (by omega)
  refine yverdict_long (hi := hi) (he _ _ (join_hm I.S.dj I.S.chain)) (I.S.now.acc.arr.ext ((Ext.jl _ _).trans he)) (fun x hx => (I.S.now.acc.each x hx).addr) (by have := hr.acc; omega) ((getA_ok I.S.now.acc.each rfl).ext ((Ext.jl _ _).trans he)) I.nonce I.code I.E I.phase I.applied hdl hlong hg hk
set_option maxRecDepth 100000 in
set_option maxHeartbeats 4000000 in
theorem ybegin_long (I : YI hi hm c tc s) (he : Ext (join hi hm) h) (hdl : d.length = sD.2.1) (hlong : 1024 < d.length) (hg : 0 ≤ g ∧ g < 18446744073709551616) (hk : K (.int .u8 (vd d g)) h) : CallX Hval.prog 11 [.pointer (some ⟨c, 0, none⟩), .agg (txC sD g).toArray] h K := by
  refine CallX.of_xf T_ok Hval.func11 rfl (by kernel_rfl) (Nat.le_of_ble_eq_true rfl) ?_; conv => whnf
  refine BoxX.ext fun m3 hm3 em3 => ?_; conv => whnf
  refine LoadX.all (c := txC sD g) (hput_same ..) rfl ?_; conv => whnf
  refine I.verL hdl hlong (he.trans em3) hg ?_; conv => whnf
  refine CondX.neI (fun _ => ?_) (fun hc => absurd hc (vd_long hlong)); conv => whnf
  exact RetX.drop em3 hk
end
end Go.Proofs.YgvalwGreat.X
