import Derived.Test.YgvalwGreatB3
set_option linter.unusedVariables false
set_option linter.unusedSimpArgs false
namespace Go.Proofs.YgvalwGreat.X
open Go

section
variable {hi hm h : Hp} {K : Value → Hp → Prop} {c : Nat} {tc : TypeId} {s : YS} {sD : Sl} {g : Int} {d : List Int}
set_option maxRecDepth 100000 in
set_option maxHeartbeats 4000000 in
theorem baseFee_g (hc : h c = some (sCells s, tc)) (E : EnvOK hi s) (hk : ∀ b n c' h', Ext h h' → Nt h' b n c' 0 → K (.slice b n c') h') : CallX Hval.prog 87 [.pointer (some ⟨c, 0, none⟩)] h K := by
  refine CallX.of_xf T_ok Hval.func87 rfl (by kernel_rfl) (Nat.le_of_ble_eq_true rfl) ?_; conv => whnf
  repeat (refine Ob.mk (by first | decide | omega) ?_; conv => whnf)
  refine fromBE_ok (env_bytes (n := 32) (k := 87) (l := List.replicate 32 0) hc E rfl rfl (by omega) (isB_zeros _)) fun b n c' h' e hn => ?_; conv => whnf
  exact RetX.same (hk _ _ _ _ e hn)
set_option maxRecDepth 100000 in
set_option maxHeartbeats 4000000 in
theorem yIntr_ok (hD : Byt h sD.1 sD.2.1 sD.2.2 d) (hd : d.length ≤ 1024) (hk : ∀ b n c' h', Ext h h' → Nt h' b n c' (intr d) → K (.slice b n c') h') : CallX Hval.prog 31 [.agg (txC sD g).toArray] h K := by
  have hl := hD.len
  have hbg := big_lt
  have hzd := zrs_le d
  refine CallX.of_xf T_ok Hval.func31 rfl (by kernel_rfl) (Nat.le_of_ble_eq_true rfl) ?_; conv => whnf
  refine BoxX.ext fun m1 hm1 em1 => ?_; conv => whnf
  have b1 : hput h m1 ((txC sD g).toArray.toList, 40) m1 = some (txC sD g, 40) := hput_same ..
  generalize hput h m1 ((txC sD g).toArray.toList, 40) = H at *
  refine num_ok (by omega) (by omega) fun b n c1 h1 e1 g1 => ?_; conv => whnf
  have b1 := e1 _ _ b1
  refine LoadX.blk b1 (sl sD) rfl ?_; conv => whnf
  have hD1 := hD.ext (em1.trans e1)
  have eA := em1.trans e1
  refine LoopX.st T_ok Hval.func31 (σ := Nat) (fun i => [(1, .pointer (some ⟨m1, 0, none⟩)), (3, .slice b n c1), (4, .int .u64 (zrs (d.take i))), (11, sl sD), (12, .int .i64 sD.2.1), (13, .int .i64 i)])
    (fun i h' => i ≤ sD.2.1 ∧ h' = h1) (fun i => sD.2.1 - i) 0 ⟨rfl, rfl, rfl, rfl, rfl, rfl, trivial⟩ ⟨Nat.zero_le _, rfl⟩ ?_
  rintro i ρ h' ⟨hi, rfl⟩ ih
  conv => whnf
  refine CondX.decI (fun hp => ?_) (fun hp => ?_) <;> conv => whnf
  · refine IdxX.rd hD1.rd (by omega) (by omega) fun b2 o2 e2 _ => ?_; conv => whnf
    refine LoadX.byte hD1 e2 i rfl (by omega) rfl ?_; conv => whnf
    have hz := zrs_succ (d := d) (i := i) (by omega)
    have hzl := zrs_le (d.take i)
    rw [List.length_take] at hzl
    refine CondX.eqI (fun heq => ?_) (fun hne => ?_) <;> conv => whnf
    · rw [if_pos heq] at hz
      refine ih (i + 1) _ _ ⟨by omega, rfl⟩ (by omega) ⟨rfl, rfl, congrArg (Value.int .u64) ?_, rfl, rfl, congrArg (Value.int .i64) (wsucc (by omega)), trivial⟩
      rw [wrap_u64', hz]
      omega
    · rw [if_neg hne] at hz
      refine ih (i + 1) _ _ ⟨by omega, rfl⟩ (by omega) ⟨rfl, rfl, congrArg (Value.int .u64) ?_, rfl, rfl, congrArg (Value.int .i64) (wsucc (by omega)), trivial⟩
      rw [hz]; rfl
  · have hp : i = d.length := by omega
    subst hp
    rw [List.take_length]
    refine num_ok (by omega) (by omega) fun b3 n3 c3 h3 e3 g3 => ?_; conv => whnf
    refine num_ok (by omega) (by omega) fun b4 n4 c4 h4 e4 g4 => ?_; conv => whnf
    refine mulN (g3.ext e4) g4 (by omega) (by omega) fun b5 n5 c5 h5 e5 g5 => ?_; conv => whnf
    refine addN ((((g1.ext e3).ext e4).ext e5)) g5 (by omega) fun b6 n6 c6 h6 e6 g6 => ?_; conv => whnf
    have b1 := e6 _ _ (e5 _ _ (e4 _ _ (e3 _ _ b1)))
    have eA := (((eA.trans e3).trans e4).trans e5).trans e6
    refine DrawX.go T_ok hM Hval.func31 (tb := dr31) rfl (by kernel_rfl) ?_; conv => whnf
    refine LoadX.blk b1 (sl sD) rfl ?_; conv => whnf
    refine num_ok (by omega) (by omega) fun b7 n7 c7 h7 e7 g7 => ?_; conv => whnf
    repeat (refine Ob.mk (by exact ldV_blk (e7 _ _ b1) rfl) ?_; conv => whnf)
    rw [show IntKind.u64.wrap (IntKind.u64.wrap (sD.2.1 : Int) - ((zrs d : Nat) : Int)) = ((d.length - zrs d : Nat) : Int) by rw [wrap_u64', wrap_u64']; omega]
    refine num_ok (by omega) (by omega) fun b8 n8 c8 h8 e8 g8 => ?_; conv => whnf
    repeat (refine Ob.mk (by exact ldV_blk (e8 _ _ (e7 _ _ b1)) rfl) ?_; conv => whnf)
    refine mulN (g7.ext e8) g8 (by omega) (by omega) fun b9 n9 c9 h9 e9 g9 => ?_; conv => whnf
    repeat (refine Ob.mk (by exact ldV_blk (e9 _ _ (e8 _ _ (e7 _ _ b1))) rfl) ?_; conv => whnf)
    refine addN (((g6.ext e7).ext e8).ext e9) g9 (by omega) fun b10 n10 c10 h10 e10 g10 => ?_; conv => whnf
    have b1 := e10 _ _ (e9 _ _ (e8 _ _ (e7 _ _ b1)))
    have eA := (((eA.trans e7).trans e8).trans e9).trans e10
    repeat (refine Ob.mk (by exact ldV_blk b1 rfl) ?_; conv => whnf)
    refine LoadX.blk b1 (sl nilS) rfl ?_; conv => whnf
    refine LoopX.st T_ok Hval.func31 (σ := Unit) (fun _ => [(1, .pointer (some ⟨m1, 0, none⟩)), (3, .slice b10 n10 c10), (41, .int .i64 0), (42, .int .i64 0)]) (fun _ h2 => h2 = h10) (fun _ => 0) () ⟨rfl, rfl, rfl, rfl, trivial⟩ rfl ?_
    rintro _ ρ2 h2 rfl ih2
    conv => whnf
    repeat (first | (refine CondX.tt ?_; conv => whnf) | (refine CondX.ff ?_; conv => whnf))
    refine LoadX.blk b1 (.bool false) rfl ?_; conv => whnf
    repeat (first | (refine CondX.tt ?_; conv => whnf) | (refine CondX.ff ?_; conv => whnf))
    refine RetX.same (hk _ _ _ _ eA ?_)
    have e : intr d = 21000 + 4 * ((zrs d : Nat) : Int) + 16 * ((d.length - zrs d : Nat) : Int) := by unfold intr; omega
    rw [e]
    exact g10
set_option maxRecDepth 100000 in
set_option maxHeartbeats 4000000 in
theorem yprice_ok (hc : h c = some (sCells s, tc)) (E : EnvOK hi s) (hk : ∀ b n c' h', Ext h h' → Nt h' b n c' 0 → K (.slice b n c') h') : CallX Hval.prog 32 [.pointer (some ⟨c, 0, none⟩), .agg (txC sD g).toArray] h K := by
  have hbg := big_lt
  refine CallX.of_xf T_ok Hval.func32 rfl (by kernel_rfl) (Nat.le_of_ble_eq_true rfl) ?_; conv => whnf
  refine BoxX.ext fun m3 hm3 em3 => ?_; conv => whnf
  refine fees_ok (hput_same ..) ?_; conv => whnf
  refine BoxX.ext fun m5 hm5 em5 => ?_; conv => whnf
  refine BoxX.ext fun m6 hm6 em6 => ?_; conv => whnf
  have b5 := em6 _ _ (hput_same (h := hput h m3 ((txC sD g).toArray.toList, 40)) (b := m5) (x := ((33, y33).snd.zero, 33)))
  have b6 : hput (hput (hput h m3 ((txC sD g).toArray.toList, 40)) m5 ((33, y33).snd.zero, 33)) m6 ((33, y33).snd.zero, 33) m6 = some (bcells zz32, 33) := hput_same ..
  have b5 : hput (hput (hput h m3 ((txC sD g).toArray.toList, 40)) m5 ((33, y33).snd.zero, 33)) m6 ((33, y33).snd.zero, 33) m5 = some (bcells zz32, 33) := b5
  have eA := (em3.trans em5).trans em6
  generalize hput (hput (hput h m3 ((txC sD g).toArray.toList, 40)) m5 ((33, y33).snd.zero, 33)) m6 ((33, y33).snd.zero, 33) = H at *
  refine Ob.mk ⟨rfl, rfl⟩ ?_; conv => whnf
  refine StoreX.id b5 rfl ?_; conv => whnf
  refine Ob.mk ⟨rfl, rfl⟩ ?_; conv => whnf
  refine StoreX.id b6 rfl ?_; conv => whnf
  have y5 : Byt H (some ⟨m5, 0, none⟩) 32 32 zz32 := ⟨rd_own_at b5 rfl, isB_zeros _, Nat.le_refl _, (fun h => by cases h), by decide⟩
  have y6 : Byt H (some ⟨m6, 0, none⟩) 32 32 zz32 := ⟨rd_own_at b6 rfl, isB_zeros _, Nat.le_refl _, (fun h => by cases h), by decide⟩
  have hcH := eA _ _ hc
  repeat (refine Ob.mk (by first | decide | omega) ?_; conv => whnf)
  refine fromBE_ok y5 fun b n c1 h1 e1 g1 => ?_; conv => whnf
  refine baseFee_g (e1 _ _ hcH) E fun b2 n2 c2 h2 e2 g2 => ?_; conv => whnf
  refine less_ok (g1.ext e2) g2 fun b3 n3 c3 h3 e3 g3 => ?_; conv => whnf
  have eB := (e1.trans e2).trans e3
  refine DrawX.go T_ok hM Hval.func32 (tb := dr32) rfl (by kernel_rfl) ?_; conv => whnf
  refine baseFee_g (eB _ _ hcH) E fun b4 n4 c4 h4 e4 g4 => ?_; conv => whnf
  repeat (refine Ob.mk (by first | decide | omega) ?_; conv => whnf)
  refine fromBE_ok ((y6.ext eB).ext e4) fun b5 n5 c5 h5 e5 g5 => ?_; conv => whnf
  have hl0 : lessI (bv zz32) 0 = 0 := by rw [bv_zz32]; rfl
  rw [hl0] at g3
  rw [bv_zz32] at g5
  refine minNat_ok g5 ((g3.ext e4).ext e5) fun b6 n6 c6 g6 => ?_; conv => whnf
  refine addN (g4.ext e5) g6 (by omega) fun b7 n7 c7 h7 e7 g7 => ?_; conv => whnf
  exact RetX.same (hk _ _ _ _ (((((eA.trans eB).trans e4).trans e5)).trans e7) g7)
set_option maxRecDepth 100000 in
set_option maxHeartbeats 4000000 in
theorem yverdict_ok (hc : h c = some (sCells s, tc)) (hA : Arr h s.w.sA 24 (s.w.acc.map acCells)) (hX : ∀ x ∈ s.w.acc, x.addr.length = 20) (hr : s.w.sA.2.1 < 2 ^ 40) (hx : (getA s.w.acc sndA).ok h) (hn : (getA s.w.acc sndA).nonce = 0) (hco : (getA s.w.acc sndA).code = []) (E : EnvOK hi s) (hp : s.phase = 0) (hap : s.applied = 0) (hD : Byt h sD.1 sD.2.1 sD.2.2 d) (hg : 0 ≤ g ∧ g < 18446744073709551616)
    (hk : K (.int .u8 (vd d g)) h) : CallX Hval.prog 26 [.pointer (some ⟨c, 0, none⟩), .agg (txC sD g).toArray] h K := by
  have hbg := big_lt
  have hdl := hD.len
  obtain ⟨x, hxe⟩ : ∃ x, x = getA s.w.acc sndA := ⟨_, rfl⟩
  rw [← hxe] at hx hn hco
  have xlen := acCells_len hx.addr
  have xone := acCells_one x
  refine CallX.of_xf T_ok Hval.func26 rfl (by kernel_rfl) (Nat.le_of_ble_eq_true rfl) ?_; conv => whnf
  refine BoxX.ext fun m3 hm3 em3 => ?_; conv => whnf
  have b3 : hput h m3 ((txC sD g).toArray.toList, 40) m3 = some (txC sD g, 40) := hput_same ..
  generalize hput h m3 ((txC sD g).toArray.toList, 40) = H at *
  refine DrawX.go T_ok hM Hval.func26 (tb := dr26) rfl (by kernel_rfl) ?_; conv => whnf
  refine LoadX.of _ (tx_from b3) ?_; conv => whnf
  refine account_ok (xs := s.w.acc) (a := sndA) (em3 _ _ hc) (show (sCells s)[0]? = some (sl s.w.sA) from rfl) (hA.ext em3) hX rfl hr ?_
  rw [← hxe]; conv => whnf
  repeat (refine Ob.mk (by exact tx_from b3) ?_; conv => whnf)
  refine ⟨fun m5 hn5 => ?_⟩
  conv => whnf
  refine Ob.mk ⟨by rw [List.size_toArray, xlen]; rfl, xone⟩ ?_; conv => whnf
  refine StoreX.whole (hput_same ..) (by rw [List.toList_toArray, xlen]; rfl) ?_
  rw [hput_hput, List.toList_toArray]; conv => whnf
  have b5 : hput H m5 (acCells x, 118) m5 = some (acCells x, 118) := hput_same ..
  have eA := em3.trans (Ext.new (x := (acCells x, 118)) hn5)
  have b3 := Ext.new (x := (acCells x, 118)) hn5 _ _ b3
  generalize hput H m5 (acCells x, 118) = H1 at *
  repeat (refine Ob.mk (by exact tx_from b3) ?_; conv => whnf)
  refine LoadX.blk b3 (.int .u64 g) rfl ?_; conv => whnf
  refine num_ok hg.1 hg.2 fun b6 n6 c6 h2 e2 g6 => ?_; conv => whnf
  have b3 := e2 _ _ b3
  have b5 := e2 _ _ b5
  have eA := eA.trans e2
  refine fees_ok b3 ?_; conv => whnf
  refine BoxX.ext fun m7 hm7 em7 => ?_; conv => whnf
  refine BoxX.ext fun m8 hm8 em8 => ?_; conv => whnf
  have b7 : hput (hput h2 m7 ((33, y33).snd.zero, 33)) m8 ((33, y33).snd.zero, 33) m7 = some (bcells zz32, 33) := em8 _ _ (hput_same ..)
  have b8 : hput (hput h2 m7 ((33, y33).snd.zero, 33)) m8 ((33, y33).snd.zero, 33) m8 = some (bcells zz32, 33) := hput_same ..
  have e3 := em7.trans em8
  generalize hput (hput h2 m7 ((33, y33).snd.zero, 33)) m8 ((33, y33).snd.zero, 33) = h3 at *
  have b3 := e3 _ _ b3
  have b5 := e3 _ _ b5
  have eA := eA.trans e3
  have g6 := g6.ext e3
  refine Ob.mk ⟨rfl, rfl⟩ ?_; conv => whnf
  refine StoreX.id b7 rfl ?_; conv => whnf
  refine Ob.mk ⟨rfl, rfl⟩ ?_; conv => whnf
  refine StoreX.id b8 rfl ?_; conv => whnf
  have y7 : Byt h3 (some ⟨m7, 0, none⟩) 32 32 zz32 := ⟨rd_own_at b7 rfl, isB_zeros _, Nat.le_refl _, (fun h => by cases h), by decide⟩
  have y8 : Byt h3 (some ⟨m8, 0, none⟩) 32 32 zz32 := ⟨rd_own_at b8 rfl, isB_zeros _, Nat.le_refl _, (fun h => by cases h), by decide⟩
  repeat (refine Ob.mk (by first | decide | omega) ?_; conv => whnf)
  refine fromBE_ok y7 fun b9 n9 c9 h4 e4 g9 => ?_; conv => whnf
  rw [bv_zz32] at g9
  have b3 := e4 _ _ b3
  refine DrawX.go T_ok hM Hval.func26 (tb := dr26) rfl (by kernel_rfl) ?_; conv => whnf
  refine mulN (g6.ext e4) g9 (by omega) (by omega) fun b10 n10 c10 h5 e5 g10 => ?_; conv => whnf
  repeat (refine Ob.mk (by first | decide | omega) ?_; conv => whnf)
  have b3 := e5 _ _ b3
  refine fromBE_ok (tx_vbyt b3) fun b11 n11 c11 h6 e6 g11 => ?_; conv => whnf
  rw [bv_zz32] at g11
  refine addN (g10.ext e6) g11 (by rw [Int.mul_zero]; omega) fun b12 n12 c12 h7 e7 g12 => ?_; conv => whnf
  rw [Int.mul_zero, Int.add_zero] at g12
  have e47 := ((e4.trans e5).trans e6).trans e7
  have b3 := e7 _ _ (e6 _ _ b3)
  have b5 := e47 _ _ b5
  have hcc := e47 _ _ (eA _ _ hc)
  have g6 := g6.ext e47
  have g9 := g9.ext ((e5.trans e6).trans e7)
  have y8 := y8.ext e47
  have hDD := hD.ext (eA.trans e47)
  have eA := eA.trans e47
  clear e4 e5 e6 e7 e47 e2 e3 y7 b7 b8 em7 em8 em3 hm7 hm8
  refine LoadX.blk hcc (.int .u8 0) (congrArg (fun y => some (Value.int .u8 y)) hp) ?_; conv => whnf
  repeat (first | (refine CondX.tt ?_; conv => whnf) | (refine CondX.ff ?_; conv => whnf))
  refine LoadX.blk hcc (.int .u8 0) (congrArg (fun y => some (Value.int .u8 y)) hap) ?_; conv => whnf
  repeat (first | (refine CondX.tt ?_; conv => whnf) | (refine CondX.ff ?_; conv => whnf))
  refine num_ok (by omega) (by omega) fun b13 n13 c13 h8 e8 g13 => ?_; conv => whnf
  have b3 := e8 _ _ b3
  have b5 := e8 _ _ b5
  have hcc := e8 _ _ hcc
  have g6 := g6.ext e8
  have g9 := g9.ext e8
  have g12 := g12.ext e8
  have y8 := y8.ext e8
  have hDD := hDD.ext e8
  have eA := eA.trans e8
  refine cmpN g6 g13 ?_; conv => whnf
  rw [cmp_gt]
  refine CondX.decI (fun h1 => ?_) (fun h1 => ?_) <;> conv => whnf
  · repeat (first | (refine CondX.tt ?_; conv => whnf) | (refine CondX.ff ?_; conv => whnf))
    refine RetX.drop eA ?_
    rw [show vd d g = 3 by unfold vd; first | (rw [if_pos (by omega)]) | (rw [if_neg (by omega), if_pos (by omega)]) | (rw [if_neg (by omega), if_neg (by omega)])] at hk
    exact hk
  repeat (first | (refine CondX.tt ?_; conv => whnf) | (refine CondX.ff ?_; conv => whnf))
  refine LoadX.blk b3 (sl sD) rfl ?_; conv => whnf
  repeat (first | (refine CondX.tt ?_; conv => whnf) | (refine CondX.ff ?_; conv => whnf))
  refine CondX.decI (fun h2 => ?_) (fun h2 => ?_) <;> conv => whnf
  · repeat (first | (refine CondX.tt ?_; conv => whnf) | (refine CondX.ff ?_; conv => whnf))
    refine RetX.drop eA ?_
    rw [show vd d g = 3 by unfold vd; first | (rw [if_pos (by omega)]) | (rw [if_neg (by omega), if_pos (by omega)]) | (rw [if_neg (by omega), if_neg (by omega)])] at hk
    exact hk
  repeat (first | (refine CondX.tt ?_; conv => whnf) | (refine CondX.ff ?_; conv => whnf))
  refine listOK_ok b3 ?_; conv => whnf
  repeat (first | (refine CondX.tt ?_; conv => whnf) | (refine CondX.ff ?_; conv => whnf))
  refine DrawX.go T_ok hM Hval.func26 (tb := dr26) rfl (by kernel_rfl) ?_; conv => whnf
  refine LoadX.blk b3 (.int .u64 0) rfl ?_; conv => whnf
  have xlc := hx.code.len
  rw [hco] at xlc
  have hx9 : ∀ {hq : Hp}, Ext h hq → NtS hq x.ns 0 := fun {hq} e => by rw [← hn]; exact hx.nonce.ext e
  refine LoadX.fld b5 hx.addr 0 rfl (v := sl x.ns) rfl ?_; conv => whnf
  refine num_ok (by omega) (by omega) fun b14 n14 c14 h9 e9 g14 => ?_; conv => whnf
  have b3 := e9 _ _ b3
  have b5 := e9 _ _ b5
  have hcc := e9 _ _ hcc
  have g6 := g6.ext e9
  have g9 := g9.ext e9
  have g12 := g12.ext e9
  have y8 := y8.ext e9
  have hDD := hDD.ext e9
  have eA := eA.trans e9
  repeat (refine Ob.mk (by first | exact ldV_blk b3 rfl | exact ldV_fld b5 hx.addr 0 rfl rfl) ?_; conv => whnf)
  refine cmpN g14 (hx9 eA) ?_
  rw [show cmpI 0 0 = 0 from rfl]; conv => whnf
  repeat (refine Ob.mk (by first | exact ldV_blk b3 rfl | exact ldV_fld b5 hx.addr 0 rfl rfl) ?_; conv => whnf)
  repeat (first | (refine CondX.tt ?_; conv => whnf) | (refine CondX.ff ?_; conv => whnf))
  refine DrawX.go T_ok hM Hval.func26 (tb := dr26) rfl (by kernel_rfl) ?_; conv => whnf
  refine LoadX.fld b5 hx.addr 0 rfl (v := sl x.ns) rfl ?_; conv => whnf
  refine num_ok (by omega) (by omega) fun b15 n15 c15 h10 e10 g15 => ?_; conv => whnf
  have b3 := e10 _ _ b3
  have b5 := e10 _ _ b5
  have hcc := e10 _ _ hcc
  have g6 := g6.ext e10
  have g9 := g9.ext e10
  have g12 := g12.ext e10
  have y8 := y8.ext e10
  have hDD := hDD.ext e10
  have eA := eA.trans e10
  repeat (refine Ob.mk (by first | exact ldV_fld b5 hx.addr 0 rfl rfl) ?_; conv => whnf)
  refine cmpN (hx9 eA) g15 ?_
  rw [show cmpI 0 18446744073709551615 = -1 from rfl]; conv => whnf
  repeat (refine Ob.mk (by first | exact ldV_fld b5 hx.addr 0 rfl rfl) ?_; conv => whnf)
  repeat (first | (refine CondX.tt ?_; conv => whnf) | (refine CondX.ff ?_; conv => whnf))
  refine LoadX.fld b5 hx.addr 2 rfl (v := sl x.cs) rfl ?_; conv => whnf
  refine CondX.dF (by have : x.cs.2.1 = 0 := xlc.symm; omega) ?_; conv => whnf
  refine LoadX.blk b3 (.bool false) rfl ?_; conv => whnf
  repeat (first | (refine CondX.tt ?_; conv => whnf) | (refine CondX.ff ?_; conv => whnf))
  refine LoadX.all b3 rfl ?_; conv => whnf
  refine yIntr_ok hDD (by omega) fun b16 n16 c16 h11 e11 g16 => ?_; conv => whnf
  have b3 := e11 _ _ b3
  have b5 := e11 _ _ b5
  have hcc := e11 _ _ hcc
  have g6 := g6.ext e11
  have g9 := g9.ext e11
  have g12 := g12.ext e11
  have y8 := y8.ext e11
  have hDD := hDD.ext e11
  have eA := eA.trans e11
  refine cmpN g6 g16 ?_; conv => whnf
  rw [cmp_lt]
  refine CondX.decI (fun h3 => ?_) (fun h3 => ?_) <;> conv => whnf
  · refine RetX.drop eA ?_
    rw [show vd d g = 8 by unfold vd; first | (rw [if_pos (by omega)]) | (rw [if_neg (by omega), if_pos (by omega)]) | (rw [if_neg (by omega), if_neg (by omega)])] at hk
    exact hk
  refine LoadX.of _ (ldV_env hcc E (k := 22) rfl rfl) ?_; conv => whnf
  refine num_ok (by omega) (by omega) fun b17 n17 c17 h12 e12 g17 => ?_; conv => whnf
  have b3 := e12 _ _ b3
  have b5 := e12 _ _ b5
  have hcc := e12 _ _ hcc
  have g6 := g6.ext e12
  have g9 := g9.ext e12
  have g12 := g12.ext e12
  have y8 := y8.ext e12
  have hDD := hDD.ext e12
  have eA := eA.trans e12
  refine cmpN g6 g17 ?_; conv => whnf
  rw [cmp_gt]
  refine CondX.dF (by omega) ?_; conv => whnf
  refine LoadX.fld b5 hx.addr 1 rfl (v := sl x.bs) rfl ?_; conv => whnf
  refine cmpN (hx.bal.ext eA) g12 ?_; conv => whnf
  rw [cmp_lt]
  refine CondX.dF (by have := hx.bal.val; omega) ?_; conv => whnf
  repeat (refine Ob.mk (by first | decide | omega) ?_; conv => whnf)
  refine fromBE_ok y8 fun b18 n18 c18 h13 e13 g18 => ?_; conv => whnf
  have b3 := e13 _ _ b3
  have b5 := e13 _ _ b5
  have hcc := e13 _ _ hcc
  have g6 := g6.ext e13
  have g9 := g9.ext e13
  have g12 := g12.ext e13
  have y8 := y8.ext e13
  have hDD := hDD.ext e13
  have eA := eA.trans e13
  rw [bv_zz32] at g18
  refine cmpN g18 g9 ?_
  rw [show cmpI 0 0 = 0 from rfl]; conv => whnf
  repeat (first | (refine CondX.tt ?_; conv => whnf) | (refine CondX.ff ?_; conv => whnf))
  refine baseFee_g hcc E fun b19 n19 c19 h14 e14 g19 => ?_; conv => whnf
  have b3 := e14 _ _ b3
  have b5 := e14 _ _ b5
  have hcc := e14 _ _ hcc
  have g6 := g6.ext e14
  have g9 := g9.ext e14
  have g12 := g12.ext e14
  have y8 := y8.ext e14
  have hDD := hDD.ext e14
  have eA := eA.trans e14
  refine cmpN g9 g19 ?_
  rw [show cmpI 0 0 = 0 from rfl]; conv => whnf
  repeat (first | (refine CondX.tt ?_; conv => whnf) | (refine CondX.ff ?_; conv => whnf))
  refine RetX.drop eA ?_
  rw [show vd d g = 0 by unfold vd; first | (rw [if_pos (by omega)]) | (rw [if_neg (by omega), if_pos (by omega)]) | (rw [if_neg (by omega), if_neg (by omega)])] at hk
  exact hk
end
end Go.Proofs.YgvalwGreat.X
