import Derived.Test.YgvalwGreatG12
set_option linter.unusedVariables false
set_option linter.unusedSimpArgs false
namespace Go.Proofs.YgvalwGreat.X
open Go

section
variable {hi hm : Hp} {K : Value → Hp → Prop} {c : Nat} {tc : TypeId} {s : YS} {base frs : List (YF × List Int)} {f : YF} {m ret : List Int} {left : Int} {N : Nat} {sa : Sl} {xs : List (Sl × Int)}

set_option maxRecDepth 100000 in
set_option maxHeartbeats 4000000 in
theorem value_32 (S : StOK hi hm c tc s (base ++ [(f, m)]) ret left) (hN : StN N s (base ++ [(f, m)])) (hN30 : N + 3 < 2 ^ 30) (E : EnvOK hi s) (ha : Arr hi sa 1 (xs.map stCells)) (hxs : ∀ p ∈ xs, NtS hi p.1 p.2) (hr : sa.2.1 < 2 ^ 30) {fb : Nat} (hfb : at0 s.frS fb) (hself : isB f.self) (hcal : isB f.caller) (hlen : opdI xs 1 < 2 ^ 40) (hW : ∀ p ∈ xs, p.2 < W)
    (hk : VK hi hm c tc s (base ++ [(f, m)]) ret left N (valW (absW s.w) f.self 32 (opdI xs)) (valA (absW s.w) (absF (f, m)) ret s.origin 32 (opdI xs)) K) :
    CallX Hval.prog 135 [.pointer (some ⟨c, 0, none⟩), .pointer (some ⟨fb, (preC base).length, none⟩), .int .u8 32, sl sa] (join hi hm) K := by
  refine CallX.of_xf T_ok Hval.func135 rfl (by kernel_rfl) (Nat.le_of_ble_eq_true rfl) ?_; conv => whnf
  obtain ⟨fb', pad, tf, hfb', hb, hn1, hn2, hn3⟩ := S.top
  have : some (⟨fb', 0, none⟩ : Addr) = some ⟨fb, 0, none⟩ := hfb'.symm.trans hfb
  cases this
  have hok := S.okT
  have hd := S.dj
  have hc := S.chain
  have hcf : c ≠ fb := S.frC fb hfb
  have hwr := hN.now.room S.now (by omega)
  have hbj := join_hm hd hb
  have hcj := join_hm hd hc
  have oo : ∀ i, NtS hi (opdP xs i).1 (opdI xs i) := opdP_ok hxs
  refine operand_ok (ha.ext (Ext.jl _ _)) hr 0 (by decide) ?_; conv => whnf
  refine operand_ok (ha.ext (Ext.jl _ _)) hr 1 (by decide) ?_; conv => whnf
  repeat (first | (refine CondX.tt ?_; conv => whnf) | (refine CondX.ff ?_; conv => whnf))
  refine read_ok hd hb (S.memT.byt hd) (oo 0) (oo 1) hlen fun s1 hi1 e1 hd1 g1 => ?_; conv => whnf
  refine CallX.fj hd1 (kSum_ok g1 ?_)
  intro hd1'
  conv => whnf
  have klen := kSum_len (cutN m (opdI xs 0).toNat (opdI xs 1).toNat)
  refine BoxX.j hd1 fun m2 hin2 hmn2 hd2' he2' => ?_; conv => whnf
  refine Ob.mk ⟨by rw [List.size_toArray, bcells_length]; erw [klen]; rfl, ones_bcells _⟩ ?_; conv => whnf
  refine StoreX.j (by rw [List.toList_toArray, bcells_length]; erw [klen]; exact Nat.le_of_ble_eq_true rfl) ?_; conv => whnf
  rw [List.toList_toArray, setSeg_all (by rw [bcells_length]; erw [klen])]
  have hd2 : Dj (hput hi1 m2 (bcells (kSum (cutN m (opdI xs 0).toNat (opdI xs 1).toNat)), 32)) hm := hd2'.hp
  have e2 : Ext hi1 (hput hi1 m2 (bcells (kSum (cutN m (opdI xs 0).toNat (opdI xs 1).toNat)), 32)) := Ext.new hin2
  have h2 : hput hi1 m2 (bcells (kSum (cutN m (opdI xs 0).toNat (opdI xs 1).toNat)), 32) m2 = some (bcells (kSum (cutN m (opdI xs 0).toNat (opdI xs 1).toNat)), 32) := hput_same ..
  refine CallX.fj hd2 (fromBE_ok (byt_seg h2 (by rw [← klen, ← bcells_length]; exact seg_full) (by rw [bcells_length, klen]; decide) (kSum_isB _) (by decide)) fun b n c hi' e g hd' => ?_); conv => whnf
  exact RetX.same ((hk.keep S hN.now rfl rfl) (b, n, c) hi' ((e1.trans e2).trans e) hd' g)
set_option maxRecDepth 100000 in
set_option maxHeartbeats 4000000 in
theorem value_alu {o : Int} (hof : famI o = 1) (ho32 : o ≠ 32) (S : StOK hi hm c tc s (base ++ [(f, m)]) ret left) (hN : StN N s (base ++ [(f, m)])) (hN30 : N + 3 < 2 ^ 30) (E : EnvOK hi s) (ha : Arr hi sa 1 (xs.map stCells)) (hxs : ∀ p ∈ xs, NtS hi p.1 p.2) (hr : sa.2.1 < 2 ^ 30) {fb : Nat} (hfb : at0 s.frS fb) (hself : isB f.self) (hcal : isB f.caller) (hW : ∀ p ∈ xs, p.2 < W)
    (hk : VK hi hm c tc s (base ++ [(f, m)]) ret left N (valW (absW s.w) f.self o (opdI xs)) (valA (absW s.w) (absF (f, m)) ret s.origin o (opdI xs)) K) :
    CallX Hval.prog 135 [.pointer (some ⟨c, 0, none⟩), .pointer (some ⟨fb, (preC base).length, none⟩), .int .u8 o, sl sa] (join hi hm) K := by
  have ho : 0 ≤ o ∧ o < 256 := by unfold famI at hof; repeat (first | (split at hof; omega) | omega)
  obtain ⟨on, rfl⟩ : ∃ n : Nat, o = n := ⟨o.toNat, by omega⟩
  refine CallX.of_xf T_ok Hval.func135 rfl (by kernel_rfl) (Nat.le_of_ble_eq_true rfl) ?_; conv => whnf
  obtain ⟨fb', pad, tf, hfb', hb, hn1, hn2, hn3⟩ := S.top
  have : some (⟨fb', 0, none⟩ : Addr) = some ⟨fb, 0, none⟩ := hfb'.symm.trans hfb
  cases this
  have hok := S.okT
  have hd := S.dj
  have hc := S.chain
  have hcf : c ≠ fb := S.frC fb hfb
  have hwr := hN.now.room S.now (by omega)
  have hbj := join_hm hd hb
  have hcj := join_hm hd hc
  have oo : ∀ i, NtS hi (opdP xs i).1 (opdI xs i) := opdP_ok hxs
  refine operand_ok (ha.ext (Ext.jl _ _)) hr 0 (by decide) ?_; conv => whnf
  refine operand_ok (ha.ext (Ext.jl _ _)) hr 1 (by decide) ?_; conv => whnf
  repeat (first | (refine CondX.tt ?_; conv => whnf) | (refine CondX.ff ?_; conv => whnf))
  refine CondX.eqF ho32 ?_; conv => whnf
  refine family_ok ho.1 ho.2 ?_; conv => whnf
  refine CondX.eqT hof ?_; conv => whnf
  refine operand_ok (ha.ext (Ext.jl _ _)) hr 2 (by decide) ?_; conv => whnf
  refine CallX.fj hd (alu_ok (oo 0) (oo 1) (oo 2) (opd_lt hW 0) (opd_lt hW 1) (opd_lt hW 2) fun b n c hi' e g hd' => ?_); conv => whnf
  exact RetX.same ((hk.keep S hN.now (by unfold valW; rw [if_neg (by unfold famI at hof; repeat (first | (split at hof; omega) | omega)), if_neg (by unfold famI at hof; repeat (first | (split at hof; omega) | omega))]) (by unfold valA; rw [if_neg ho32, if_pos hof]; rfl)) (b, n, c) hi' e hd' g)
set_option maxRecDepth 100000 in
set_option maxHeartbeats 4000000 in
theorem value_push {o : Int} (hop : 95 ≤ o ∧ o ≤ 127) (hpc : f.pc + 1 < big) (S : StOK hi hm c tc s (base ++ [(f, m)]) ret left) (hN : StN N s (base ++ [(f, m)])) (hN30 : N + 3 < 2 ^ 30) (E : EnvOK hi s) (ha : Arr hi sa 1 (xs.map stCells)) (hxs : ∀ p ∈ xs, NtS hi p.1 p.2) (hr : sa.2.1 < 2 ^ 30) {fb : Nat} (hfb : at0 s.frS fb) (hself : isB f.self) (hcal : isB f.caller) (hW : ∀ p ∈ xs, p.2 < W)
    (hk : VK hi hm c tc s (base ++ [(f, m)]) ret left N (valW (absW s.w) f.self o (opdI xs)) (valA (absW s.w) (absF (f, m)) ret s.origin o (opdI xs)) K) :
    CallX Hval.prog 135 [.pointer (some ⟨c, 0, none⟩), .pointer (some ⟨fb, (preC base).length, none⟩), .int .u8 o, sl sa] (join hi hm) K := by
  refine CallX.of_xf T_ok Hval.func135 rfl (by kernel_rfl) (Nat.le_of_ble_eq_true rfl) ?_; conv => whnf
  obtain ⟨fb', pad, tf, hfb', hb, hn1, hn2, hn3⟩ := S.top
  have : some (⟨fb', 0, none⟩ : Addr) = some ⟨fb, 0, none⟩ := hfb'.symm.trans hfb
  cases this
  have hok := S.okT
  have hd := S.dj
  have hc := S.chain
  have hcf : c ≠ fb := S.frC fb hfb
  have hwr := hN.now.room S.now (by omega)
  have hbj := join_hm hd hb
  have hcj := join_hm hd hc
  have oo : ∀ i, NtS hi (opdP xs i).1 (opdI xs i) := opdP_ok hxs
  refine operand_ok (ha.ext (Ext.jl _ _)) hr 0 (by decide) ?_; conv => whnf
  refine operand_ok (ha.ext (Ext.jl _ _)) hr 1 (by decide) ?_; conv => whnf
  repeat (first | (refine CondX.tt ?_; conv => whnf) | (refine CondX.ff ?_; conv => whnf))
  have hof : famI o ≠ 1 := by unfold famI; rw [if_neg (by omega), if_neg (by omega), if_pos (by omega)]; decide
  refine CondX.eqF (by omega) ?_; conv => whnf
  refine family_ok (by omega) (by omega) ?_; conv => whnf
  refine CondX.eqF hof ?_; conv => whnf
  refine CondX.dT (by omega) ?_; conv => whnf
  repeat (first | (refine CondX.tt ?_; conv => whnf) | (refine CondX.ff ?_; conv => whnf))
  refine CondX.dT (by omega) ?_; conv => whnf
  refine DrawX.go T_ok hM Hval.func135 (tb := dr135) rfl (by kernel_rfl) ?_; conv => whnf
  refine LoadX.mid hbj 10 (by decide) rfl (v := sl f.codeS) rfl ?_; conv => whnf
  refine LoadX.mid hbj 3 (by decide) rfl (v := sl f.pcS) rfl ?_; conv => whnf
  refine CallX.fj hd (num_ok (by omega) (by omega) fun b1 n1 c1 hi1 e1 g1 hd1 => ?_); conv => whnf
  repeat (refine Ob.mk (by first | exact ldV_mid (join_hm hd1 hb) 10 (by decide) rfl rfl | exact ldV_mid (join_hm hd1 hb) 3 (by decide) rfl rfl) ?_; conv => whnf)
  have hok1 := hok.ext e1
  refine CallX.fj hd1 (addN hok1.pc g1 hpc fun b2 n2 c2 hi2 e2 g2 hd2 => ?_); conv => whnf
  repeat (refine Ob.mk (by first | exact ldV_mid (join_hm hd2 hb) 10 (by decide) rfl rfl | exact ldV_mid (join_hm hd2 hb) 3 (by decide) rfl rfl) ?_; conv => whnf)
  refine imm_ok (o := o) (by omega) (by omega) ?_; conv => whnf
  repeat (refine Ob.mk (by first | exact ldV_mid (join_hm hd2 hb) 10 (by decide) rfl rfl | exact ldV_mid (join_hm hd2 hb) 3 (by decide) rfl rfl) ?_; conv => whnf)
  have him : 0 ≤ immI o ∧ immI o < 33 := by unfold immI; split <;> omega
  have e64 : IntKind.u64.wrap (immI o) = immI o := by rw [wrap_u64']; omega
  rw [e64]
  refine CallX.fj hd2 (num_ok (by omega) (by omega) fun b3 n3 c3 hi3 e3 g3 hd3 => ?_); conv => whnf
  repeat (refine Ob.mk (by first | exact ldV_mid (join_hm hd3 hb) 10 (by decide) rfl rfl | exact ldV_mid (join_hm hd3 hb) 3 (by decide) rfl rfl) ?_; conv => whnf)
  have hok3 := (hok1.ext e2).ext e3
  refine CallX.fj hd3 (cut_ok hok3.code (g2.ext e3) g3 (by omega) fun m4 hm4 hd4 => ?_); conv => whnf
  repeat (refine Ob.mk (by first | exact ldV_mid (join_hm hd4 hb) 10 (by decide) rfl rfl | exact ldV_mid (join_hm hd4 hb) 3 (by decide) rfl rfl) ?_; conv => whnf)
  have e4 : Ext hi3 (hput hi3 m4 (bcells (cutN f.code (f.pc + 1).toNat (immI o).toNat), 5)) := Ext.bd hm4
  refine CallX.fj hd4 (fromBE_ok (Nt_cut (k := (immI o).toNat) hok.code.isB (by omega)) fun b n c hi' e g hd' => ?_); conv => whnf
  repeat (refine Ob.mk (by first | exact ldV_mid (join_hm hd' hb) 10 (by decide) rfl rfl | exact ldV_mid (join_hm hd' hb) 3 (by decide) rfl rfl) ?_; conv => whnf)
  exact RetX.same ((hk.keep S hN.now (by unfold valW; rw [if_neg (by omega), if_neg (by omega)]) (by unfold valA; rw [if_neg (by omega), if_neg hof, if_pos hop]; rfl)) (b, n, c) hi' ((((e1.trans e2).trans e3).trans e4).trans e) hd' g)
end
end Go.Proofs.YgvalwGreat.X
