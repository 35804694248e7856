import Derived.Test.YgvalwGreatM4
set_option linter.unusedVariables false
set_option linter.unusedSimpArgs false
namespace Go.Proofs.YgvalwGreat.X
open Go


def jumpM (m : MS) (t tk at_ : Nat) : MS := { m with fr := updN m.fr t { m.fr t with sp := (m.fr t).sp - tk, pc := at_ } }
section
variable {hi hi0 hm h : Hp} {K : Value → Hp → Prop} {mc mc' : Nat → Value} {v : VS} {eb : Nat} {w : AW} {sn : List AW} {m : MS} {t : Nat}
def NoK (hi : Hp) (eb : Nat) (m : MS) (t tk : Nat) (w : AW) (sn : List AW) (v : VS) (K : Value → Hp → Prop) : Prop := ∀ hm', MA hi hm' eb (settleM m t tk none 1) t w sn v → K (.tuple #[]) (join hi hm')
set_option maxRecDepth 100000 in
set_option maxHeartbeats 4000000 in
theorem pop_ok (M : MA hi hm eb m t w sn v) (hs : 1 ≤ (m.fr t).sp) (hpc : (m.fr t).pc < 600) (hk : NoK hi eb m t 1 w sn v K) : CallX Hval.prog 200 [.pointer (some ⟨eb, 0, none⟩)] (join hi hm) K := by
  have hsp := M.f.sp
  refine CallX.of_xf T_ok Hval.func200 rfl (by kernel_rfl) (Nat.le_of_ble_eq_true rfl) ?_; conv => whnf
  refine running_ok M (Ext.refl _) ?_; conv => whnf
  repeat (first | (refine CondX.tt ?_; conv => whnf) | (refine CondX.ff ?_; conv => whnf))
  refine settle_none (tk := 1) (st := 1) (x := 0) M hs (by omega) fun hm' M' => ?_; conv => whnf
  exact RetX.same (hk hm' M')
set_option maxRecDepth 100000 in
set_option maxHeartbeats 4000000 in
theorem jumpdest_ok {a b : Nat} (M : MA hi hm eb m t w sn v) (h0 : argM m t 0 = a) (h1 : argM m t 1 = b) (ho : opI (m.fr t).code (m.fr t).pc = 91) (hpc : (m.fr t).pc < 600) (hk : NoK hi eb m t 0 w sn v K) : CallX Hval.prog 194 [.pointer (some ⟨eb, 0, none⟩)] (join hi hm) K := by
  have hsp := M.f.sp
  obtain ⟨pa, qa⟩ := h0 ▸ argM_W M 0
  obtain ⟨pb, qb⟩ := h1 ▸ argM_W M 1
  refine CallX.of_xf T_ok Hval.func194 rfl (by kernel_rfl) (Nat.le_of_ble_eq_true rfl) ?_; conv => whnf
  refine running_ok M (Ext.refl _) ?_; conv => whnf
  repeat (first | (refine CondX.tt ?_; conv => whnf) | (refine CondX.ff ?_; conv => whnf))
  refine arg_okM (i := 0) M (Ext.refl _) (by decide) ?_
  rw [h0]; conv => whnf
  refine BoxX.wj M.A.V.dj fun n3 hd3 he3 => ?_; conv => whnf
  refine Ob.mk ⟨rfl, rfl⟩ ?_; conv => whnf
  refine StoreX.j (Nat.le_of_ble_eq_true rfl) ?_
  rw [setSeg_all (by rfl)]; conv => whnf
  refine arg_okM (i := 1) M (Ext.j2 (he3 _) (hd3 _) (Ext.refl hm)) (by decide) ?_
  rw [h1]; conv => whnf
  refine BoxX.wj (hd3 _) fun n4 hd4 he4 => ?_; conv => whnf
  refine Ob.mk ⟨rfl, rfl⟩ ?_; conv => whnf
  refine StoreX.j (Nat.le_of_ble_eq_true rfl) ?_
  rw [setSeg_all (by rfl)]; conv => whnf
  have hE := (he3 ((wc a).toArray.toList, 75)).trans (he4 ((wc b).toArray.toList, 75))
  have hd := hd4 ((wc b).toArray.toList, 75)
  have ba : hput (hput hi n3 ((wc a).toArray.toList, 75)) n4 ((wc b).toArray.toList, 75) n3 = some (wc a, 75) := he4 _ _ _ (hput_same ..)
  have bb : hput (hput hi n3 ((wc a).toArray.toList, 75)) n4 ((wc b).toArray.toList, 75) n4 = some (wc b, 75) := hput_same ..
  refine opcodeM_ok M (Ext.j2 hE hd (Ext.refl hm)) ?_
  rw [ho]; conv => whnf
  repeat (first | (refine CondX.tt ?_; conv => whnf) | (refine CondX.ff ?_; conv => whnf))
  refine settleN_b (tk := 0) (st := 1) (x := 0) hE hd M (by omega) (by omega) fun hm' hd' M' => ?_; conv => whnf
  exact RetX.drop (h' := join hi hm') (Ext.j2 hE hd' (Ext.refl _)) (hk hm' M')
theorem MA.jump (M : MA hi hm eb m t w sn v) {tk at_ : Nat} (h : at_ < 512) : MA hi (hput hm eb (fnv 27024 (eC (mC eb (jumpM m t tk at_)) v), 101)) eb (jumpM m t tk at_) t w sn v := by
  have F := M.f
  exact M.setF (f := { m.fr t with sp := (m.fr t).sp - tk, pc := at_ }) (.inl rfl) ⟨F.sb, by show (m.fr t).sp - tk ≤ 64; have := F.sp; omega, by show at_ < 2000; omega, F.gas, F.self, F.caller, F.val, F.code, F.cl, F.input, F.dst⟩
set_option maxRecDepth 100000 in
set_option maxHeartbeats 4000000 in
theorem jump_ok {a b : Nat} (M : MA hi hm eb m t w sn v) (h0 : argM m t 0 = a) (h1 : argM m t 1 = b) (ho : opI (m.fr t).code (m.fr t).pc = 86) (hpc : (m.fr t).pc < 600) (hs : 1 ≤ (m.fr t).sp) (ha : a < 512)
    (hk : ∀ hm', MA hi hm' eb (jumpM m t 1 a) t w sn v → K (.tuple #[]) (join hi hm')) : CallX Hval.prog 194 [.pointer (some ⟨eb, 0, none⟩)] (join hi hm) K := by
  have hsp := M.f.sp
  obtain ⟨pa, qa⟩ := h0 ▸ argM_W M 0
  obtain ⟨pb, qb⟩ := h1 ▸ argM_W M 1
  refine CallX.of_xf T_ok Hval.func194 rfl (by kernel_rfl) (Nat.le_of_ble_eq_true rfl) ?_; conv => whnf
  refine running_ok M (Ext.refl _) ?_; conv => whnf
  repeat (first | (refine CondX.tt ?_; conv => whnf) | (refine CondX.ff ?_; conv => whnf))
  refine arg_okM (i := 0) M (Ext.refl _) (by decide) ?_
  rw [h0]; conv => whnf
  refine BoxX.wj M.A.V.dj fun n3 hd3 he3 => ?_; conv => whnf
  refine Ob.mk ⟨rfl, rfl⟩ ?_; conv => whnf
  refine StoreX.j (Nat.le_of_ble_eq_true rfl) ?_
  rw [setSeg_all (by rfl)]; conv => whnf
  refine arg_okM (i := 1) M (Ext.j2 (he3 _) (hd3 _) (Ext.refl hm)) (by decide) ?_
  rw [h1]; conv => whnf
  refine BoxX.wj (hd3 _) fun n4 hd4 he4 => ?_; conv => whnf
  refine Ob.mk ⟨rfl, rfl⟩ ?_; conv => whnf
  refine StoreX.j (Nat.le_of_ble_eq_true rfl) ?_
  rw [setSeg_all (by rfl)]; conv => whnf
  have hE := (he3 ((wc a).toArray.toList, 75)).trans (he4 ((wc b).toArray.toList, 75))
  have hd := hd4 ((wc b).toArray.toList, 75)
  have ba : hput (hput hi n3 ((wc a).toArray.toList, 75)) n4 ((wc b).toArray.toList, 75) n3 = some (wc a, 75) := he4 _ _ _ (hput_same ..)
  have bb : hput (hput hi n3 ((wc a).toArray.toList, 75)) n4 ((wc b).toArray.toList, 75) n4 = some (wc b, 75) := hput_same ..
  refine opcodeM_ok M (Ext.j2 hE hd (Ext.refl hm)) ?_
  rw [ho]; conv => whnf
  repeat (first | (refine CondX.tt ?_; conv => whnf) | (refine CondX.ff ?_; conv => whnf))
  refine Ob.mk ⟨rfl, rfl⟩ ?_; conv => whnf
  refine StoreX.j (Nat.le_of_ble_eq_true rfl) ?_
  rw [setSeg_all (by rfl)]; conv => whnf
  repeat (first | (refine CondX.tt ?_; conv => whnf) | (refine CondX.ff ?_; conv => whnf))
  have hE' := (he3 ((wc a).toArray.toList, 75)).trans (he4 ((wc 1).toArray.toList, 75))
  have hd' := hd4 ((wc 1).toArray.toList, 75)
  have ba' : hput (hput hi n3 ((wc a).toArray.toList, 75)) n4 ((wc 1).toArray.toList, 75) n3 = some (wc a, 75) := he4 _ _ _ (hput_same ..)
  refine LoadX.all (c := wc 1) (join_l (hput_same ..)) rfl ?_; conv => whnf
  repeat (first | (refine CondX.tt ?_; conv => whnf) | (refine CondX.ff ?_; conv => whnf))
  refine eIsZero' (x := 1) (by decide) (by rw [W_val]; decide) ?_; conv => whnf
  repeat (first | (refine CondX.tt ?_; conv => whnf) | (refine CondX.ff ?_; conv => whnf))
  refine LoadX.all (join_l ba') rfl ?_; conv => whnf
  refine eU64_ok qa ?_; conv => whnf
  rw [if_pos (by omega)]
  refine CondX.dF (by omega) ?_; conv => whnf
  refine settleN_b (tk := 1) (st := 0) (x := 0) hE' hd' M hs (by omega) fun hm2 hd2 M2 => ?_; conv => whnf
  rw [show IntKind.u16.wrap (a : Int) = (a : Int) by rw [wrap_u16]; omega]
  have h7 := M.t7
  refine StoreX.jf hd2 M2.A.V.blk (1803 + t * 65 + 4) rfl (by omega) fun hd6 => ?_
  rw [eU_pc h7] at hd6 ⊢; conv => whnf
  have MJ := M2.jump (tk := 0) (at_ := a) (by omega)
  have eJ : jumpM (settleM m t 1 none 0) t 0 a = jumpM m t 1 a := by
    unfold jumpM settleM
    dsimp only
    rw [updN_same, updN_updN]; rfl
  have eK : ({ settleM m t 1 none 0 with fr := updN (settleM m t 1 none 0).fr t { (settleM m t 1 none 0).fr t with pc := a } } : MS) = jumpM m t 1 a := by
    unfold jumpM settleM
    dsimp only
    rw [updN_same, updN_updN]
  rw [eJ] at MJ
  rw [eK] at hd6 ⊢
  exact RetX.drop (h' := join hi (hput hm2 eb (fnv 27024 (eC (mC eb (jumpM m t 1 a)) v), 101))) (Ext.j2 hE' hd6 (Ext.refl _)) (hk _ MJ)
set_option maxRecDepth 100000 in
set_option maxHeartbeats 4000000 in
theorem jumpi_go {a b : Nat} (M : MA hi hm eb m t w sn v) (h0 : argM m t 0 = a) (h1 : argM m t 1 = b) (ho : opI (m.fr t).code (m.fr t).pc = 87) (hpc : (m.fr t).pc < 600) (hs : 2 ≤ (m.fr t).sp) (ha : a < 512) (hb0 : b ≠ 0)
    (hk : ∀ hm', MA hi hm' eb (jumpM m t 2 a) t w sn v → K (.tuple #[]) (join hi hm')) : CallX Hval.prog 194 [.pointer (some ⟨eb, 0, none⟩)] (join hi hm) K := by
  have hsp := M.f.sp
  obtain ⟨pa, qa⟩ := h0 ▸ argM_W M 0
  obtain ⟨pb, qb⟩ := h1 ▸ argM_W M 1
  refine CallX.of_xf T_ok Hval.func194 rfl (by kernel_rfl) (Nat.le_of_ble_eq_true rfl) ?_; conv => whnf
  refine running_ok M (Ext.refl _) ?_; conv => whnf
  repeat (first | (refine CondX.tt ?_; conv => whnf) | (refine CondX.ff ?_; conv => whnf))
  refine arg_okM (i := 0) M (Ext.refl _) (by decide) ?_
  rw [h0]; conv => whnf
  refine BoxX.wj M.A.V.dj fun n3 hd3 he3 => ?_; conv => whnf
  refine Ob.mk ⟨rfl, rfl⟩ ?_; conv => whnf
  refine StoreX.j (Nat.le_of_ble_eq_true rfl) ?_
  rw [setSeg_all (by rfl)]; conv => whnf
  refine arg_okM (i := 1) M (Ext.j2 (he3 _) (hd3 _) (Ext.refl hm)) (by decide) ?_
  rw [h1]; conv => whnf
  refine BoxX.wj (hd3 _) fun n4 hd4 he4 => ?_; conv => whnf
  refine Ob.mk ⟨rfl, rfl⟩ ?_; conv => whnf
  refine StoreX.j (Nat.le_of_ble_eq_true rfl) ?_
  rw [setSeg_all (by rfl)]; conv => whnf
  have hE := (he3 ((wc a).toArray.toList, 75)).trans (he4 ((wc b).toArray.toList, 75))
  have hd := hd4 ((wc b).toArray.toList, 75)
  have ba : hput (hput hi n3 ((wc a).toArray.toList, 75)) n4 ((wc b).toArray.toList, 75) n3 = some (wc a, 75) := he4 _ _ _ (hput_same ..)
  have bb : hput (hput hi n3 ((wc a).toArray.toList, 75)) n4 ((wc b).toArray.toList, 75) n4 = some (wc b, 75) := hput_same ..
  refine opcodeM_ok M (Ext.j2 hE hd (Ext.refl hm)) ?_
  rw [ho]; conv => whnf
  repeat (first | (refine CondX.tt ?_; conv => whnf) | (refine CondX.ff ?_; conv => whnf))
  have hE' := hE
  have hd' := hd
  have ba' := ba
  refine LoadX.all (join_l bb) rfl ?_; conv => whnf
  repeat (first | (refine CondX.tt ?_; conv => whnf) | (refine CondX.ff ?_; conv => whnf))
  refine eIsZero' pb qb ?_; conv => whnf
  repeat (first | (refine CondX.tt ?_; conv => whnf) | (refine CondX.ff ?_; conv => whnf))
  refine CondX.dF (by omega) ?_; conv => whnf
  refine LoadX.all (join_l ba') rfl ?_; conv => whnf
  refine eU64_ok qa ?_; conv => whnf
  rw [if_pos (by omega)]
  refine CondX.dF (by omega) ?_; conv => whnf
  refine settleN_b (tk := 2) (st := 0) (x := 0) hE' hd' M hs (by omega) fun hm2 hd2 M2 => ?_; conv => whnf
  rw [show IntKind.u16.wrap (a : Int) = (a : Int) by rw [wrap_u16]; omega]
  have h7 := M.t7
  refine StoreX.jf hd2 M2.A.V.blk (1803 + t * 65 + 4) rfl (by omega) fun hd6 => ?_
  rw [eU_pc h7] at hd6 ⊢; conv => whnf
  have MJ := M2.jump (tk := 0) (at_ := a) (by omega)
  have eJ : jumpM (settleM m t 2 none 0) t 0 a = jumpM m t 2 a := by
    unfold jumpM settleM
    dsimp only
    rw [updN_same, updN_updN]; rfl
  have eK : ({ settleM m t 2 none 0 with fr := updN (settleM m t 2 none 0).fr t { (settleM m t 2 none 0).fr t with pc := a } } : MS) = jumpM m t 2 a := by
    unfold jumpM settleM
    dsimp only
    rw [updN_same, updN_updN]
  rw [eJ] at MJ
  rw [eK] at hd6 ⊢
  exact RetX.drop (h' := join hi (hput hm2 eb (fnv 27024 (eC (mC eb (jumpM m t 2 a)) v), 101))) (Ext.j2 hE' hd6 (Ext.refl _)) (hk _ MJ)
set_option maxRecDepth 100000 in
set_option maxHeartbeats 4000000 in
theorem jumpi_no {a b : Nat} (M : MA hi hm eb m t w sn v) (h0 : argM m t 0 = a) (h1 : argM m t 1 = b) (ho : opI (m.fr t).code (m.fr t).pc = 87) (hpc : (m.fr t).pc < 600) (hs : 2 ≤ (m.fr t).sp) (hb0 : b = 0)
    (hk : NoK hi eb m t 2 w sn v K) : CallX Hval.prog 194 [.pointer (some ⟨eb, 0, none⟩)] (join hi hm) K := by
  have hsp := M.f.sp
  obtain ⟨pa, qa⟩ := h0 ▸ argM_W M 0
  obtain ⟨pb, qb⟩ := h1 ▸ argM_W M 1
  refine CallX.of_xf T_ok Hval.func194 rfl (by kernel_rfl) (Nat.le_of_ble_eq_true rfl) ?_; conv => whnf
  refine running_ok M (Ext.refl _) ?_; conv => whnf
  repeat (first | (refine CondX.tt ?_; conv => whnf) | (refine CondX.ff ?_; conv => whnf))
  refine arg_okM (i := 0) M (Ext.refl _) (by decide) ?_
  rw [h0]; conv => whnf
  refine BoxX.wj M.A.V.dj fun n3 hd3 he3 => ?_; conv => whnf
  refine Ob.mk ⟨rfl, rfl⟩ ?_; conv => whnf
  refine StoreX.j (Nat.le_of_ble_eq_true rfl) ?_
  rw [setSeg_all (by rfl)]; conv => whnf
  refine arg_okM (i := 1) M (Ext.j2 (he3 _) (hd3 _) (Ext.refl hm)) (by decide) ?_
  rw [h1]; conv => whnf
  refine BoxX.wj (hd3 _) fun n4 hd4 he4 => ?_; conv => whnf
  refine Ob.mk ⟨rfl, rfl⟩ ?_; conv => whnf
  refine StoreX.j (Nat.le_of_ble_eq_true rfl) ?_
  rw [setSeg_all (by rfl)]; conv => whnf
  have hE := (he3 ((wc a).toArray.toList, 75)).trans (he4 ((wc b).toArray.toList, 75))
  have hd := hd4 ((wc b).toArray.toList, 75)
  have ba : hput (hput hi n3 ((wc a).toArray.toList, 75)) n4 ((wc b).toArray.toList, 75) n3 = some (wc a, 75) := he4 _ _ _ (hput_same ..)
  have bb : hput (hput hi n3 ((wc a).toArray.toList, 75)) n4 ((wc b).toArray.toList, 75) n4 = some (wc b, 75) := hput_same ..
  refine opcodeM_ok M (Ext.j2 hE hd (Ext.refl hm)) ?_
  rw [ho]; conv => whnf
  repeat (first | (refine CondX.tt ?_; conv => whnf) | (refine CondX.ff ?_; conv => whnf))
  refine LoadX.all (join_l bb) rfl ?_; conv => whnf
  repeat (first | (refine CondX.tt ?_; conv => whnf) | (refine CondX.ff ?_; conv => whnf))
  refine eIsZero' pb qb ?_; conv => whnf
  repeat (first | (refine CondX.tt ?_; conv => whnf) | (refine CondX.ff ?_; conv => whnf))
  refine CondX.dT (by omega) ?_; conv => whnf
  refine settleN_b (tk := 2) (st := 1) (x := 0) hE hd M hs (by omega) fun hm' hd' M' => ?_; conv => whnf
  exact RetX.drop (h' := join hi hm') (Ext.j2 hE hd' (Ext.refl _)) (hk hm' M')
end
end Go.Proofs.YgvalwGreat.X
