import Derived.Test.YgvalwGreatM3
set_option linter.unusedVariables false
set_option linter.unusedSimpArgs false
namespace Go.Proofs.YgvalwGreat.X
open Go

section
variable {hi hi0 hm h : Hp} {K : Value → Hp → Prop} {mc mc' : Nat → Value} {v : VS} {eb : Nat} {w : AW} {sn : List AW} {m : MS} {t : Nat}
theorem settleS_b {tk st : Nat} {x : Int} (he : Ext hi0 hi) (hd : Dj hi hm) (M : MA hi0 hm eb m t w sn v) (htk : tk ≤ (m.fr t).sp) (hroom : (m.fr t).sp - tk < 64) (hst : (m.fr t).pc + st < 2000) (hx : 0 ≤ x ∧ x < W)
    (hk : ∀ hm', Dj hi hm' → MA hi0 hm' eb (settleM m t tk (some x) st) t w sn v → K (.tuple #[]) (join hi hm')) : CallX Hval.prog 244 [.pointer (some ⟨eb, 0, none⟩), .pointer (some ⟨eb, 1803 + t * 65, none⟩), .int .u16 tk, .bool true, .agg (wc x).toArray, .int .u16 st] (join hi hm) K :=
  CallX.bx he hd (Q := fun y hm' => MA hi0 hm' eb (settleM m t tk (some x) st) t w sn v ∧ y = .tuple #[])
    (settle_some M htk hroom hst hx fun hm' M' => ⟨hm', rfl, M'.A.V.dj, M', rfl⟩) fun y hm' hd' ⟨M', h2⟩ => h2 ▸ hk hm' hd' M'
theorem settleN_b {tk st : Nat} {x : Int} (he : Ext hi0 hi) (hd : Dj hi hm) (M : MA hi0 hm eb m t w sn v) (htk : tk ≤ (m.fr t).sp) (hst : (m.fr t).pc + st < 2000)
    (hk : ∀ hm', Dj hi hm' → MA hi0 hm' eb (settleM m t tk none st) t w sn v → K (.tuple #[]) (join hi hm')) : CallX Hval.prog 244 [.pointer (some ⟨eb, 0, none⟩), .pointer (some ⟨eb, 1803 + t * 65, none⟩), .int .u16 tk, .bool false, .agg (wc x).toArray, .int .u16 st] (join hi hm) K :=
  CallX.bx he hd (Q := fun y hm' => MA hi0 hm' eb (settleM m t tk none st) t w sn v ∧ y = .tuple #[])
    (settle_none M htk hst fun hm' M' => ⟨hm', rfl, M'.A.V.dj, M', rfl⟩) fun y hm' hd' ⟨M', h2⟩ => h2 ▸ hk hm' hd' M'
theorem BoxX.wj {vs : List Value} {ty : TypeId} {KK : Nat → Hp → Prop} (hd : Dj hi hm) (hk : ∀ n, (∀ y, Dj (hput hi n y) hm) → (∀ y, Ext hi (hput hi n y)) → KK n (join (hput hi n (vs, ty)) hm)) : BoxX (join hi hm) ty vs KK :=
  BoxX.j hd fun n hin _ hd' _ => hk n (fun _ => hd'.hp) (fun _ => Ext.new hin)
theorem modI_bd2 {x y : Int} (h1 : 0 ≤ y) (h2 : y < W) : 0 ≤ modI x y ∧ modI x y < W := by
  have := W_pos
  unfold modI
  split
  · omega
  · have := Int.emod_nonneg x (b := y) (by omega)
    have := Int.emod_lt_of_pos x (b := y) (by omega)
    omega
theorem flagI_bd (b : Bool) : 0 ≤ flagI b ∧ flagI b < W := by
  have : (1 : Int) < W := by rw [W_val]; decide
  unfold flagI; split <;> omega
theorem emodW (x : Int) : 0 ≤ x % W ∧ x % W < W := ⟨Int.emod_nonneg _ (by have := W_pos; omega), Int.emod_lt_of_pos _ W_pos⟩
theorem sextI_bd {a b : Int} (h0 : 0 ≤ a) (h2 : 0 ≤ b) (h3 : b < W) : 0 ≤ sextI a b ∧ sextI a b < W := by
  unfold sextI
  split
  · rename_i ha
    have hk : 8 * a.toNat + 8 ≤ 256 := by omega
    have hp : (2 : Int) ^ (8 * a.toNat + 8) ≤ W := by
      have := pow2_mono hk
      have e : (2 : Int) ^ 256 = W := by rw [W_val]; decide
      rw [e] at this; exact this
    have hpp : (0 : Int) < 2 ^ (8 * a.toNat + 8) := Int.pow_pos (by decide)
    generalize (2 : Int) ^ (8 * a.toNat + 8) = p at hp hpp ⊢
    have q1 := Int.emod_nonneg b (b := p) (by omega)
    have q2 := Int.emod_lt_of_pos b (b := p) hpp
    split <;> omega
  · exact ⟨h2, h3⟩
theorem byteI_bd (a b : Int) : 0 ≤ byteI a b ∧ byteI a b < W := by
  have h : (256 : Int) < W := by rw [W_val]; decide
  unfold byteI
  split
  · generalize b / 256 ^ (31 - a.toNat) = q
    omega
  · omega
theorem shiftI_bd {o : Nat} {a b : Int} (h2 : 0 ≤ b) (h3 : b < W) : 0 ≤ shiftI o a b ∧ shiftI o a b < W := by
  have hp : (0 : Int) < 2 ^ (min a 256).toNat := Int.pow_pos (by decide)
  unfold shiftI
  generalize (2 : Int) ^ (min a 256).toNat = p at hp ⊢
  split
  · exact emodW _
  split
  · have q := div_bd (x := W - 1 - b) (y := p) (by omega) (by omega) (by omega)
    have := Int.ediv_le_self (a := W - 1 - b) p (by omega)
    omega
  · exact div_bd h2 h3 (by omega)
theorem aluI_bd {o : Nat} {a b c : Int} (pa : 0 ≤ a) (qa : a < W) (pb : 0 ≤ b) (qb : b < W) (pc : 0 ≤ c) (qc : c < W) : 0 ≤ aluI o a b c ∧ aluI o a b c < W := by
  have hW := W_pos
  have sa := signI_bd (s := bitI a 255) pa qa
  have sb := signI_bd (s := bitI b 255) pb qb
  unfold aluI
  by_cases g0 : o = 1
  · rw [if_pos g0]; exact emodW _
  rw [if_neg g0]
  by_cases g1 : o = 2
  · rw [if_pos g1]; exact emodW _
  rw [if_neg g1]
  by_cases g2 : o = 3
  · rw [if_pos g2]; exact emodW _
  rw [if_neg g2]
  by_cases g3 : o = 4
  · rw [if_pos g3]; exact div_bd pa qa pb
  rw [if_neg g3]
  by_cases g4 : o = 5
  · rw [if_pos g4]; have q := div_bd sa.1 sa.2 sb.1; exact signI_bd q.1 q.2
  rw [if_neg g4]
  by_cases g5 : o = 6
  · rw [if_pos g5]; exact modI_bd pa qa pb
  rw [if_neg g5]
  by_cases g6 : o = 7
  · rw [if_pos g6]; have q := modI_bd sa.1 sa.2 sb.1; exact signI_bd q.1 q.2
  rw [if_neg g6]
  by_cases g7 : o = 8
  · rw [if_pos g7]; exact modI_bd2 pc qc
  rw [if_neg g7]
  by_cases g8 : o = 9
  · rw [if_pos g8]; exact modI_bd2 pc qc
  rw [if_neg g8]
  by_cases g9 : o = 10
  · rw [if_pos g9]; exact emodW _
  rw [if_neg g9]
  by_cases g10 : o = 11
  · rw [if_pos g10]; exact sextI_bd pa pb qb
  rw [if_neg g10]
  by_cases g11 : o = 16
  · rw [if_pos g11]; exact flagI_bd _
  rw [if_neg g11]
  by_cases g12 : o = 17
  · rw [if_pos g12]; exact flagI_bd _
  rw [if_neg g12]
  by_cases g13 : o = 18
  · rw [if_pos g13]; exact flagI_bd _
  rw [if_neg g13]
  by_cases g14 : o = 19
  · rw [if_pos g14]; exact flagI_bd _
  rw [if_neg g14]
  by_cases g15 : o = 20
  · rw [if_pos g15]; exact flagI_bd _
  rw [if_neg g15]
  by_cases g16 : o = 21
  · rw [if_pos g16]; exact flagI_bd _
  rw [if_neg g16]
  by_cases g17 : o = 22 ∨ o = 23 ∨ o = 24 ∨ o = 25
  · rw [if_pos g17]; exact bitOp_bd pa qa pb qb
  rw [if_neg g17]
  by_cases g18 : o = 26
  · rw [if_pos g18]; exact byteI_bd a b
  rw [if_neg g18]
  by_cases g19 : o = 27 ∨ o = 28 ∨ o = 29
  · rw [if_pos g19]; exact shiftI_bd pb qb
  rw [if_neg g19]
  omega
theorem sub_alu {a b c : Int} : (a - b) % W = aluI 3 a b c := by
  show _ = (a + (W - b) % W) % W
  rw [Int.add_emod, Int.emod_emod_of_dvd _ (Int.dvd_refl W), ← Int.add_emod, show a + (W - b) = a - b + W by omega, Int.add_emod_right]
def ArK (hi : Hp) (eb : Nat) (m : MS) (t tk : Nat) (w : AW) (sn : List AW) (v : VS) (x : Int) (K : Value → Hp → Prop) : Prop := ∀ hm', MA hi hm' eb (settleM m t tk (some x) 1) t w sn v → K (.tuple #[]) (join hi hm')
set_option maxRecDepth 100000 in
set_option maxHeartbeats 4000000 in
theorem alu_1 {a b c : Nat} (M : MA hi hm eb m t w sn v) (h0 : argM m t 0 = a) (h1 : argM m t 1 = b) (h2 : argM m t 2 = c) (ho : opI (m.fr t).code (m.fr t).pc = 1) (hs : 2 ≤ (m.fr t).sp) (hpc : (m.fr t).pc < 600) (hk : ArK hi eb m t 2 w sn v (aluI 1 a b c) K) : CallX Hval.prog 184 [.pointer (some ⟨eb, 0, none⟩)] (join hi hm) K := by
  have hsp := M.f.sp
  obtain ⟨pa, qa⟩ := h0 ▸ argM_W M 0
  obtain ⟨pb, qb⟩ := h1 ▸ argM_W M 1
  obtain ⟨pc, qc⟩ := h2 ▸ argM_W M 2
  have hbd := aluI_bd (o := 1) pa qa pb qb pc qc
  refine CallX.of_xf T_ok Hval.func184 rfl (by kernel_rfl) (Nat.le_of_ble_eq_true rfl) ?_; conv => whnf
  refine running_ok M (Ext.refl _) ?_; conv => whnf
  repeat (first | (refine CondX.tt ?_; conv => whnf) | (refine CondX.ff ?_; conv => whnf))
  refine arg_okM (i := 0) M (Ext.refl _) (by decide) ?_
  rw [h0]; conv => whnf
  refine BoxX.wj M.A.V.dj fun n3 hd3 he3 => ?_; conv => whnf
  refine Ob.mk ⟨rfl, rfl⟩ ?_; conv => whnf
  refine StoreX.j (Nat.le_of_ble_eq_true rfl) ?_
  rw [setSeg_all (by rfl)]; conv => whnf
  refine arg_okM (i := 1) M (Ext.j2 (he3 _) (hd3 _) (Ext.refl hm)) (by decide) ?_
  rw [h1]; conv => whnf
  refine BoxX.wj (hd3 _) fun n4 hd4 he4 => ?_; conv => whnf
  refine Ob.mk ⟨rfl, rfl⟩ ?_; conv => whnf
  refine StoreX.j (Nat.le_of_ble_eq_true rfl) ?_
  rw [setSeg_all (by rfl)]; conv => whnf
  refine BoxX.wj (hd4 _) fun n5 hd5 he5 => ?_; conv => whnf
  refine Ob.mk ⟨rfl, rfl⟩ ?_; conv => whnf
  refine StoreX.j (Nat.le_of_ble_eq_true rfl) ?_
  rw [setSeg_all (by rfl)]; conv => whnf
  have hE := ((he3 ((wc a).toArray.toList, 75)).trans (he4 ((wc b).toArray.toList, 75))).trans (he5 ((wc 0).toArray.toList, 75))
  have hd := hd5 ((wc 0).toArray.toList, 75)
  have ba : hput (hput (hput hi n3 ((wc a).toArray.toList, 75)) n4 ((wc b).toArray.toList, 75)) n5 ((wc 0).toArray.toList, 75) n3 = some (wc a, 75) := he5 _ _ _ (he4 _ _ _ (hput_same ..))
  have bb : hput (hput (hput hi n3 ((wc a).toArray.toList, 75)) n4 ((wc b).toArray.toList, 75)) n5 ((wc 0).toArray.toList, 75) n4 = some (wc b, 75) := he5 _ _ _ (hput_same ..)
  refine opcodeM_ok M (Ext.j2 hE hd (Ext.refl hm)) ?_
  rw [ho]; conv => whnf
  repeat (first | (refine CondX.tt ?_; conv => whnf) | (refine CondX.ff ?_; conv => whnf))
  refine LoadX.all (join_l ba) rfl ?_; conv => whnf
  refine LoadX.all (join_l bb) rfl ?_; conv => whnf
  refine eAdd_ok pa qa pb qb ?_
  conv => whnf
  refine Ob.mk ⟨rfl, rfl⟩ ?_; conv => whnf
  refine StoreX.j (Nat.le_of_ble_eq_true rfl) ?_
  rw [setSeg_all (by rfl)]; conv => whnf
  refine LoadX.all (join_l (hput_same ..)) rfl ?_; conv => whnf
  refine settleS_b (tk := 2) (st := 1) (x := aluI 1 a b c) (((he3 _).trans (he4 _)).trans (he5 _)) (hd5 _) M hs (by omega) (by omega) hbd fun hm' hd' M' => ?_; conv => whnf
  exact RetX.drop (h' := join hi hm') (Ext.j2 (((he3 _).trans (he4 _)).trans (he5 _)) hd' (Ext.refl _)) (hk hm' M')
set_option maxRecDepth 100000 in
set_option maxHeartbeats 4000000 in
theorem alu_2 {a b c : Nat} (M : MA hi hm eb m t w sn v) (h0 : argM m t 0 = a) (h1 : argM m t 1 = b) (h2 : argM m t 2 = c) (ho : opI (m.fr t).code (m.fr t).pc = 2) (hs : 2 ≤ (m.fr t).sp) (hpc : (m.fr t).pc < 600) (hk : ArK hi eb m t 2 w sn v (aluI 2 a b c) K) : CallX Hval.prog 184 [.pointer (some ⟨eb, 0, none⟩)] (join hi hm) K := by
  have hsp := M.f.sp
  obtain ⟨pa, qa⟩ := h0 ▸ argM_W M 0
  obtain ⟨pb, qb⟩ := h1 ▸ argM_W M 1
  obtain ⟨pc, qc⟩ := h2 ▸ argM_W M 2
  have hbd := aluI_bd (o := 2) pa qa pb qb pc qc
  refine CallX.of_xf T_ok Hval.func184 rfl (by kernel_rfl) (Nat.le_of_ble_eq_true rfl) ?_; conv => whnf
  refine running_ok M (Ext.refl _) ?_; conv => whnf
  repeat (first | (refine CondX.tt ?_; conv => whnf) | (refine CondX.ff ?_; conv => whnf))
  refine arg_okM (i := 0) M (Ext.refl _) (by decide) ?_
  rw [h0]; conv => whnf
  refine BoxX.wj M.A.V.dj fun n3 hd3 he3 => ?_; conv => whnf
  refine Ob.mk ⟨rfl, rfl⟩ ?_; conv => whnf
  refine StoreX.j (Nat.le_of_ble_eq_true rfl) ?_
  rw [setSeg_all (by rfl)]; conv => whnf
  refine arg_okM (i := 1) M (Ext.j2 (he3 _) (hd3 _) (Ext.refl hm)) (by decide) ?_
  rw [h1]; conv => whnf
  refine BoxX.wj (hd3 _) fun n4 hd4 he4 => ?_; conv => whnf
  refine Ob.mk ⟨rfl, rfl⟩ ?_; conv => whnf
  refine StoreX.j (Nat.le_of_ble_eq_true rfl) ?_
  rw [setSeg_all (by rfl)]; conv => whnf
  refine BoxX.wj (hd4 _) fun n5 hd5 he5 => ?_; conv => whnf
  refine Ob.mk ⟨rfl, rfl⟩ ?_; conv => whnf
  refine StoreX.j (Nat.le_of_ble_eq_true rfl) ?_
  rw [setSeg_all (by rfl)]; conv => whnf
  have hE := ((he3 ((wc a).toArray.toList, 75)).trans (he4 ((wc b).toArray.toList, 75))).trans (he5 ((wc 0).toArray.toList, 75))
  have hd := hd5 ((wc 0).toArray.toList, 75)
  have ba : hput (hput (hput hi n3 ((wc a).toArray.toList, 75)) n4 ((wc b).toArray.toList, 75)) n5 ((wc 0).toArray.toList, 75) n3 = some (wc a, 75) := he5 _ _ _ (he4 _ _ _ (hput_same ..))
  have bb : hput (hput (hput hi n3 ((wc a).toArray.toList, 75)) n4 ((wc b).toArray.toList, 75)) n5 ((wc 0).toArray.toList, 75) n4 = some (wc b, 75) := he5 _ _ _ (hput_same ..)
  refine opcodeM_ok M (Ext.j2 hE hd (Ext.refl hm)) ?_
  rw [ho]; conv => whnf
  repeat (first | (refine CondX.tt ?_; conv => whnf) | (refine CondX.ff ?_; conv => whnf))
  refine LoadX.all (join_l ba) rfl ?_; conv => whnf
  refine LoadX.all (join_l bb) rfl ?_; conv => whnf
  refine eMul_ok pa qa pb qb ?_
  conv => whnf
  refine Ob.mk ⟨rfl, rfl⟩ ?_; conv => whnf
  refine StoreX.j (Nat.le_of_ble_eq_true rfl) ?_
  rw [setSeg_all (by rfl)]; conv => whnf
  refine LoadX.all (join_l (hput_same ..)) rfl ?_; conv => whnf
  refine settleS_b (tk := 2) (st := 1) (x := aluI 2 a b c) (((he3 _).trans (he4 _)).trans (he5 _)) (hd5 _) M hs (by omega) (by omega) hbd fun hm' hd' M' => ?_; conv => whnf
  exact RetX.drop (h' := join hi hm') (Ext.j2 (((he3 _).trans (he4 _)).trans (he5 _)) hd' (Ext.refl _)) (hk hm' M')
set_option maxRecDepth 100000 in
set_option maxHeartbeats 4000000 in
theorem alu_3 {a b c : Nat} (M : MA hi hm eb m t w sn v) (h0 : argM m t 0 = a) (h1 : argM m t 1 = b) (h2 : argM m t 2 = c) (ho : opI (m.fr t).code (m.fr t).pc = 3) (hs : 2 ≤ (m.fr t).sp) (hpc : (m.fr t).pc < 600) (hk : ArK hi eb m t 2 w sn v (aluI 3 a b c) K) : CallX Hval.prog 184 [.pointer (some ⟨eb, 0, none⟩)] (join hi hm) K := by
  have hsp := M.f.sp
  obtain ⟨pa, qa⟩ := h0 ▸ argM_W M 0
  obtain ⟨pb, qb⟩ := h1 ▸ argM_W M 1
  obtain ⟨pc, qc⟩ := h2 ▸ argM_W M 2
  have hbd := aluI_bd (o := 3) pa qa pb qb pc qc
  refine CallX.of_xf T_ok Hval.func184 rfl (by kernel_rfl) (Nat.le_of_ble_eq_true rfl) ?_; conv => whnf
  refine running_ok M (Ext.refl _) ?_; conv => whnf
  repeat (first | (refine CondX.tt ?_; conv => whnf) | (refine CondX.ff ?_; conv => whnf))
  refine arg_okM (i := 0) M (Ext.refl _) (by decide) ?_
  rw [h0]; conv => whnf
  refine BoxX.wj M.A.V.dj fun n3 hd3 he3 => ?_; conv => whnf
  refine Ob.mk ⟨rfl, rfl⟩ ?_; conv => whnf
  refine StoreX.j (Nat.le_of_ble_eq_true rfl) ?_
  rw [setSeg_all (by rfl)]; conv => whnf
  refine arg_okM (i := 1) M (Ext.j2 (he3 _) (hd3 _) (Ext.refl hm)) (by decide) ?_
  rw [h1]; conv => whnf
  refine BoxX.wj (hd3 _) fun n4 hd4 he4 => ?_; conv => whnf
  refine Ob.mk ⟨rfl, rfl⟩ ?_; conv => whnf
  refine StoreX.j (Nat.le_of_ble_eq_true rfl) ?_
  rw [setSeg_all (by rfl)]; conv => whnf
  refine BoxX.wj (hd4 _) fun n5 hd5 he5 => ?_; conv => whnf
  refine Ob.mk ⟨rfl, rfl⟩ ?_; conv => whnf
  refine StoreX.j (Nat.le_of_ble_eq_true rfl) ?_
  rw [setSeg_all (by rfl)]; conv => whnf
  have hE := ((he3 ((wc a).toArray.toList, 75)).trans (he4 ((wc b).toArray.toList, 75))).trans (he5 ((wc 0).toArray.toList, 75))
  have hd := hd5 ((wc 0).toArray.toList, 75)
  have ba : hput (hput (hput hi n3 ((wc a).toArray.toList, 75)) n4 ((wc b).toArray.toList, 75)) n5 ((wc 0).toArray.toList, 75) n3 = some (wc a, 75) := he5 _ _ _ (he4 _ _ _ (hput_same ..))
  have bb : hput (hput (hput hi n3 ((wc a).toArray.toList, 75)) n4 ((wc b).toArray.toList, 75)) n5 ((wc 0).toArray.toList, 75) n4 = some (wc b, 75) := he5 _ _ _ (hput_same ..)
  refine opcodeM_ok M (Ext.j2 hE hd (Ext.refl hm)) ?_
  rw [ho]; conv => whnf
  repeat (first | (refine CondX.tt ?_; conv => whnf) | (refine CondX.ff ?_; conv => whnf))
  refine LoadX.all (join_l ba) rfl ?_; conv => whnf
  refine LoadX.all (join_l bb) rfl ?_; conv => whnf
  refine eSub_ok pa qa pb qb ?_
  rw [sub_alu (c := c)]
  conv => whnf
  refine Ob.mk ⟨rfl, rfl⟩ ?_; conv => whnf
  refine StoreX.j (Nat.le_of_ble_eq_true rfl) ?_
  rw [setSeg_all (by rfl)]; conv => whnf
  refine LoadX.all (join_l (hput_same ..)) rfl ?_; conv => whnf
  refine settleS_b (tk := 2) (st := 1) (x := aluI 3 a b c) (((he3 _).trans (he4 _)).trans (he5 _)) (hd5 _) M hs (by omega) (by omega) hbd fun hm' hd' M' => ?_; conv => whnf
  exact RetX.drop (h' := join hi hm') (Ext.j2 (((he3 _).trans (he4 _)).trans (he5 _)) hd' (Ext.refl _)) (hk hm' M')
set_option maxRecDepth 100000 in
set_option maxHeartbeats 4000000 in
theorem alu_4 {a b c : Nat} (M : MA hi hm eb m t w sn v) (h0 : argM m t 0 = a) (h1 : argM m t 1 = b) (h2 : argM m t 2 = c) (ho : opI (m.fr t).code (m.fr t).pc = 4) (hs : 2 ≤ (m.fr t).sp) (hpc : (m.fr t).pc < 600) (hk : ArK hi eb m t 2 w sn v (aluI 4 a b c) K) : CallX Hval.prog 184 [.pointer (some ⟨eb, 0, none⟩)] (join hi hm) K := by
  have hsp := M.f.sp
  obtain ⟨pa, qa⟩ := h0 ▸ argM_W M 0
  obtain ⟨pb, qb⟩ := h1 ▸ argM_W M 1
  obtain ⟨pc, qc⟩ := h2 ▸ argM_W M 2
  have hbd := aluI_bd (o := 4) pa qa pb qb pc qc
  refine CallX.of_xf T_ok Hval.func184 rfl (by kernel_rfl) (Nat.le_of_ble_eq_true rfl) ?_; conv => whnf
  refine running_ok M (Ext.refl _) ?_; conv => whnf
  repeat (first | (refine CondX.tt ?_; conv => whnf) | (refine CondX.ff ?_; conv => whnf))
  refine arg_okM (i := 0) M (Ext.refl _) (by decide) ?_
  rw [h0]; conv => whnf
  refine BoxX.wj M.A.V.dj fun n3 hd3 he3 => ?_; conv => whnf
  refine Ob.mk ⟨rfl, rfl⟩ ?_; conv => whnf
  refine StoreX.j (Nat.le_of_ble_eq_true rfl) ?_
  rw [setSeg_all (by rfl)]; conv => whnf
  refine arg_okM (i := 1) M (Ext.j2 (he3 _) (hd3 _) (Ext.refl hm)) (by decide) ?_
  rw [h1]; conv => whnf
  refine BoxX.wj (hd3 _) fun n4 hd4 he4 => ?_; conv => whnf
  refine Ob.mk ⟨rfl, rfl⟩ ?_; conv => whnf
  refine StoreX.j (Nat.le_of_ble_eq_true rfl) ?_
  rw [setSeg_all (by rfl)]; conv => whnf
  refine BoxX.wj (hd4 _) fun n5 hd5 he5 => ?_; conv => whnf
  refine Ob.mk ⟨rfl, rfl⟩ ?_; conv => whnf
  refine StoreX.j (Nat.le_of_ble_eq_true rfl) ?_
  rw [setSeg_all (by rfl)]; conv => whnf
  have hE := ((he3 ((wc a).toArray.toList, 75)).trans (he4 ((wc b).toArray.toList, 75))).trans (he5 ((wc 0).toArray.toList, 75))
  have hd := hd5 ((wc 0).toArray.toList, 75)
  have ba : hput (hput (hput hi n3 ((wc a).toArray.toList, 75)) n4 ((wc b).toArray.toList, 75)) n5 ((wc 0).toArray.toList, 75) n3 = some (wc a, 75) := he5 _ _ _ (he4 _ _ _ (hput_same ..))
  have bb : hput (hput (hput hi n3 ((wc a).toArray.toList, 75)) n4 ((wc b).toArray.toList, 75)) n5 ((wc 0).toArray.toList, 75) n4 = some (wc b, 75) := he5 _ _ _ (hput_same ..)
  refine opcodeM_ok M (Ext.j2 hE hd (Ext.refl hm)) ?_
  rw [ho]; conv => whnf
  repeat (first | (refine CondX.tt ?_; conv => whnf) | (refine CondX.ff ?_; conv => whnf))
  refine LoadX.all (join_l ba) rfl ?_; conv => whnf
  refine LoadX.all (join_l bb) rfl ?_; conv => whnf
  refine eDiv_ok pa qa pb qb ?_
  conv => whnf
  refine Ob.mk ⟨rfl, rfl⟩ ?_; conv => whnf
  refine StoreX.j (Nat.le_of_ble_eq_true rfl) ?_
  rw [setSeg_all (by rfl)]; conv => whnf
  refine LoadX.all (join_l (hput_same ..)) rfl ?_; conv => whnf
  refine settleS_b (tk := 2) (st := 1) (x := aluI 4 a b c) (((he3 _).trans (he4 _)).trans (he5 _)) (hd5 _) M hs (by omega) (by omega) hbd fun hm' hd' M' => ?_; conv => whnf
  exact RetX.drop (h' := join hi hm') (Ext.j2 (((he3 _).trans (he4 _)).trans (he5 _)) hd' (Ext.refl _)) (hk hm' M')
set_option maxRecDepth 100000 in
set_option maxHeartbeats 4000000 in
theorem alu_5 {a b c : Nat} (M : MA hi hm eb m t w sn v) (h0 : argM m t 0 = a) (h1 : argM m t 1 = b) (h2 : argM m t 2 = c) (ho : opI (m.fr t).code (m.fr t).pc = 5) (hs : 2 ≤ (m.fr t).sp) (hpc : (m.fr t).pc < 600) (hk : ArK hi eb m t 2 w sn v (aluI 5 a b c) K) : CallX Hval.prog 184 [.pointer (some ⟨eb, 0, none⟩)] (join hi hm) K := by
  have hsp := M.f.sp
  obtain ⟨pa, qa⟩ := h0 ▸ argM_W M 0
  obtain ⟨pb, qb⟩ := h1 ▸ argM_W M 1
  obtain ⟨pc, qc⟩ := h2 ▸ argM_W M 2
  have hbd := aluI_bd (o := 5) pa qa pb qb pc qc
  refine CallX.of_xf T_ok Hval.func184 rfl (by kernel_rfl) (Nat.le_of_ble_eq_true rfl) ?_; conv => whnf
  refine running_ok M (Ext.refl _) ?_; conv => whnf
  repeat (first | (refine CondX.tt ?_; conv => whnf) | (refine CondX.ff ?_; conv => whnf))
  refine arg_okM (i := 0) M (Ext.refl _) (by decide) ?_
  rw [h0]; conv => whnf
  refine BoxX.wj M.A.V.dj fun n3 hd3 he3 => ?_; conv => whnf
  refine Ob.mk ⟨rfl, rfl⟩ ?_; conv => whnf
  refine StoreX.j (Nat.le_of_ble_eq_true rfl) ?_
  rw [setSeg_all (by rfl)]; conv => whnf
  refine arg_okM (i := 1) M (Ext.j2 (he3 _) (hd3 _) (Ext.refl hm)) (by decide) ?_
  rw [h1]; conv => whnf
  refine BoxX.wj (hd3 _) fun n4 hd4 he4 => ?_; conv => whnf
  refine Ob.mk ⟨rfl, rfl⟩ ?_; conv => whnf
  refine StoreX.j (Nat.le_of_ble_eq_true rfl) ?_
  rw [setSeg_all (by rfl)]; conv => whnf
  refine BoxX.wj (hd4 _) fun n5 hd5 he5 => ?_; conv => whnf
  refine Ob.mk ⟨rfl, rfl⟩ ?_; conv => whnf
  refine StoreX.j (Nat.le_of_ble_eq_true rfl) ?_
  rw [setSeg_all (by rfl)]; conv => whnf
  have hE := ((he3 ((wc a).toArray.toList, 75)).trans (he4 ((wc b).toArray.toList, 75))).trans (he5 ((wc 0).toArray.toList, 75))
  have hd := hd5 ((wc 0).toArray.toList, 75)
  have ba : hput (hput (hput hi n3 ((wc a).toArray.toList, 75)) n4 ((wc b).toArray.toList, 75)) n5 ((wc 0).toArray.toList, 75) n3 = some (wc a, 75) := he5 _ _ _ (he4 _ _ _ (hput_same ..))
  have bb : hput (hput (hput hi n3 ((wc a).toArray.toList, 75)) n4 ((wc b).toArray.toList, 75)) n5 ((wc 0).toArray.toList, 75) n4 = some (wc b, 75) := he5 _ _ _ (hput_same ..)
  refine opcodeM_ok M (Ext.j2 hE hd (Ext.refl hm)) ?_
  rw [ho]; conv => whnf
  repeat (first | (refine CondX.tt ?_; conv => whnf) | (refine CondX.ff ?_; conv => whnf))
  refine LoadX.all (join_l ba) rfl ?_; conv => whnf
  refine LoadX.all (join_l bb) rfl ?_; conv => whnf
  refine eSDiv_ok pa qa pb qb ?_
  conv => whnf
  refine Ob.mk ⟨rfl, rfl⟩ ?_; conv => whnf
  refine StoreX.j (Nat.le_of_ble_eq_true rfl) ?_
  rw [setSeg_all (by rfl)]; conv => whnf
  refine LoadX.all (join_l (hput_same ..)) rfl ?_; conv => whnf
  refine settleS_b (tk := 2) (st := 1) (x := aluI 5 a b c) (((he3 _).trans (he4 _)).trans (he5 _)) (hd5 _) M hs (by omega) (by omega) hbd fun hm' hd' M' => ?_; conv => whnf
  exact RetX.drop (h' := join hi hm') (Ext.j2 (((he3 _).trans (he4 _)).trans (he5 _)) hd' (Ext.refl _)) (hk hm' M')
set_option maxRecDepth 100000 in
set_option maxHeartbeats 4000000 in
theorem alu_6 {a b c : Nat} (M : MA hi hm eb m t w sn v) (h0 : argM m t 0 = a) (h1 : argM m t 1 = b) (h2 : argM m t 2 = c) (ho : opI (m.fr t).code (m.fr t).pc = 6) (hs : 2 ≤ (m.fr t).sp) (hpc : (m.fr t).pc < 600) (hk : ArK hi eb m t 2 w sn v (aluI 6 a b c) K) : CallX Hval.prog 184 [.pointer (some ⟨eb, 0, none⟩)] (join hi hm) K := by
  have hsp := M.f.sp
  obtain ⟨pa, qa⟩ := h0 ▸ argM_W M 0
  obtain ⟨pb, qb⟩ := h1 ▸ argM_W M 1
  obtain ⟨pc, qc⟩ := h2 ▸ argM_W M 2
  have hbd := aluI_bd (o := 6) pa qa pb qb pc qc
  refine CallX.of_xf T_ok Hval.func184 rfl (by kernel_rfl) (Nat.le_of_ble_eq_true rfl) ?_; conv => whnf
  refine running_ok M (Ext.refl _) ?_; conv => whnf
  repeat (first | (refine CondX.tt ?_; conv => whnf) | (refine CondX.ff ?_; conv => whnf))
  refine arg_okM (i := 0) M (Ext.refl _) (by decide) ?_
  rw [h0]; conv => whnf
  refine BoxX.wj M.A.V.dj fun n3 hd3 he3 => ?_; conv => whnf
  refine Ob.mk ⟨rfl, rfl⟩ ?_; conv => whnf
  refine StoreX.j (Nat.le_of_ble_eq_true rfl) ?_
  rw [setSeg_all (by rfl)]; conv => whnf
  refine arg_okM (i := 1) M (Ext.j2 (he3 _) (hd3 _) (Ext.refl hm)) (by decide) ?_
  rw [h1]; conv => whnf
  refine BoxX.wj (hd3 _) fun n4 hd4 he4 => ?_; conv => whnf
  refine Ob.mk ⟨rfl, rfl⟩ ?_; conv => whnf
  refine StoreX.j (Nat.le_of_ble_eq_true rfl) ?_
  rw [setSeg_all (by rfl)]; conv => whnf
  refine BoxX.wj (hd4 _) fun n5 hd5 he5 => ?_; conv => whnf
  refine Ob.mk ⟨rfl, rfl⟩ ?_; conv => whnf
  refine StoreX.j (Nat.le_of_ble_eq_true rfl) ?_
  rw [setSeg_all (by rfl)]; conv => whnf
  have hE := ((he3 ((wc a).toArray.toList, 75)).trans (he4 ((wc b).toArray.toList, 75))).trans (he5 ((wc 0).toArray.toList, 75))
  have hd := hd5 ((wc 0).toArray.toList, 75)
  have ba : hput (hput (hput hi n3 ((wc a).toArray.toList, 75)) n4 ((wc b).toArray.toList, 75)) n5 ((wc 0).toArray.toList, 75) n3 = some (wc a, 75) := he5 _ _ _ (he4 _ _ _ (hput_same ..))
  have bb : hput (hput (hput hi n3 ((wc a).toArray.toList, 75)) n4 ((wc b).toArray.toList, 75)) n5 ((wc 0).toArray.toList, 75) n4 = some (wc b, 75) := he5 _ _ _ (hput_same ..)
  refine opcodeM_ok M (Ext.j2 hE hd (Ext.refl hm)) ?_
  rw [ho]; conv => whnf
  repeat (first | (refine CondX.tt ?_; conv => whnf) | (refine CondX.ff ?_; conv => whnf))
  refine LoadX.all (join_l ba) rfl ?_; conv => whnf
  refine LoadX.all (join_l bb) rfl ?_; conv => whnf
  refine eMod_ok pa qa pb qb ?_
  conv => whnf
  refine Ob.mk ⟨rfl, rfl⟩ ?_; conv => whnf
  refine StoreX.j (Nat.le_of_ble_eq_true rfl) ?_
  rw [setSeg_all (by rfl)]; conv => whnf
  refine LoadX.all (join_l (hput_same ..)) rfl ?_; conv => whnf
  refine settleS_b (tk := 2) (st := 1) (x := aluI 6 a b c) (((he3 _).trans (he4 _)).trans (he5 _)) (hd5 _) M hs (by omega) (by omega) hbd fun hm' hd' M' => ?_; conv => whnf
  exact RetX.drop (h' := join hi hm') (Ext.j2 (((he3 _).trans (he4 _)).trans (he5 _)) hd' (Ext.refl _)) (hk hm' M')
set_option maxRecDepth 100000 in
set_option maxHeartbeats 4000000 in
theorem alu_7 {a b c : Nat} (M : MA hi hm eb m t w sn v) (h0 : argM m t 0 = a) (h1 : argM m t 1 = b) (h2 : argM m t 2 = c) (ho : opI (m.fr t).code (m.fr t).pc = 7) (hs : 2 ≤ (m.fr t).sp) (hpc : (m.fr t).pc < 600) (hk : ArK hi eb m t 2 w sn v (aluI 7 a b c) K) : CallX Hval.prog 184 [.pointer (some ⟨eb, 0, none⟩)] (join hi hm) K := by
  have hsp := M.f.sp
  obtain ⟨pa, qa⟩ := h0 ▸ argM_W M 0
  obtain ⟨pb, qb⟩ := h1 ▸ argM_W M 1
  obtain ⟨pc, qc⟩ := h2 ▸ argM_W M 2
  have hbd := aluI_bd (o := 7) pa qa pb qb pc qc
  refine CallX.of_xf T_ok Hval.func184 rfl (by kernel_rfl) (Nat.le_of_ble_eq_true rfl) ?_; conv => whnf
  refine running_ok M (Ext.refl _) ?_; conv => whnf
  repeat (first | (refine CondX.tt ?_; conv => whnf) | (refine CondX.ff ?_; conv => whnf))
  refine arg_okM (i := 0) M (Ext.refl _) (by decide) ?_
  rw [h0]; conv => whnf
  refine BoxX.wj M.A.V.dj fun n3 hd3 he3 => ?_; conv => whnf
  refine Ob.mk ⟨rfl, rfl⟩ ?_; conv => whnf
  refine StoreX.j (Nat.le_of_ble_eq_true rfl) ?_
  rw [setSeg_all (by rfl)]; conv => whnf
  refine arg_okM (i := 1) M (Ext.j2 (he3 _) (hd3 _) (Ext.refl hm)) (by decide) ?_
  rw [h1]; conv => whnf
  refine BoxX.wj (hd3 _) fun n4 hd4 he4 => ?_; conv => whnf
  refine Ob.mk ⟨rfl, rfl⟩ ?_; conv => whnf
  refine StoreX.j (Nat.le_of_ble_eq_true rfl) ?_
  rw [setSeg_all (by rfl)]; conv => whnf
  refine BoxX.wj (hd4 _) fun n5 hd5 he5 => ?_; conv => whnf
  refine Ob.mk ⟨rfl, rfl⟩ ?_; conv => whnf
  refine StoreX.j (Nat.le_of_ble_eq_true rfl) ?_
  rw [setSeg_all (by rfl)]; conv => whnf
  have hE := ((he3 ((wc a).toArray.toList, 75)).trans (he4 ((wc b).toArray.toList, 75))).trans (he5 ((wc 0).toArray.toList, 75))
  have hd := hd5 ((wc 0).toArray.toList, 75)
  have ba : hput (hput (hput hi n3 ((wc a).toArray.toList, 75)) n4 ((wc b).toArray.toList, 75)) n5 ((wc 0).toArray.toList, 75) n3 = some (wc a, 75) := he5 _ _ _ (he4 _ _ _ (hput_same ..))
  have bb : hput (hput (hput hi n3 ((wc a).toArray.toList, 75)) n4 ((wc b).toArray.toList, 75)) n5 ((wc 0).toArray.toList, 75) n4 = some (wc b, 75) := he5 _ _ _ (hput_same ..)
  refine opcodeM_ok M (Ext.j2 hE hd (Ext.refl hm)) ?_
  rw [ho]; conv => whnf
  repeat (first | (refine CondX.tt ?_; conv => whnf) | (refine CondX.ff ?_; conv => whnf))
  refine LoadX.all (join_l ba) rfl ?_; conv => whnf
  refine LoadX.all (join_l bb) rfl ?_; conv => whnf
  refine eSMod_ok pa qa pb qb ?_
  conv => whnf
  refine Ob.mk ⟨rfl, rfl⟩ ?_; conv => whnf
  refine StoreX.j (Nat.le_of_ble_eq_true rfl) ?_
  rw [setSeg_all (by rfl)]; conv => whnf
  refine LoadX.all (join_l (hput_same ..)) rfl ?_; conv => whnf
  refine settleS_b (tk := 2) (st := 1) (x := aluI 7 a b c) (((he3 _).trans (he4 _)).trans (he5 _)) (hd5 _) M hs (by omega) (by omega) hbd fun hm' hd' M' => ?_; conv => whnf
  exact RetX.drop (h' := join hi hm') (Ext.j2 (((he3 _).trans (he4 _)).trans (he5 _)) hd' (Ext.refl _)) (hk hm' M')
set_option maxRecDepth 100000 in
set_option maxHeartbeats 4000000 in
theorem alu_8 {a b c : Nat} (M : MA hi hm eb m t w sn v) (h0 : argM m t 0 = a) (h1 : argM m t 1 = b) (h2 : argM m t 2 = c) (ho : opI (m.fr t).code (m.fr t).pc = 8) (hs : 3 ≤ (m.fr t).sp) (hpc : (m.fr t).pc < 600) (hk : ArK hi eb m t 3 w sn v (aluI 8 a b c) K) : CallX Hval.prog 184 [.pointer (some ⟨eb, 0, none⟩)] (join hi hm) K := by
  have hsp := M.f.sp
  obtain ⟨pa, qa⟩ := h0 ▸ argM_W M 0
  obtain ⟨pb, qb⟩ := h1 ▸ argM_W M 1
  obtain ⟨pc, qc⟩ := h2 ▸ argM_W M 2
  have hbd := aluI_bd (o := 8) pa qa pb qb pc qc
  refine CallX.of_xf T_ok Hval.func184 rfl (by kernel_rfl) (Nat.le_of_ble_eq_true rfl) ?_; conv => whnf
  refine running_ok M (Ext.refl _) ?_; conv => whnf
  repeat (first | (refine CondX.tt ?_; conv => whnf) | (refine CondX.ff ?_; conv => whnf))
  refine arg_okM (i := 0) M (Ext.refl _) (by decide) ?_
  rw [h0]; conv => whnf
  refine BoxX.wj M.A.V.dj fun n3 hd3 he3 => ?_; conv => whnf
  refine Ob.mk ⟨rfl, rfl⟩ ?_; conv => whnf
  refine StoreX.j (Nat.le_of_ble_eq_true rfl) ?_
  rw [setSeg_all (by rfl)]; conv => whnf
  refine arg_okM (i := 1) M (Ext.j2 (he3 _) (hd3 _) (Ext.refl hm)) (by decide) ?_
  rw [h1]; conv => whnf
  refine BoxX.wj (hd3 _) fun n4 hd4 he4 => ?_; conv => whnf
  refine Ob.mk ⟨rfl, rfl⟩ ?_; conv => whnf
  refine StoreX.j (Nat.le_of_ble_eq_true rfl) ?_
  rw [setSeg_all (by rfl)]; conv => whnf
  refine BoxX.wj (hd4 _) fun n5 hd5 he5 => ?_; conv => whnf
  refine Ob.mk ⟨rfl, rfl⟩ ?_; conv => whnf
  refine StoreX.j (Nat.le_of_ble_eq_true rfl) ?_
  rw [setSeg_all (by rfl)]; conv => whnf
  have hE := ((he3 ((wc a).toArray.toList, 75)).trans (he4 ((wc b).toArray.toList, 75))).trans (he5 ((wc 0).toArray.toList, 75))
  have hd := hd5 ((wc 0).toArray.toList, 75)
  have ba : hput (hput (hput hi n3 ((wc a).toArray.toList, 75)) n4 ((wc b).toArray.toList, 75)) n5 ((wc 0).toArray.toList, 75) n3 = some (wc a, 75) := he5 _ _ _ (he4 _ _ _ (hput_same ..))
  have bb : hput (hput (hput hi n3 ((wc a).toArray.toList, 75)) n4 ((wc b).toArray.toList, 75)) n5 ((wc 0).toArray.toList, 75) n4 = some (wc b, 75) := he5 _ _ _ (hput_same ..)
  refine opcodeM_ok M (Ext.j2 hE hd (Ext.refl hm)) ?_
  rw [ho]; conv => whnf
  repeat (first | (refine CondX.tt ?_; conv => whnf) | (refine CondX.ff ?_; conv => whnf))
  refine DrawX.go T_ok hM Hval.func184 (tb := dr184) rfl (by kernel_rfl) ?_; conv => whnf
  refine LoadX.all (join_l ba) rfl ?_; conv => whnf
  refine LoadX.all (join_l bb) rfl ?_; conv => whnf
  refine arg_okM (i := 2) M (Ext.j2 hE hd (Ext.refl hm)) (by decide) ?_
  rw [h2]; conv => whnf
  repeat (refine Ob.mk (by first | exact ldV_all (join_l ba) rfl | exact ldV_all (join_l bb) rfl) ?_; conv => whnf)
  refine eAddMod_ok pa qa pb qb pc qc ?_
  conv => whnf
  refine Ob.mk ⟨rfl, rfl⟩ ?_; conv => whnf
  refine StoreX.j (Nat.le_of_ble_eq_true rfl) ?_
  rw [setSeg_all (by rfl)]; conv => whnf
  refine LoadX.all (join_l (hput_same ..)) rfl ?_; conv => whnf
  refine settleS_b (tk := 3) (st := 1) (x := aluI 8 a b c) (((he3 _).trans (he4 _)).trans (he5 _)) (hd5 _) M hs (by omega) (by omega) hbd fun hm' hd' M' => ?_; conv => whnf
  exact RetX.drop (h' := join hi hm') (Ext.j2 (((he3 _).trans (he4 _)).trans (he5 _)) hd' (Ext.refl _)) (hk hm' M')
set_option maxRecDepth 100000 in
set_option maxHeartbeats 4000000 in
theorem alu_9 {a b c : Nat} (M : MA hi hm eb m t w sn v) (h0 : argM m t 0 = a) (h1 : argM m t 1 = b) (h2 : argM m t 2 = c) (ho : opI (m.fr t).code (m.fr t).pc = 9) (hs : 3 ≤ (m.fr t).sp) (hpc : (m.fr t).pc < 600) (hk : ArK hi eb m t 3 w sn v (aluI 9 a b c) K) : CallX Hval.prog 184 [.pointer (some ⟨eb, 0, none⟩)] (join hi hm) K := by
  have hsp := M.f.sp
  obtain ⟨pa, qa⟩ := h0 ▸ argM_W M 0
  obtain ⟨pb, qb⟩ := h1 ▸ argM_W M 1
  obtain ⟨pc, qc⟩ := h2 ▸ argM_W M 2
  have hbd := aluI_bd (o := 9) pa qa pb qb pc qc
  refine CallX.of_xf T_ok Hval.func184 rfl (by kernel_rfl) (Nat.le_of_ble_eq_true rfl) ?_; conv => whnf
  refine running_ok M (Ext.refl _) ?_; conv => whnf
  repeat (first | (refine CondX.tt ?_; conv => whnf) | (refine CondX.ff ?_; conv => whnf))
  refine arg_okM (i := 0) M (Ext.refl _) (by decide) ?_
  rw [h0]; conv => whnf
  refine BoxX.wj M.A.V.dj fun n3 hd3 he3 => ?_; conv => whnf
  refine Ob.mk ⟨rfl, rfl⟩ ?_; conv => whnf
  refine StoreX.j (Nat.le_of_ble_eq_true rfl) ?_
  rw [setSeg_all (by rfl)]; conv => whnf
  refine arg_okM (i := 1) M (Ext.j2 (he3 _) (hd3 _) (Ext.refl hm)) (by decide) ?_
  rw [h1]; conv => whnf
  refine BoxX.wj (hd3 _) fun n4 hd4 he4 => ?_; conv => whnf
  refine Ob.mk ⟨rfl, rfl⟩ ?_; conv => whnf
  refine StoreX.j (Nat.le_of_ble_eq_true rfl) ?_
  rw [setSeg_all (by rfl)]; conv => whnf
  refine BoxX.wj (hd4 _) fun n5 hd5 he5 => ?_; conv => whnf
  refine Ob.mk ⟨rfl, rfl⟩ ?_; conv => whnf
  refine StoreX.j (Nat.le_of_ble_eq_true rfl) ?_
  rw [setSeg_all (by rfl)]; conv => whnf
  have hE := ((he3 ((wc a).toArray.toList, 75)).trans (he4 ((wc b).toArray.toList, 75))).trans (he5 ((wc 0).toArray.toList, 75))
  have hd := hd5 ((wc 0).toArray.toList, 75)
  have ba : hput (hput (hput hi n3 ((wc a).toArray.toList, 75)) n4 ((wc b).toArray.toList, 75)) n5 ((wc 0).toArray.toList, 75) n3 = some (wc a, 75) := he5 _ _ _ (he4 _ _ _ (hput_same ..))
  have bb : hput (hput (hput hi n3 ((wc a).toArray.toList, 75)) n4 ((wc b).toArray.toList, 75)) n5 ((wc 0).toArray.toList, 75) n4 = some (wc b, 75) := he5 _ _ _ (hput_same ..)
  refine opcodeM_ok M (Ext.j2 hE hd (Ext.refl hm)) ?_
  rw [ho]; conv => whnf
  repeat (first | (refine CondX.tt ?_; conv => whnf) | (refine CondX.ff ?_; conv => whnf))
  refine DrawX.go T_ok hM Hval.func184 (tb := dr184) rfl (by kernel_rfl) ?_; conv => whnf
  refine LoadX.all (join_l ba) rfl ?_; conv => whnf
  refine LoadX.all (join_l bb) rfl ?_; conv => whnf
  refine arg_okM (i := 2) M (Ext.j2 hE hd (Ext.refl hm)) (by decide) ?_
  rw [h2]; conv => whnf
  repeat (refine Ob.mk (by first | exact ldV_all (join_l ba) rfl | exact ldV_all (join_l bb) rfl) ?_; conv => whnf)
  refine eMulMod_ok pa qa pb qb pc qc ?_
  conv => whnf
  refine Ob.mk ⟨rfl, rfl⟩ ?_; conv => whnf
  refine StoreX.j (Nat.le_of_ble_eq_true rfl) ?_
  rw [setSeg_all (by rfl)]; conv => whnf
  refine LoadX.all (join_l (hput_same ..)) rfl ?_; conv => whnf
  refine settleS_b (tk := 3) (st := 1) (x := aluI 9 a b c) (((he3 _).trans (he4 _)).trans (he5 _)) (hd5 _) M hs (by omega) (by omega) hbd fun hm' hd' M' => ?_; conv => whnf
  exact RetX.drop (h' := join hi hm') (Ext.j2 (((he3 _).trans (he4 _)).trans (he5 _)) hd' (Ext.refl _)) (hk hm' M')
set_option maxRecDepth 100000 in
set_option maxHeartbeats 4000000 in
theorem alu_10 {a b c : Nat} (M : MA hi hm eb m t w sn v) (h0 : argM m t 0 = a) (h1 : argM m t 1 = b) (h2 : argM m t 2 = c) (ho : opI (m.fr t).code (m.fr t).pc = 10) (hs : 2 ≤ (m.fr t).sp) (hpc : (m.fr t).pc < 600) (hk : ArK hi eb m t 2 w sn v (aluI 10 a b c) K) : CallX Hval.prog 184 [.pointer (some ⟨eb, 0, none⟩)] (join hi hm) K := by
  have hsp := M.f.sp
  obtain ⟨pa, qa⟩ := h0 ▸ argM_W M 0
  obtain ⟨pb, qb⟩ := h1 ▸ argM_W M 1
  obtain ⟨pc, qc⟩ := h2 ▸ argM_W M 2
  have hbd := aluI_bd (o := 10) pa qa pb qb pc qc
  refine CallX.of_xf T_ok Hval.func184 rfl (by kernel_rfl) (Nat.le_of_ble_eq_true rfl) ?_; conv => whnf
  refine running_ok M (Ext.refl _) ?_; conv => whnf
  repeat (first | (refine CondX.tt ?_; conv => whnf) | (refine CondX.ff ?_; conv => whnf))
  refine arg_okM (i := 0) M (Ext.refl _) (by decide) ?_
  rw [h0]; conv => whnf
  refine BoxX.wj M.A.V.dj fun n3 hd3 he3 => ?_; conv => whnf
  refine Ob.mk ⟨rfl, rfl⟩ ?_; conv => whnf
  refine StoreX.j (Nat.le_of_ble_eq_true rfl) ?_
  rw [setSeg_all (by rfl)]; conv => whnf
  refine arg_okM (i := 1) M (Ext.j2 (he3 _) (hd3 _) (Ext.refl hm)) (by decide) ?_
  rw [h1]; conv => whnf
  refine BoxX.wj (hd3 _) fun n4 hd4 he4 => ?_; conv => whnf
  refine Ob.mk ⟨rfl, rfl⟩ ?_; conv => whnf
  refine StoreX.j (Nat.le_of_ble_eq_true rfl) ?_
  rw [setSeg_all (by rfl)]; conv => whnf
  refine BoxX.wj (hd4 _) fun n5 hd5 he5 => ?_; conv => whnf
  refine Ob.mk ⟨rfl, rfl⟩ ?_; conv => whnf
  refine StoreX.j (Nat.le_of_ble_eq_true rfl) ?_
  rw [setSeg_all (by rfl)]; conv => whnf
  have hE := ((he3 ((wc a).toArray.toList, 75)).trans (he4 ((wc b).toArray.toList, 75))).trans (he5 ((wc 0).toArray.toList, 75))
  have hd := hd5 ((wc 0).toArray.toList, 75)
  have ba : hput (hput (hput hi n3 ((wc a).toArray.toList, 75)) n4 ((wc b).toArray.toList, 75)) n5 ((wc 0).toArray.toList, 75) n3 = some (wc a, 75) := he5 _ _ _ (he4 _ _ _ (hput_same ..))
  have bb : hput (hput (hput hi n3 ((wc a).toArray.toList, 75)) n4 ((wc b).toArray.toList, 75)) n5 ((wc 0).toArray.toList, 75) n4 = some (wc b, 75) := he5 _ _ _ (hput_same ..)
  refine opcodeM_ok M (Ext.j2 hE hd (Ext.refl hm)) ?_
  rw [ho]; conv => whnf
  repeat (first | (refine CondX.tt ?_; conv => whnf) | (refine CondX.ff ?_; conv => whnf))
  refine LoadX.all (join_l ba) rfl ?_; conv => whnf
  refine LoadX.all (join_l bb) rfl ?_; conv => whnf
  refine eExp_ok pa qa qb ?_
  conv => whnf
  refine Ob.mk ⟨rfl, rfl⟩ ?_; conv => whnf
  refine StoreX.j (Nat.le_of_ble_eq_true rfl) ?_
  rw [setSeg_all (by rfl)]; conv => whnf
  refine LoadX.all (join_l (hput_same ..)) rfl ?_; conv => whnf
  refine settleS_b (tk := 2) (st := 1) (x := aluI 10 a b c) (((he3 _).trans (he4 _)).trans (he5 _)) (hd5 _) M hs (by omega) (by omega) hbd fun hm' hd' M' => ?_; conv => whnf
  exact RetX.drop (h' := join hi hm') (Ext.j2 (((he3 _).trans (he4 _)).trans (he5 _)) hd' (Ext.refl _)) (hk hm' M')
set_option maxRecDepth 100000 in
set_option maxHeartbeats 4000000 in
theorem alu_11 {a b c : Nat} (M : MA hi hm eb m t w sn v) (h0 : argM m t 0 = a) (h1 : argM m t 1 = b) (h2 : argM m t 2 = c) (ho : opI (m.fr t).code (m.fr t).pc = 11) (hs : 2 ≤ (m.fr t).sp) (hpc : (m.fr t).pc < 600) (hk : ArK hi eb m t 2 w sn v (aluI 11 a b c) K) : CallX Hval.prog 184 [.pointer (some ⟨eb, 0, none⟩)] (join hi hm) K := by
  have hsp := M.f.sp
  obtain ⟨pa, qa⟩ := h0 ▸ argM_W M 0
  obtain ⟨pb, qb⟩ := h1 ▸ argM_W M 1
  obtain ⟨pc, qc⟩ := h2 ▸ argM_W M 2
  have hbd := aluI_bd (o := 11) pa qa pb qb pc qc
  refine CallX.of_xf T_ok Hval.func184 rfl (by kernel_rfl) (Nat.le_of_ble_eq_true rfl) ?_; conv => whnf
  refine running_ok M (Ext.refl _) ?_; conv => whnf
  repeat (first | (refine CondX.tt ?_; conv => whnf) | (refine CondX.ff ?_; conv => whnf))
  refine arg_okM (i := 0) M (Ext.refl _) (by decide) ?_
  rw [h0]; conv => whnf
  refine BoxX.wj M.A.V.dj fun n3 hd3 he3 => ?_; conv => whnf
  refine Ob.mk ⟨rfl, rfl⟩ ?_; conv => whnf
  refine StoreX.j (Nat.le_of_ble_eq_true rfl) ?_
  rw [setSeg_all (by rfl)]; conv => whnf
  refine arg_okM (i := 1) M (Ext.j2 (he3 _) (hd3 _) (Ext.refl hm)) (by decide) ?_
  rw [h1]; conv => whnf
  refine BoxX.wj (hd3 _) fun n4 hd4 he4 => ?_; conv => whnf
  refine Ob.mk ⟨rfl, rfl⟩ ?_; conv => whnf
  refine StoreX.j (Nat.le_of_ble_eq_true rfl) ?_
  rw [setSeg_all (by rfl)]; conv => whnf
  refine BoxX.wj (hd4 _) fun n5 hd5 he5 => ?_; conv => whnf
  refine Ob.mk ⟨rfl, rfl⟩ ?_; conv => whnf
  refine StoreX.j (Nat.le_of_ble_eq_true rfl) ?_
  rw [setSeg_all (by rfl)]; conv => whnf
  have hE := ((he3 ((wc a).toArray.toList, 75)).trans (he4 ((wc b).toArray.toList, 75))).trans (he5 ((wc 0).toArray.toList, 75))
  have hd := hd5 ((wc 0).toArray.toList, 75)
  have ba : hput (hput (hput hi n3 ((wc a).toArray.toList, 75)) n4 ((wc b).toArray.toList, 75)) n5 ((wc 0).toArray.toList, 75) n3 = some (wc a, 75) := he5 _ _ _ (he4 _ _ _ (hput_same ..))
  have bb : hput (hput (hput hi n3 ((wc a).toArray.toList, 75)) n4 ((wc b).toArray.toList, 75)) n5 ((wc 0).toArray.toList, 75) n4 = some (wc b, 75) := he5 _ _ _ (hput_same ..)
  refine opcodeM_ok M (Ext.j2 hE hd (Ext.refl hm)) ?_
  rw [ho]; conv => whnf
  repeat (first | (refine CondX.tt ?_; conv => whnf) | (refine CondX.ff ?_; conv => whnf))
  refine LoadX.all (join_l ba) rfl ?_; conv => whnf
  refine LoadX.all (join_l bb) rfl ?_; conv => whnf
  refine eSignExtend_ok qa qb ?_
  conv => whnf
  refine Ob.mk ⟨rfl, rfl⟩ ?_; conv => whnf
  refine StoreX.j (Nat.le_of_ble_eq_true rfl) ?_
  rw [setSeg_all (by rfl)]; conv => whnf
  refine LoadX.all (join_l (hput_same ..)) rfl ?_; conv => whnf
  refine settleS_b (tk := 2) (st := 1) (x := aluI 11 a b c) (((he3 _).trans (he4 _)).trans (he5 _)) (hd5 _) M hs (by omega) (by omega) hbd fun hm' hd' M' => ?_; conv => whnf
  exact RetX.drop (h' := join hi hm') (Ext.j2 (((he3 _).trans (he4 _)).trans (he5 _)) hd' (Ext.refl _)) (hk hm' M')
set_option maxRecDepth 100000 in
set_option maxHeartbeats 4000000 in
theorem alu_16 {a b c : Nat} (M : MA hi hm eb m t w sn v) (h0 : argM m t 0 = a) (h1 : argM m t 1 = b) (h2 : argM m t 2 = c) (ho : opI (m.fr t).code (m.fr t).pc = 16) (hs : 2 ≤ (m.fr t).sp) (hpc : (m.fr t).pc < 600) (hk : ArK hi eb m t 2 w sn v (aluI 16 a b c) K) : CallX Hval.prog 185 [.pointer (some ⟨eb, 0, none⟩)] (join hi hm) K := by
  have hsp := M.f.sp
  obtain ⟨pa, qa⟩ := h0 ▸ argM_W M 0
  obtain ⟨pb, qb⟩ := h1 ▸ argM_W M 1
  obtain ⟨pc, qc⟩ := h2 ▸ argM_W M 2
  have hbd := aluI_bd (o := 16) pa qa pb qb pc qc
  refine CallX.of_xf T_ok Hval.func185 rfl (by kernel_rfl) (Nat.le_of_ble_eq_true rfl) ?_; conv => whnf
  refine running_ok M (Ext.refl _) ?_; conv => whnf
  repeat (first | (refine CondX.tt ?_; conv => whnf) | (refine CondX.ff ?_; conv => whnf))
  refine arg_okM (i := 0) M (Ext.refl _) (by decide) ?_
  rw [h0]; conv => whnf
  refine BoxX.wj M.A.V.dj fun n3 hd3 he3 => ?_; conv => whnf
  refine Ob.mk ⟨rfl, rfl⟩ ?_; conv => whnf
  refine StoreX.j (Nat.le_of_ble_eq_true rfl) ?_
  rw [setSeg_all (by rfl)]; conv => whnf
  refine arg_okM (i := 1) M (Ext.j2 (he3 _) (hd3 _) (Ext.refl hm)) (by decide) ?_
  rw [h1]; conv => whnf
  refine BoxX.wj (hd3 _) fun n4 hd4 he4 => ?_; conv => whnf
  refine Ob.mk ⟨rfl, rfl⟩ ?_; conv => whnf
  refine StoreX.j (Nat.le_of_ble_eq_true rfl) ?_
  rw [setSeg_all (by rfl)]; conv => whnf
  have hE := (he3 ((wc a).toArray.toList, 75)).trans (he4 ((wc b).toArray.toList, 75))
  have hd := hd4 ((wc b).toArray.toList, 75)
  have ba : hput (hput hi n3 ((wc a).toArray.toList, 75)) n4 ((wc b).toArray.toList, 75) n3 = some (wc a, 75) := he4 _ _ _ (hput_same ..)
  have bb : hput (hput hi n3 ((wc a).toArray.toList, 75)) n4 ((wc b).toArray.toList, 75) n4 = some (wc b, 75) := hput_same ..
  refine opcodeM_ok M (Ext.j2 hE hd (Ext.refl hm)) ?_
  rw [ho]; conv => whnf
  repeat (first | (refine CondX.tt ?_; conv => whnf) | (refine CondX.ff ?_; conv => whnf))
  refine LoadX.all (join_l ba) rfl ?_; conv => whnf
  refine LoadX.all (join_l bb) rfl ?_; conv => whnf
  refine eLt_ok pa qa pb qb ?_; conv => whnf
  refine eFlag_ok ?_; conv => whnf
  refine settleS_b (tk := 2) (st := 1) (x := aluI 16 a b c) hE hd M hs (by omega) (by omega) hbd fun hm' hd' M' => ?_; conv => whnf
  exact RetX.drop (h' := join hi hm') (Ext.j2 hE hd' (Ext.refl _)) (hk hm' M')
set_option maxRecDepth 100000 in
set_option maxHeartbeats 4000000 in
theorem alu_17 {a b c : Nat} (M : MA hi hm eb m t w sn v) (h0 : argM m t 0 = a) (h1 : argM m t 1 = b) (h2 : argM m t 2 = c) (ho : opI (m.fr t).code (m.fr t).pc = 17) (hs : 2 ≤ (m.fr t).sp) (hpc : (m.fr t).pc < 600) (hk : ArK hi eb m t 2 w sn v (aluI 17 a b c) K) : CallX Hval.prog 185 [.pointer (some ⟨eb, 0, none⟩)] (join hi hm) K := by
  have hsp := M.f.sp
  obtain ⟨pa, qa⟩ := h0 ▸ argM_W M 0
  obtain ⟨pb, qb⟩ := h1 ▸ argM_W M 1
  obtain ⟨pc, qc⟩ := h2 ▸ argM_W M 2
  have hbd := aluI_bd (o := 17) pa qa pb qb pc qc
  refine CallX.of_xf T_ok Hval.func185 rfl (by kernel_rfl) (Nat.le_of_ble_eq_true rfl) ?_; conv => whnf
  refine running_ok M (Ext.refl _) ?_; conv => whnf
  repeat (first | (refine CondX.tt ?_; conv => whnf) | (refine CondX.ff ?_; conv => whnf))
  refine arg_okM (i := 0) M (Ext.refl _) (by decide) ?_
  rw [h0]; conv => whnf
  refine BoxX.wj M.A.V.dj fun n3 hd3 he3 => ?_; conv => whnf
  refine Ob.mk ⟨rfl, rfl⟩ ?_; conv => whnf
  refine StoreX.j (Nat.le_of_ble_eq_true rfl) ?_
  rw [setSeg_all (by rfl)]; conv => whnf
  refine arg_okM (i := 1) M (Ext.j2 (he3 _) (hd3 _) (Ext.refl hm)) (by decide) ?_
  rw [h1]; conv => whnf
  refine BoxX.wj (hd3 _) fun n4 hd4 he4 => ?_; conv => whnf
  refine Ob.mk ⟨rfl, rfl⟩ ?_; conv => whnf
  refine StoreX.j (Nat.le_of_ble_eq_true rfl) ?_
  rw [setSeg_all (by rfl)]; conv => whnf
  have hE := (he3 ((wc a).toArray.toList, 75)).trans (he4 ((wc b).toArray.toList, 75))
  have hd := hd4 ((wc b).toArray.toList, 75)
  have ba : hput (hput hi n3 ((wc a).toArray.toList, 75)) n4 ((wc b).toArray.toList, 75) n3 = some (wc a, 75) := he4 _ _ _ (hput_same ..)
  have bb : hput (hput hi n3 ((wc a).toArray.toList, 75)) n4 ((wc b).toArray.toList, 75) n4 = some (wc b, 75) := hput_same ..
  refine opcodeM_ok M (Ext.j2 hE hd (Ext.refl hm)) ?_
  rw [ho]; conv => whnf
  repeat (first | (refine CondX.tt ?_; conv => whnf) | (refine CondX.ff ?_; conv => whnf))
  refine LoadX.all (join_l ba) rfl ?_; conv => whnf
  refine LoadX.all (join_l bb) rfl ?_; conv => whnf
  refine eGt_ok pa qa pb qb ?_; conv => whnf
  refine eFlag_ok ?_; conv => whnf
  refine settleS_b (tk := 2) (st := 1) (x := aluI 17 a b c) hE hd M hs (by omega) (by omega) hbd fun hm' hd' M' => ?_; conv => whnf
  exact RetX.drop (h' := join hi hm') (Ext.j2 hE hd' (Ext.refl _)) (hk hm' M')
set_option maxRecDepth 100000 in
set_option maxHeartbeats 4000000 in
theorem alu_18 {a b c : Nat} (M : MA hi hm eb m t w sn v) (h0 : argM m t 0 = a) (h1 : argM m t 1 = b) (h2 : argM m t 2 = c) (ho : opI (m.fr t).code (m.fr t).pc = 18) (hs : 2 ≤ (m.fr t).sp) (hpc : (m.fr t).pc < 600) (hk : ArK hi eb m t 2 w sn v (aluI 18 a b c) K) : CallX Hval.prog 185 [.pointer (some ⟨eb, 0, none⟩)] (join hi hm) K := by
  have hsp := M.f.sp
  obtain ⟨pa, qa⟩ := h0 ▸ argM_W M 0
  obtain ⟨pb, qb⟩ := h1 ▸ argM_W M 1
  obtain ⟨pc, qc⟩ := h2 ▸ argM_W M 2
  have hbd := aluI_bd (o := 18) pa qa pb qb pc qc
  refine CallX.of_xf T_ok Hval.func185 rfl (by kernel_rfl) (Nat.le_of_ble_eq_true rfl) ?_; conv => whnf
  refine running_ok M (Ext.refl _) ?_; conv => whnf
  repeat (first | (refine CondX.tt ?_; conv => whnf) | (refine CondX.ff ?_; conv => whnf))
  refine arg_okM (i := 0) M (Ext.refl _) (by decide) ?_
  rw [h0]; conv => whnf
  refine BoxX.wj M.A.V.dj fun n3 hd3 he3 => ?_; conv => whnf
  refine Ob.mk ⟨rfl, rfl⟩ ?_; conv => whnf
  refine StoreX.j (Nat.le_of_ble_eq_true rfl) ?_
  rw [setSeg_all (by rfl)]; conv => whnf
  refine arg_okM (i := 1) M (Ext.j2 (he3 _) (hd3 _) (Ext.refl hm)) (by decide) ?_
  rw [h1]; conv => whnf
  refine BoxX.wj (hd3 _) fun n4 hd4 he4 => ?_; conv => whnf
  refine Ob.mk ⟨rfl, rfl⟩ ?_; conv => whnf
  refine StoreX.j (Nat.le_of_ble_eq_true rfl) ?_
  rw [setSeg_all (by rfl)]; conv => whnf
  have hE := (he3 ((wc a).toArray.toList, 75)).trans (he4 ((wc b).toArray.toList, 75))
  have hd := hd4 ((wc b).toArray.toList, 75)
  have ba : hput (hput hi n3 ((wc a).toArray.toList, 75)) n4 ((wc b).toArray.toList, 75) n3 = some (wc a, 75) := he4 _ _ _ (hput_same ..)
  have bb : hput (hput hi n3 ((wc a).toArray.toList, 75)) n4 ((wc b).toArray.toList, 75) n4 = some (wc b, 75) := hput_same ..
  refine opcodeM_ok M (Ext.j2 hE hd (Ext.refl hm)) ?_
  rw [ho]; conv => whnf
  repeat (first | (refine CondX.tt ?_; conv => whnf) | (refine CondX.ff ?_; conv => whnf))
  refine LoadX.all (join_l ba) rfl ?_; conv => whnf
  refine LoadX.all (join_l bb) rfl ?_; conv => whnf
  refine eSlt_ok qa qb ?_; conv => whnf
  refine eFlag_ok ?_; conv => whnf
  refine settleS_b (tk := 2) (st := 1) (x := aluI 18 a b c) hE hd M hs (by omega) (by omega) hbd fun hm' hd' M' => ?_; conv => whnf
  exact RetX.drop (h' := join hi hm') (Ext.j2 hE hd' (Ext.refl _)) (hk hm' M')
set_option maxRecDepth 100000 in
set_option maxHeartbeats 4000000 in
theorem alu_19 {a b c : Nat} (M : MA hi hm eb m t w sn v) (h0 : argM m t 0 = a) (h1 : argM m t 1 = b) (h2 : argM m t 2 = c) (ho : opI (m.fr t).code (m.fr t).pc = 19) (hs : 2 ≤ (m.fr t).sp) (hpc : (m.fr t).pc < 600) (hk : ArK hi eb m t 2 w sn v (aluI 19 a b c) K) : CallX Hval.prog 185 [.pointer (some ⟨eb, 0, none⟩)] (join hi hm) K := by
  have hsp := M.f.sp
  obtain ⟨pa, qa⟩ := h0 ▸ argM_W M 0
  obtain ⟨pb, qb⟩ := h1 ▸ argM_W M 1
  obtain ⟨pc, qc⟩ := h2 ▸ argM_W M 2
  have hbd := aluI_bd (o := 19) pa qa pb qb pc qc
  refine CallX.of_xf T_ok Hval.func185 rfl (by kernel_rfl) (Nat.le_of_ble_eq_true rfl) ?_; conv => whnf
  refine running_ok M (Ext.refl _) ?_; conv => whnf
  repeat (first | (refine CondX.tt ?_; conv => whnf) | (refine CondX.ff ?_; conv => whnf))
  refine arg_okM (i := 0) M (Ext.refl _) (by decide) ?_
  rw [h0]; conv => whnf
  refine BoxX.wj M.A.V.dj fun n3 hd3 he3 => ?_; conv => whnf
  refine Ob.mk ⟨rfl, rfl⟩ ?_; conv => whnf
  refine StoreX.j (Nat.le_of_ble_eq_true rfl) ?_
  rw [setSeg_all (by rfl)]; conv => whnf
  refine arg_okM (i := 1) M (Ext.j2 (he3 _) (hd3 _) (Ext.refl hm)) (by decide) ?_
  rw [h1]; conv => whnf
  refine BoxX.wj (hd3 _) fun n4 hd4 he4 => ?_; conv => whnf
  refine Ob.mk ⟨rfl, rfl⟩ ?_; conv => whnf
  refine StoreX.j (Nat.le_of_ble_eq_true rfl) ?_
  rw [setSeg_all (by rfl)]; conv => whnf
  have hE := (he3 ((wc a).toArray.toList, 75)).trans (he4 ((wc b).toArray.toList, 75))
  have hd := hd4 ((wc b).toArray.toList, 75)
  have ba : hput (hput hi n3 ((wc a).toArray.toList, 75)) n4 ((wc b).toArray.toList, 75) n3 = some (wc a, 75) := he4 _ _ _ (hput_same ..)
  have bb : hput (hput hi n3 ((wc a).toArray.toList, 75)) n4 ((wc b).toArray.toList, 75) n4 = some (wc b, 75) := hput_same ..
  refine opcodeM_ok M (Ext.j2 hE hd (Ext.refl hm)) ?_
  rw [ho]; conv => whnf
  repeat (first | (refine CondX.tt ?_; conv => whnf) | (refine CondX.ff ?_; conv => whnf))
  refine LoadX.all (join_l ba) rfl ?_; conv => whnf
  refine LoadX.all (join_l bb) rfl ?_; conv => whnf
  refine eSgt_ok qa qb ?_; conv => whnf
  refine eFlag_ok ?_; conv => whnf
  refine settleS_b (tk := 2) (st := 1) (x := aluI 19 a b c) hE hd M hs (by omega) (by omega) hbd fun hm' hd' M' => ?_; conv => whnf
  exact RetX.drop (h' := join hi hm') (Ext.j2 hE hd' (Ext.refl _)) (hk hm' M')
set_option maxRecDepth 100000 in
set_option maxHeartbeats 4000000 in
theorem alu_20 {a b c : Nat} (M : MA hi hm eb m t w sn v) (h0 : argM m t 0 = a) (h1 : argM m t 1 = b) (h2 : argM m t 2 = c) (ho : opI (m.fr t).code (m.fr t).pc = 20) (hs : 2 ≤ (m.fr t).sp) (hpc : (m.fr t).pc < 600) (hk : ArK hi eb m t 2 w sn v (aluI 20 a b c) K) : CallX Hval.prog 185 [.pointer (some ⟨eb, 0, none⟩)] (join hi hm) K := by
  have hsp := M.f.sp
  obtain ⟨pa, qa⟩ := h0 ▸ argM_W M 0
  obtain ⟨pb, qb⟩ := h1 ▸ argM_W M 1
  obtain ⟨pc, qc⟩ := h2 ▸ argM_W M 2
  have hbd := aluI_bd (o := 20) pa qa pb qb pc qc
  refine CallX.of_xf T_ok Hval.func185 rfl (by kernel_rfl) (Nat.le_of_ble_eq_true rfl) ?_; conv => whnf
  refine running_ok M (Ext.refl _) ?_; conv => whnf
  repeat (first | (refine CondX.tt ?_; conv => whnf) | (refine CondX.ff ?_; conv => whnf))
  refine arg_okM (i := 0) M (Ext.refl _) (by decide) ?_
  rw [h0]; conv => whnf
  refine BoxX.wj M.A.V.dj fun n3 hd3 he3 => ?_; conv => whnf
  refine Ob.mk ⟨rfl, rfl⟩ ?_; conv => whnf
  refine StoreX.j (Nat.le_of_ble_eq_true rfl) ?_
  rw [setSeg_all (by rfl)]; conv => whnf
  refine arg_okM (i := 1) M (Ext.j2 (he3 _) (hd3 _) (Ext.refl hm)) (by decide) ?_
  rw [h1]; conv => whnf
  refine BoxX.wj (hd3 _) fun n4 hd4 he4 => ?_; conv => whnf
  refine Ob.mk ⟨rfl, rfl⟩ ?_; conv => whnf
  refine StoreX.j (Nat.le_of_ble_eq_true rfl) ?_
  rw [setSeg_all (by rfl)]; conv => whnf
  have hE := (he3 ((wc a).toArray.toList, 75)).trans (he4 ((wc b).toArray.toList, 75))
  have hd := hd4 ((wc b).toArray.toList, 75)
  have ba : hput (hput hi n3 ((wc a).toArray.toList, 75)) n4 ((wc b).toArray.toList, 75) n3 = some (wc a, 75) := he4 _ _ _ (hput_same ..)
  have bb : hput (hput hi n3 ((wc a).toArray.toList, 75)) n4 ((wc b).toArray.toList, 75) n4 = some (wc b, 75) := hput_same ..
  refine opcodeM_ok M (Ext.j2 hE hd (Ext.refl hm)) ?_
  rw [ho]; conv => whnf
  repeat (first | (refine CondX.tt ?_; conv => whnf) | (refine CondX.ff ?_; conv => whnf))
  refine LoadX.all (join_l ba) rfl ?_; conv => whnf
  refine LoadX.all (join_l bb) rfl ?_; conv => whnf
  refine Ob.mk ⟨rfl, rfl, rfl, rfl⟩ ?_; conv => whnf
  rw [show eqCells (wc (a : Int)).toArray.toList (wc (b : Int)).toArray.toList = decide ((a : Int) = b) from eqCells_wc pa qa pb qb]
  refine eFlag_ok ?_; conv => whnf
  refine settleS_b (tk := 2) (st := 1) (x := aluI 20 a b c) hE hd M hs (by omega) (by omega) hbd fun hm' hd' M' => ?_; conv => whnf
  exact RetX.drop (h' := join hi hm') (Ext.j2 hE hd' (Ext.refl _)) (hk hm' M')
set_option maxRecDepth 100000 in
set_option maxHeartbeats 4000000 in
theorem alu_21 {a b c : Nat} (M : MA hi hm eb m t w sn v) (h0 : argM m t 0 = a) (h1 : argM m t 1 = b) (h2 : argM m t 2 = c) (ho : opI (m.fr t).code (m.fr t).pc = 21) (hs : 1 ≤ (m.fr t).sp) (hpc : (m.fr t).pc < 600) (hk : ArK hi eb m t 1 w sn v (aluI 21 a b c) K) : CallX Hval.prog 185 [.pointer (some ⟨eb, 0, none⟩)] (join hi hm) K := by
  have hsp := M.f.sp
  obtain ⟨pa, qa⟩ := h0 ▸ argM_W M 0
  obtain ⟨pb, qb⟩ := h1 ▸ argM_W M 1
  obtain ⟨pc, qc⟩ := h2 ▸ argM_W M 2
  have hbd := aluI_bd (o := 21) pa qa pb qb pc qc
  refine CallX.of_xf T_ok Hval.func185 rfl (by kernel_rfl) (Nat.le_of_ble_eq_true rfl) ?_; conv => whnf
  refine running_ok M (Ext.refl _) ?_; conv => whnf
  repeat (first | (refine CondX.tt ?_; conv => whnf) | (refine CondX.ff ?_; conv => whnf))
  refine arg_okM (i := 0) M (Ext.refl _) (by decide) ?_
  rw [h0]; conv => whnf
  refine BoxX.wj M.A.V.dj fun n3 hd3 he3 => ?_; conv => whnf
  refine Ob.mk ⟨rfl, rfl⟩ ?_; conv => whnf
  refine StoreX.j (Nat.le_of_ble_eq_true rfl) ?_
  rw [setSeg_all (by rfl)]; conv => whnf
  refine arg_okM (i := 1) M (Ext.j2 (he3 _) (hd3 _) (Ext.refl hm)) (by decide) ?_
  rw [h1]; conv => whnf
  refine BoxX.wj (hd3 _) fun n4 hd4 he4 => ?_; conv => whnf
  refine Ob.mk ⟨rfl, rfl⟩ ?_; conv => whnf
  refine StoreX.j (Nat.le_of_ble_eq_true rfl) ?_
  rw [setSeg_all (by rfl)]; conv => whnf
  have hE := (he3 ((wc a).toArray.toList, 75)).trans (he4 ((wc b).toArray.toList, 75))
  have hd := hd4 ((wc b).toArray.toList, 75)
  have ba : hput (hput hi n3 ((wc a).toArray.toList, 75)) n4 ((wc b).toArray.toList, 75) n3 = some (wc a, 75) := he4 _ _ _ (hput_same ..)
  have bb : hput (hput hi n3 ((wc a).toArray.toList, 75)) n4 ((wc b).toArray.toList, 75) n4 = some (wc b, 75) := hput_same ..
  refine opcodeM_ok M (Ext.j2 hE hd (Ext.refl hm)) ?_
  rw [ho]; conv => whnf
  repeat (first | (refine CondX.tt ?_; conv => whnf) | (refine CondX.ff ?_; conv => whnf))
  refine LoadX.all (join_l ba) rfl ?_; conv => whnf
  refine eIsZero' pa qa ?_; conv => whnf
  refine eFlag_ok ?_; conv => whnf
  refine settleS_b (tk := 1) (st := 1) (x := aluI 21 a b c) hE hd M hs (by omega) (by omega) hbd fun hm' hd' M' => ?_; conv => whnf
  exact RetX.drop (h' := join hi hm') (Ext.j2 hE hd' (Ext.refl _)) (hk hm' M')
set_option maxRecDepth 100000 in
set_option maxHeartbeats 4000000 in
theorem alu_22 {a b c : Nat} (M : MA hi hm eb m t w sn v) (h0 : argM m t 0 = a) (h1 : argM m t 1 = b) (h2 : argM m t 2 = c) (ho : opI (m.fr t).code (m.fr t).pc = 22) (hs : 2 ≤ (m.fr t).sp) (hpc : (m.fr t).pc < 600) (hk : ArK hi eb m t 2 w sn v (aluI 22 a b c) K) : CallX Hval.prog 186 [.pointer (some ⟨eb, 0, none⟩)] (join hi hm) K := by
  have hsp := M.f.sp
  obtain ⟨pa, qa⟩ := h0 ▸ argM_W M 0
  obtain ⟨pb, qb⟩ := h1 ▸ argM_W M 1
  obtain ⟨pc, qc⟩ := h2 ▸ argM_W M 2
  have hbd := aluI_bd (o := 22) pa qa pb qb pc qc
  refine CallX.of_xf T_ok Hval.func186 rfl (by kernel_rfl) (Nat.le_of_ble_eq_true rfl) ?_; conv => whnf
  refine running_ok M (Ext.refl _) ?_; conv => whnf
  repeat (first | (refine CondX.tt ?_; conv => whnf) | (refine CondX.ff ?_; conv => whnf))
  refine arg_okM (i := 0) M (Ext.refl _) (by decide) ?_
  rw [h0]; conv => whnf
  refine BoxX.wj M.A.V.dj fun n3 hd3 he3 => ?_; conv => whnf
  refine Ob.mk ⟨rfl, rfl⟩ ?_; conv => whnf
  refine StoreX.j (Nat.le_of_ble_eq_true rfl) ?_
  rw [setSeg_all (by rfl)]; conv => whnf
  refine arg_okM (i := 1) M (Ext.j2 (he3 _) (hd3 _) (Ext.refl hm)) (by decide) ?_
  rw [h1]; conv => whnf
  refine BoxX.wj (hd3 _) fun n4 hd4 he4 => ?_; conv => whnf
  refine Ob.mk ⟨rfl, rfl⟩ ?_; conv => whnf
  refine StoreX.j (Nat.le_of_ble_eq_true rfl) ?_
  rw [setSeg_all (by rfl)]; conv => whnf
  refine BoxX.wj (hd4 _) fun n5 hd5 he5 => ?_; conv => whnf
  refine Ob.mk ⟨rfl, rfl⟩ ?_; conv => whnf
  refine StoreX.j (Nat.le_of_ble_eq_true rfl) ?_
  rw [setSeg_all (by rfl)]; conv => whnf
  have hE := ((he3 ((wc a).toArray.toList, 75)).trans (he4 ((wc b).toArray.toList, 75))).trans (he5 ((wc 0).toArray.toList, 75))
  have hd := hd5 ((wc 0).toArray.toList, 75)
  have ba : hput (hput (hput hi n3 ((wc a).toArray.toList, 75)) n4 ((wc b).toArray.toList, 75)) n5 ((wc 0).toArray.toList, 75) n3 = some (wc a, 75) := he5 _ _ _ (he4 _ _ _ (hput_same ..))
  have bb : hput (hput (hput hi n3 ((wc a).toArray.toList, 75)) n4 ((wc b).toArray.toList, 75)) n5 ((wc 0).toArray.toList, 75) n4 = some (wc b, 75) := he5 _ _ _ (hput_same ..)
  refine opcodeM_ok M (Ext.j2 hE hd (Ext.refl hm)) ?_
  rw [ho]; conv => whnf
  repeat (first | (refine CondX.tt ?_; conv => whnf) | (refine CondX.ff ?_; conv => whnf))
  refine LoadX.all (join_l ba) rfl ?_; conv => whnf
  refine LoadX.all (join_l bb) rfl ?_; conv => whnf
  refine eAnd_ok ?_
  conv => whnf
  refine Ob.mk ⟨rfl, rfl⟩ ?_; conv => whnf
  refine StoreX.j (Nat.le_of_ble_eq_true rfl) ?_
  rw [setSeg_all (by rfl)]; conv => whnf
  refine LoadX.all (join_l (hput_same ..)) rfl ?_; conv => whnf
  refine settleS_b (tk := 2) (st := 1) (x := aluI 22 a b c) (((he3 _).trans (he4 _)).trans (he5 _)) (hd5 _) M hs (by omega) (by omega) hbd fun hm' hd' M' => ?_; conv => whnf
  exact RetX.drop (h' := join hi hm') (Ext.j2 (((he3 _).trans (he4 _)).trans (he5 _)) hd' (Ext.refl _)) (hk hm' M')
set_option maxRecDepth 100000 in
set_option maxHeartbeats 4000000 in
theorem alu_23 {a b c : Nat} (M : MA hi hm eb m t w sn v) (h0 : argM m t 0 = a) (h1 : argM m t 1 = b) (h2 : argM m t 2 = c) (ho : opI (m.fr t).code (m.fr t).pc = 23) (hs : 2 ≤ (m.fr t).sp) (hpc : (m.fr t).pc < 600) (hk : ArK hi eb m t 2 w sn v (aluI 23 a b c) K) : CallX Hval.prog 186 [.pointer (some ⟨eb, 0, none⟩)] (join hi hm) K := by
  have hsp := M.f.sp
  obtain ⟨pa, qa⟩ := h0 ▸ argM_W M 0
  obtain ⟨pb, qb⟩ := h1 ▸ argM_W M 1
  obtain ⟨pc, qc⟩ := h2 ▸ argM_W M 2
  have hbd := aluI_bd (o := 23) pa qa pb qb pc qc
  refine CallX.of_xf T_ok Hval.func186 rfl (by kernel_rfl) (Nat.le_of_ble_eq_true rfl) ?_; conv => whnf
  refine running_ok M (Ext.refl _) ?_; conv => whnf
  repeat (first | (refine CondX.tt ?_; conv => whnf) | (refine CondX.ff ?_; conv => whnf))
  refine arg_okM (i := 0) M (Ext.refl _) (by decide) ?_
  rw [h0]; conv => whnf
  refine BoxX.wj M.A.V.dj fun n3 hd3 he3 => ?_; conv => whnf
  refine Ob.mk ⟨rfl, rfl⟩ ?_; conv => whnf
  refine StoreX.j (Nat.le_of_ble_eq_true rfl) ?_
  rw [setSeg_all (by rfl)]; conv => whnf
  refine arg_okM (i := 1) M (Ext.j2 (he3 _) (hd3 _) (Ext.refl hm)) (by decide) ?_
  rw [h1]; conv => whnf
  refine BoxX.wj (hd3 _) fun n4 hd4 he4 => ?_; conv => whnf
  refine Ob.mk ⟨rfl, rfl⟩ ?_; conv => whnf
  refine StoreX.j (Nat.le_of_ble_eq_true rfl) ?_
  rw [setSeg_all (by rfl)]; conv => whnf
  refine BoxX.wj (hd4 _) fun n5 hd5 he5 => ?_; conv => whnf
  refine Ob.mk ⟨rfl, rfl⟩ ?_; conv => whnf
  refine StoreX.j (Nat.le_of_ble_eq_true rfl) ?_
  rw [setSeg_all (by rfl)]; conv => whnf
  have hE := ((he3 ((wc a).toArray.toList, 75)).trans (he4 ((wc b).toArray.toList, 75))).trans (he5 ((wc 0).toArray.toList, 75))
  have hd := hd5 ((wc 0).toArray.toList, 75)
  have ba : hput (hput (hput hi n3 ((wc a).toArray.toList, 75)) n4 ((wc b).toArray.toList, 75)) n5 ((wc 0).toArray.toList, 75) n3 = some (wc a, 75) := he5 _ _ _ (he4 _ _ _ (hput_same ..))
  have bb : hput (hput (hput hi n3 ((wc a).toArray.toList, 75)) n4 ((wc b).toArray.toList, 75)) n5 ((wc 0).toArray.toList, 75) n4 = some (wc b, 75) := he5 _ _ _ (hput_same ..)
  refine opcodeM_ok M (Ext.j2 hE hd (Ext.refl hm)) ?_
  rw [ho]; conv => whnf
  repeat (first | (refine CondX.tt ?_; conv => whnf) | (refine CondX.ff ?_; conv => whnf))
  refine LoadX.all (join_l ba) rfl ?_; conv => whnf
  refine LoadX.all (join_l bb) rfl ?_; conv => whnf
  refine eOr_ok ?_
  conv => whnf
  refine Ob.mk ⟨rfl, rfl⟩ ?_; conv => whnf
  refine StoreX.j (Nat.le_of_ble_eq_true rfl) ?_
  rw [setSeg_all (by rfl)]; conv => whnf
  refine LoadX.all (join_l (hput_same ..)) rfl ?_; conv => whnf
  refine settleS_b (tk := 2) (st := 1) (x := aluI 23 a b c) (((he3 _).trans (he4 _)).trans (he5 _)) (hd5 _) M hs (by omega) (by omega) hbd fun hm' hd' M' => ?_; conv => whnf
  exact RetX.drop (h' := join hi hm') (Ext.j2 (((he3 _).trans (he4 _)).trans (he5 _)) hd' (Ext.refl _)) (hk hm' M')
set_option maxRecDepth 100000 in
set_option maxHeartbeats 4000000 in
theorem alu_24 {a b c : Nat} (M : MA hi hm eb m t w sn v) (h0 : argM m t 0 = a) (h1 : argM m t 1 = b) (h2 : argM m t 2 = c) (ho : opI (m.fr t).code (m.fr t).pc = 24) (hs : 2 ≤ (m.fr t).sp) (hpc : (m.fr t).pc < 600) (hk : ArK hi eb m t 2 w sn v (aluI 24 a b c) K) : CallX Hval.prog 186 [.pointer (some ⟨eb, 0, none⟩)] (join hi hm) K := by
  have hsp := M.f.sp
  obtain ⟨pa, qa⟩ := h0 ▸ argM_W M 0
  obtain ⟨pb, qb⟩ := h1 ▸ argM_W M 1
  obtain ⟨pc, qc⟩ := h2 ▸ argM_W M 2
  have hbd := aluI_bd (o := 24) pa qa pb qb pc qc
  refine CallX.of_xf T_ok Hval.func186 rfl (by kernel_rfl) (Nat.le_of_ble_eq_true rfl) ?_; conv => whnf
  refine running_ok M (Ext.refl _) ?_; conv => whnf
  repeat (first | (refine CondX.tt ?_; conv => whnf) | (refine CondX.ff ?_; conv => whnf))
  refine arg_okM (i := 0) M (Ext.refl _) (by decide) ?_
  rw [h0]; conv => whnf
  refine BoxX.wj M.A.V.dj fun n3 hd3 he3 => ?_; conv => whnf
  refine Ob.mk ⟨rfl, rfl⟩ ?_; conv => whnf
  refine StoreX.j (Nat.le_of_ble_eq_true rfl) ?_
  rw [setSeg_all (by rfl)]; conv => whnf
  refine arg_okM (i := 1) M (Ext.j2 (he3 _) (hd3 _) (Ext.refl hm)) (by decide) ?_
  rw [h1]; conv => whnf
  refine BoxX.wj (hd3 _) fun n4 hd4 he4 => ?_; conv => whnf
  refine Ob.mk ⟨rfl, rfl⟩ ?_; conv => whnf
  refine StoreX.j (Nat.le_of_ble_eq_true rfl) ?_
  rw [setSeg_all (by rfl)]; conv => whnf
  refine BoxX.wj (hd4 _) fun n5 hd5 he5 => ?_; conv => whnf
  refine Ob.mk ⟨rfl, rfl⟩ ?_; conv => whnf
  refine StoreX.j (Nat.le_of_ble_eq_true rfl) ?_
  rw [setSeg_all (by rfl)]; conv => whnf
  have hE := ((he3 ((wc a).toArray.toList, 75)).trans (he4 ((wc b).toArray.toList, 75))).trans (he5 ((wc 0).toArray.toList, 75))
  have hd := hd5 ((wc 0).toArray.toList, 75)
  have ba : hput (hput (hput hi n3 ((wc a).toArray.toList, 75)) n4 ((wc b).toArray.toList, 75)) n5 ((wc 0).toArray.toList, 75) n3 = some (wc a, 75) := he5 _ _ _ (he4 _ _ _ (hput_same ..))
  have bb : hput (hput (hput hi n3 ((wc a).toArray.toList, 75)) n4 ((wc b).toArray.toList, 75)) n5 ((wc 0).toArray.toList, 75) n4 = some (wc b, 75) := he5 _ _ _ (hput_same ..)
  refine opcodeM_ok M (Ext.j2 hE hd (Ext.refl hm)) ?_
  rw [ho]; conv => whnf
  repeat (first | (refine CondX.tt ?_; conv => whnf) | (refine CondX.ff ?_; conv => whnf))
  refine LoadX.all (join_l ba) rfl ?_; conv => whnf
  refine LoadX.all (join_l bb) rfl ?_; conv => whnf
  refine eXor_ok ?_
  conv => whnf
  refine Ob.mk ⟨rfl, rfl⟩ ?_; conv => whnf
  refine StoreX.j (Nat.le_of_ble_eq_true rfl) ?_
  rw [setSeg_all (by rfl)]; conv => whnf
  refine LoadX.all (join_l (hput_same ..)) rfl ?_; conv => whnf
  refine settleS_b (tk := 2) (st := 1) (x := aluI 24 a b c) (((he3 _).trans (he4 _)).trans (he5 _)) (hd5 _) M hs (by omega) (by omega) hbd fun hm' hd' M' => ?_; conv => whnf
  exact RetX.drop (h' := join hi hm') (Ext.j2 (((he3 _).trans (he4 _)).trans (he5 _)) hd' (Ext.refl _)) (hk hm' M')
set_option maxRecDepth 100000 in
set_option maxHeartbeats 4000000 in
theorem alu_25 {a b c : Nat} (M : MA hi hm eb m t w sn v) (h0 : argM m t 0 = a) (h1 : argM m t 1 = b) (h2 : argM m t 2 = c) (ho : opI (m.fr t).code (m.fr t).pc = 25) (hs : 1 ≤ (m.fr t).sp) (hpc : (m.fr t).pc < 600) (hk : ArK hi eb m t 1 w sn v (aluI 25 a b c) K) : CallX Hval.prog 186 [.pointer (some ⟨eb, 0, none⟩)] (join hi hm) K := by
  have hsp := M.f.sp
  obtain ⟨pa, qa⟩ := h0 ▸ argM_W M 0
  obtain ⟨pb, qb⟩ := h1 ▸ argM_W M 1
  obtain ⟨pc, qc⟩ := h2 ▸ argM_W M 2
  have hbd := aluI_bd (o := 25) pa qa pb qb pc qc
  refine CallX.of_xf T_ok Hval.func186 rfl (by kernel_rfl) (Nat.le_of_ble_eq_true rfl) ?_; conv => whnf
  refine running_ok M (Ext.refl _) ?_; conv => whnf
  repeat (first | (refine CondX.tt ?_; conv => whnf) | (refine CondX.ff ?_; conv => whnf))
  refine arg_okM (i := 0) M (Ext.refl _) (by decide) ?_
  rw [h0]; conv => whnf
  refine BoxX.wj M.A.V.dj fun n3 hd3 he3 => ?_; conv => whnf
  refine Ob.mk ⟨rfl, rfl⟩ ?_; conv => whnf
  refine StoreX.j (Nat.le_of_ble_eq_true rfl) ?_
  rw [setSeg_all (by rfl)]; conv => whnf
  refine arg_okM (i := 1) M (Ext.j2 (he3 _) (hd3 _) (Ext.refl hm)) (by decide) ?_
  rw [h1]; conv => whnf
  refine BoxX.wj (hd3 _) fun n4 hd4 he4 => ?_; conv => whnf
  refine Ob.mk ⟨rfl, rfl⟩ ?_; conv => whnf
  refine StoreX.j (Nat.le_of_ble_eq_true rfl) ?_
  rw [setSeg_all (by rfl)]; conv => whnf
  refine BoxX.wj (hd4 _) fun n5 hd5 he5 => ?_; conv => whnf
  refine Ob.mk ⟨rfl, rfl⟩ ?_; conv => whnf
  refine StoreX.j (Nat.le_of_ble_eq_true rfl) ?_
  rw [setSeg_all (by rfl)]; conv => whnf
  have hE := ((he3 ((wc a).toArray.toList, 75)).trans (he4 ((wc b).toArray.toList, 75))).trans (he5 ((wc 0).toArray.toList, 75))
  have hd := hd5 ((wc 0).toArray.toList, 75)
  have ba : hput (hput (hput hi n3 ((wc a).toArray.toList, 75)) n4 ((wc b).toArray.toList, 75)) n5 ((wc 0).toArray.toList, 75) n3 = some (wc a, 75) := he5 _ _ _ (he4 _ _ _ (hput_same ..))
  have bb : hput (hput (hput hi n3 ((wc a).toArray.toList, 75)) n4 ((wc b).toArray.toList, 75)) n5 ((wc 0).toArray.toList, 75) n4 = some (wc b, 75) := he5 _ _ _ (hput_same ..)
  refine opcodeM_ok M (Ext.j2 hE hd (Ext.refl hm)) ?_
  rw [ho]; conv => whnf
  repeat (first | (refine CondX.tt ?_; conv => whnf) | (refine CondX.ff ?_; conv => whnf))
  refine LoadX.all (join_l ba) rfl ?_; conv => whnf
  refine eNot_ok qa ?_
  conv => whnf
  refine Ob.mk ⟨rfl, rfl⟩ ?_; conv => whnf
  refine StoreX.j (Nat.le_of_ble_eq_true rfl) ?_
  rw [setSeg_all (by rfl)]; conv => whnf
  refine LoadX.all (join_l (hput_same ..)) rfl ?_; conv => whnf
  refine settleS_b (tk := 1) (st := 1) (x := aluI 25 a b c) (((he3 _).trans (he4 _)).trans (he5 _)) (hd5 _) M hs (by omega) (by omega) hbd fun hm' hd' M' => ?_; conv => whnf
  exact RetX.drop (h' := join hi hm') (Ext.j2 (((he3 _).trans (he4 _)).trans (he5 _)) hd' (Ext.refl _)) (hk hm' M')
set_option maxRecDepth 100000 in
set_option maxHeartbeats 4000000 in
theorem alu_26 {a b c : Nat} (M : MA hi hm eb m t w sn v) (h0 : argM m t 0 = a) (h1 : argM m t 1 = b) (h2 : argM m t 2 = c) (ho : opI (m.fr t).code (m.fr t).pc = 26) (hs : 2 ≤ (m.fr t).sp) (hpc : (m.fr t).pc < 600) (hk : ArK hi eb m t 2 w sn v (aluI 26 a b c) K) : CallX Hval.prog 186 [.pointer (some ⟨eb, 0, none⟩)] (join hi hm) K := by
  have hsp := M.f.sp
  obtain ⟨pa, qa⟩ := h0 ▸ argM_W M 0
  obtain ⟨pb, qb⟩ := h1 ▸ argM_W M 1
  obtain ⟨pc, qc⟩ := h2 ▸ argM_W M 2
  have hbd := aluI_bd (o := 26) pa qa pb qb pc qc
  refine CallX.of_xf T_ok Hval.func186 rfl (by kernel_rfl) (Nat.le_of_ble_eq_true rfl) ?_; conv => whnf
  refine running_ok M (Ext.refl _) ?_; conv => whnf
  repeat (first | (refine CondX.tt ?_; conv => whnf) | (refine CondX.ff ?_; conv => whnf))
  refine arg_okM (i := 0) M (Ext.refl _) (by decide) ?_
  rw [h0]; conv => whnf
  refine BoxX.wj M.A.V.dj fun n3 hd3 he3 => ?_; conv => whnf
  refine Ob.mk ⟨rfl, rfl⟩ ?_; conv => whnf
  refine StoreX.j (Nat.le_of_ble_eq_true rfl) ?_
  rw [setSeg_all (by rfl)]; conv => whnf
  refine arg_okM (i := 1) M (Ext.j2 (he3 _) (hd3 _) (Ext.refl hm)) (by decide) ?_
  rw [h1]; conv => whnf
  refine BoxX.wj (hd3 _) fun n4 hd4 he4 => ?_; conv => whnf
  refine Ob.mk ⟨rfl, rfl⟩ ?_; conv => whnf
  refine StoreX.j (Nat.le_of_ble_eq_true rfl) ?_
  rw [setSeg_all (by rfl)]; conv => whnf
  refine BoxX.wj (hd4 _) fun n5 hd5 he5 => ?_; conv => whnf
  refine Ob.mk ⟨rfl, rfl⟩ ?_; conv => whnf
  refine StoreX.j (Nat.le_of_ble_eq_true rfl) ?_
  rw [setSeg_all (by rfl)]; conv => whnf
  have hE := ((he3 ((wc a).toArray.toList, 75)).trans (he4 ((wc b).toArray.toList, 75))).trans (he5 ((wc 0).toArray.toList, 75))
  have hd := hd5 ((wc 0).toArray.toList, 75)
  have ba : hput (hput (hput hi n3 ((wc a).toArray.toList, 75)) n4 ((wc b).toArray.toList, 75)) n5 ((wc 0).toArray.toList, 75) n3 = some (wc a, 75) := he5 _ _ _ (he4 _ _ _ (hput_same ..))
  have bb : hput (hput (hput hi n3 ((wc a).toArray.toList, 75)) n4 ((wc b).toArray.toList, 75)) n5 ((wc 0).toArray.toList, 75) n4 = some (wc b, 75) := he5 _ _ _ (hput_same ..)
  refine opcodeM_ok M (Ext.j2 hE hd (Ext.refl hm)) ?_
  rw [ho]; conv => whnf
  repeat (first | (refine CondX.tt ?_; conv => whnf) | (refine CondX.ff ?_; conv => whnf))
  refine LoadX.all (join_l ba) rfl ?_; conv => whnf
  refine LoadX.all (join_l bb) rfl ?_; conv => whnf
  refine eByte_ok qa qb ?_
  conv => whnf
  refine Ob.mk ⟨rfl, rfl⟩ ?_; conv => whnf
  refine StoreX.j (Nat.le_of_ble_eq_true rfl) ?_
  rw [setSeg_all (by rfl)]; conv => whnf
  refine LoadX.all (join_l (hput_same ..)) rfl ?_; conv => whnf
  refine settleS_b (tk := 2) (st := 1) (x := aluI 26 a b c) (((he3 _).trans (he4 _)).trans (he5 _)) (hd5 _) M hs (by omega) (by omega) hbd fun hm' hd' M' => ?_; conv => whnf
  exact RetX.drop (h' := join hi hm') (Ext.j2 (((he3 _).trans (he4 _)).trans (he5 _)) hd' (Ext.refl _)) (hk hm' M')
set_option maxRecDepth 100000 in
set_option maxHeartbeats 4000000 in
theorem alu_27 {a b c : Nat} (M : MA hi hm eb m t w sn v) (h0 : argM m t 0 = a) (h1 : argM m t 1 = b) (h2 : argM m t 2 = c) (ho : opI (m.fr t).code (m.fr t).pc = 27) (hs : 2 ≤ (m.fr t).sp) (hpc : (m.fr t).pc < 600) (hk : ArK hi eb m t 2 w sn v (aluI 27 a b c) K) : CallX Hval.prog 186 [.pointer (some ⟨eb, 0, none⟩)] (join hi hm) K := by
  have hsp := M.f.sp
  obtain ⟨pa, qa⟩ := h0 ▸ argM_W M 0
  obtain ⟨pb, qb⟩ := h1 ▸ argM_W M 1
  obtain ⟨pc, qc⟩ := h2 ▸ argM_W M 2
  have hbd := aluI_bd (o := 27) pa qa pb qb pc qc
  refine CallX.of_xf T_ok Hval.func186 rfl (by kernel_rfl) (Nat.le_of_ble_eq_true rfl) ?_; conv => whnf
  refine running_ok M (Ext.refl _) ?_; conv => whnf
  repeat (first | (refine CondX.tt ?_; conv => whnf) | (refine CondX.ff ?_; conv => whnf))
  refine arg_okM (i := 0) M (Ext.refl _) (by decide) ?_
  rw [h0]; conv => whnf
  refine BoxX.wj M.A.V.dj fun n3 hd3 he3 => ?_; conv => whnf
  refine Ob.mk ⟨rfl, rfl⟩ ?_; conv => whnf
  refine StoreX.j (Nat.le_of_ble_eq_true rfl) ?_
  rw [setSeg_all (by rfl)]; conv => whnf
  refine arg_okM (i := 1) M (Ext.j2 (he3 _) (hd3 _) (Ext.refl hm)) (by decide) ?_
  rw [h1]; conv => whnf
  refine BoxX.wj (hd3 _) fun n4 hd4 he4 => ?_; conv => whnf
  refine Ob.mk ⟨rfl, rfl⟩ ?_; conv => whnf
  refine StoreX.j (Nat.le_of_ble_eq_true rfl) ?_
  rw [setSeg_all (by rfl)]; conv => whnf
  refine BoxX.wj (hd4 _) fun n5 hd5 he5 => ?_; conv => whnf
  refine Ob.mk ⟨rfl, rfl⟩ ?_; conv => whnf
  refine StoreX.j (Nat.le_of_ble_eq_true rfl) ?_
  rw [setSeg_all (by rfl)]; conv => whnf
  have hE := ((he3 ((wc a).toArray.toList, 75)).trans (he4 ((wc b).toArray.toList, 75))).trans (he5 ((wc 0).toArray.toList, 75))
  have hd := hd5 ((wc 0).toArray.toList, 75)
  have ba : hput (hput (hput hi n3 ((wc a).toArray.toList, 75)) n4 ((wc b).toArray.toList, 75)) n5 ((wc 0).toArray.toList, 75) n3 = some (wc a, 75) := he5 _ _ _ (he4 _ _ _ (hput_same ..))
  have bb : hput (hput (hput hi n3 ((wc a).toArray.toList, 75)) n4 ((wc b).toArray.toList, 75)) n5 ((wc 0).toArray.toList, 75) n4 = some (wc b, 75) := he5 _ _ _ (hput_same ..)
  refine opcodeM_ok M (Ext.j2 hE hd (Ext.refl hm)) ?_
  rw [ho]; conv => whnf
  repeat (first | (refine CondX.tt ?_; conv => whnf) | (refine CondX.ff ?_; conv => whnf))
  refine LoadX.all (join_l ba) rfl ?_; conv => whnf
  refine LoadX.all (join_l bb) rfl ?_; conv => whnf
  refine eShl_ok qa qb ?_
  conv => whnf
  refine Ob.mk ⟨rfl, rfl⟩ ?_; conv => whnf
  refine StoreX.j (Nat.le_of_ble_eq_true rfl) ?_
  rw [setSeg_all (by rfl)]; conv => whnf
  refine LoadX.all (join_l (hput_same ..)) rfl ?_; conv => whnf
  refine settleS_b (tk := 2) (st := 1) (x := aluI 27 a b c) (((he3 _).trans (he4 _)).trans (he5 _)) (hd5 _) M hs (by omega) (by omega) hbd fun hm' hd' M' => ?_; conv => whnf
  exact RetX.drop (h' := join hi hm') (Ext.j2 (((he3 _).trans (he4 _)).trans (he5 _)) hd' (Ext.refl _)) (hk hm' M')
set_option maxRecDepth 100000 in
set_option maxHeartbeats 4000000 in
theorem alu_28 {a b c : Nat} (M : MA hi hm eb m t w sn v) (h0 : argM m t 0 = a) (h1 : argM m t 1 = b) (h2 : argM m t 2 = c) (ho : opI (m.fr t).code (m.fr t).pc = 28) (hs : 2 ≤ (m.fr t).sp) (hpc : (m.fr t).pc < 600) (hk : ArK hi eb m t 2 w sn v (aluI 28 a b c) K) : CallX Hval.prog 186 [.pointer (some ⟨eb, 0, none⟩)] (join hi hm) K := by
  have hsp := M.f.sp
  obtain ⟨pa, qa⟩ := h0 ▸ argM_W M 0
  obtain ⟨pb, qb⟩ := h1 ▸ argM_W M 1
  obtain ⟨pc, qc⟩ := h2 ▸ argM_W M 2
  have hbd := aluI_bd (o := 28) pa qa pb qb pc qc
  refine CallX.of_xf T_ok Hval.func186 rfl (by kernel_rfl) (Nat.le_of_ble_eq_true rfl) ?_; conv => whnf
  refine running_ok M (Ext.refl _) ?_; conv => whnf
  repeat (first | (refine CondX.tt ?_; conv => whnf) | (refine CondX.ff ?_; conv => whnf))
  refine arg_okM (i := 0) M (Ext.refl _) (by decide) ?_
  rw [h0]; conv => whnf
  refine BoxX.wj M.A.V.dj fun n3 hd3 he3 => ?_; conv => whnf
  refine Ob.mk ⟨rfl, rfl⟩ ?_; conv => whnf
  refine StoreX.j (Nat.le_of_ble_eq_true rfl) ?_
  rw [setSeg_all (by rfl)]; conv => whnf
  refine arg_okM (i := 1) M (Ext.j2 (he3 _) (hd3 _) (Ext.refl hm)) (by decide) ?_
  rw [h1]; conv => whnf
  refine BoxX.wj (hd3 _) fun n4 hd4 he4 => ?_; conv => whnf
  refine Ob.mk ⟨rfl, rfl⟩ ?_; conv => whnf
  refine StoreX.j (Nat.le_of_ble_eq_true rfl) ?_
  rw [setSeg_all (by rfl)]; conv => whnf
  refine BoxX.wj (hd4 _) fun n5 hd5 he5 => ?_; conv => whnf
  refine Ob.mk ⟨rfl, rfl⟩ ?_; conv => whnf
  refine StoreX.j (Nat.le_of_ble_eq_true rfl) ?_
  rw [setSeg_all (by rfl)]; conv => whnf
  have hE := ((he3 ((wc a).toArray.toList, 75)).trans (he4 ((wc b).toArray.toList, 75))).trans (he5 ((wc 0).toArray.toList, 75))
  have hd := hd5 ((wc 0).toArray.toList, 75)
  have ba : hput (hput (hput hi n3 ((wc a).toArray.toList, 75)) n4 ((wc b).toArray.toList, 75)) n5 ((wc 0).toArray.toList, 75) n3 = some (wc a, 75) := he5 _ _ _ (he4 _ _ _ (hput_same ..))
  have bb : hput (hput (hput hi n3 ((wc a).toArray.toList, 75)) n4 ((wc b).toArray.toList, 75)) n5 ((wc 0).toArray.toList, 75) n4 = some (wc b, 75) := he5 _ _ _ (hput_same ..)
  refine opcodeM_ok M (Ext.j2 hE hd (Ext.refl hm)) ?_
  rw [ho]; conv => whnf
  repeat (first | (refine CondX.tt ?_; conv => whnf) | (refine CondX.ff ?_; conv => whnf))
  refine LoadX.all (join_l ba) rfl ?_; conv => whnf
  refine LoadX.all (join_l bb) rfl ?_; conv => whnf
  refine eShr_ok qa qb ?_
  conv => whnf
  refine Ob.mk ⟨rfl, rfl⟩ ?_; conv => whnf
  refine StoreX.j (Nat.le_of_ble_eq_true rfl) ?_
  rw [setSeg_all (by rfl)]; conv => whnf
  refine LoadX.all (join_l (hput_same ..)) rfl ?_; conv => whnf
  refine settleS_b (tk := 2) (st := 1) (x := aluI 28 a b c) (((he3 _).trans (he4 _)).trans (he5 _)) (hd5 _) M hs (by omega) (by omega) hbd fun hm' hd' M' => ?_; conv => whnf
  exact RetX.drop (h' := join hi hm') (Ext.j2 (((he3 _).trans (he4 _)).trans (he5 _)) hd' (Ext.refl _)) (hk hm' M')
set_option maxRecDepth 100000 in
set_option maxHeartbeats 4000000 in
theorem alu_29 {a b c : Nat} (M : MA hi hm eb m t w sn v) (h0 : argM m t 0 = a) (h1 : argM m t 1 = b) (h2 : argM m t 2 = c) (ho : opI (m.fr t).code (m.fr t).pc = 29) (hs : 2 ≤ (m.fr t).sp) (hpc : (m.fr t).pc < 600) (hk : ArK hi eb m t 2 w sn v (aluI 29 a b c) K) : CallX Hval.prog 186 [.pointer (some ⟨eb, 0, none⟩)] (join hi hm) K := by
  have hsp := M.f.sp
  obtain ⟨pa, qa⟩ := h0 ▸ argM_W M 0
  obtain ⟨pb, qb⟩ := h1 ▸ argM_W M 1
  obtain ⟨pc, qc⟩ := h2 ▸ argM_W M 2
  have hbd := aluI_bd (o := 29) pa qa pb qb pc qc
  refine CallX.of_xf T_ok Hval.func186 rfl (by kernel_rfl) (Nat.le_of_ble_eq_true rfl) ?_; conv => whnf
  refine running_ok M (Ext.refl _) ?_; conv => whnf
  repeat (first | (refine CondX.tt ?_; conv => whnf) | (refine CondX.ff ?_; conv => whnf))
  refine arg_okM (i := 0) M (Ext.refl _) (by decide) ?_
  rw [h0]; conv => whnf
  refine BoxX.wj M.A.V.dj fun n3 hd3 he3 => ?_; conv => whnf
  refine Ob.mk ⟨rfl, rfl⟩ ?_; conv => whnf
  refine StoreX.j (Nat.le_of_ble_eq_true rfl) ?_
  rw [setSeg_all (by rfl)]; conv => whnf
  refine arg_okM (i := 1) M (Ext.j2 (he3 _) (hd3 _) (Ext.refl hm)) (by decide) ?_
  rw [h1]; conv => whnf
  refine BoxX.wj (hd3 _) fun n4 hd4 he4 => ?_; conv => whnf
  refine Ob.mk ⟨rfl, rfl⟩ ?_; conv => whnf
  refine StoreX.j (Nat.le_of_ble_eq_true rfl) ?_
  rw [setSeg_all (by rfl)]; conv => whnf
  refine BoxX.wj (hd4 _) fun n5 hd5 he5 => ?_; conv => whnf
  refine Ob.mk ⟨rfl, rfl⟩ ?_; conv => whnf
  refine StoreX.j (Nat.le_of_ble_eq_true rfl) ?_
  rw [setSeg_all (by rfl)]; conv => whnf
  have hE := ((he3 ((wc a).toArray.toList, 75)).trans (he4 ((wc b).toArray.toList, 75))).trans (he5 ((wc 0).toArray.toList, 75))
  have hd := hd5 ((wc 0).toArray.toList, 75)
  have ba : hput (hput (hput hi n3 ((wc a).toArray.toList, 75)) n4 ((wc b).toArray.toList, 75)) n5 ((wc 0).toArray.toList, 75) n3 = some (wc a, 75) := he5 _ _ _ (he4 _ _ _ (hput_same ..))
  have bb : hput (hput (hput hi n3 ((wc a).toArray.toList, 75)) n4 ((wc b).toArray.toList, 75)) n5 ((wc 0).toArray.toList, 75) n4 = some (wc b, 75) := he5 _ _ _ (hput_same ..)
  refine opcodeM_ok M (Ext.j2 hE hd (Ext.refl hm)) ?_
  rw [ho]; conv => whnf
  repeat (first | (refine CondX.tt ?_; conv => whnf) | (refine CondX.ff ?_; conv => whnf))
  refine LoadX.all (join_l ba) rfl ?_; conv => whnf
  refine LoadX.all (join_l bb) rfl ?_; conv => whnf
  refine eSar_ok qa qb ?_
  conv => whnf
  refine Ob.mk ⟨rfl, rfl⟩ ?_; conv => whnf
  refine StoreX.j (Nat.le_of_ble_eq_true rfl) ?_
  rw [setSeg_all (by rfl)]; conv => whnf
  refine LoadX.all (join_l (hput_same ..)) rfl ?_; conv => whnf
  refine settleS_b (tk := 2) (st := 1) (x := aluI 29 a b c) (((he3 _).trans (he4 _)).trans (he5 _)) (hd5 _) M hs (by omega) (by omega) hbd fun hm' hd' M' => ?_; conv => whnf
  exact RetX.drop (h' := join hi hm') (Ext.j2 (((he3 _).trans (he4 _)).trans (he5 _)) hd' (Ext.refl _)) (hk hm' M')
end
end Go.Proofs.YgvalwGreat.X
