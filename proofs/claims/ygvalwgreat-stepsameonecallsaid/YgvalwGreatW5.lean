import Derived.Test.YgvalwGreatW4
import Derived.Test.YgvalwGreatE32
import Derived.Test.YgvalwGreatF22
set_option linter.unusedVariables false
set_option linter.unusedSimpArgs false
namespace Go.Proofs.YgvalwGreat.X
open Go

theorem lim_lmN {l : List Int} {k : Nat} (hL : isL l) (hk : k < l.length) : l.getD k 0 = (lmN (lv l).toNat k : Nat) := by
  obtain ⟨n, hn⟩ := Int.eq_ofNat_of_zero_le (lv_bd hL).1
  have e1 := lv_drop (l := l) (n := k) (by omega)
  have d1 : l.drop k = l.getD k 0 :: l.drop (k + 1) := by
    rw [List.drop_eq_getElem_cons hk, List.getD_eq_getElem?_getD, List.getElem?_eq_getElem hk]; rfl
  rw [d1, lv] at e1
  have hT : isL (l.take k) := fun x hx => hL x (List.mem_of_mem_take hx)
  have hD : isL (l.drop (k + 1)) := fun x hx => hL x (List.mem_of_mem_drop hx)
  have b1 := lv_bd hT
  have b2 := lv_bd hD
  rw [List.length_take, Nat.min_eq_left (by omega)] at b1
  obtain ⟨T, hTe⟩ := Int.eq_ofNat_of_zero_le b1.1
  obtain ⟨D, hDe⟩ := Int.eq_ofNat_of_zero_le b2.1
  have hx := hL.get k
  obtain ⟨x, hxe⟩ := Int.eq_ofNat_of_zero_le hx.1
  have hx1 := hx.2
  rw [hTe, hDe, hxe, hn] at e1
  rw [hTe] at b1
  rw [hxe] at hx1
  have e2 : n = T + 18446744073709551616 ^ k * (x + 18446744073709551616 * D) := by
    refine Int.ofNat.inj ?_
    show (n : Int) = _
    rw [e1]
    show _ = ((T + 18446744073709551616 ^ k * (x + 18446744073709551616 * D) : Nat) : Int)
    rw [Int.natCast_add, Int.natCast_mul, Int.natCast_pow, Int.natCast_add, Int.natCast_mul]
    rfl
  have b3 : T < 18446744073709551616 ^ k := by
    refine Int.ofNat_lt.1 ?_
    rw [Int.natCast_pow]; exact b1.2
  rw [hn, hxe, Int.toNat_natCast]
  unfold lmN
  rw [Nat.shiftRight_eq_div_pow, show 2 ^ (64 * k) = 18446744073709551616 ^ k by rw [Nat.pow_mul], e2, Nat.add_mul_div_left _ _ (Nat.pow_pos (by decide)), Nat.div_eq_of_lt b3, Nat.zero_add]
  congr 1
  rw [show (2 : Nat) ^ 64 = 18446744073709551616 from rfl, Nat.add_mul_mod_self_left, Nat.mod_eq_of_lt (by omega)]
theorem modI_mm (a b m : Int) : modI (modI a m * modI b m) m = modI (a * b) m := by
  unfold modI
  by_cases h : m = 0
  · simp [h]
  · rw [if_neg h, if_neg h, if_neg h, if_neg h, ← Int.mul_emod]
theorem lv_one16 : lv (1 :: List.replicate 15 0) = 1 := by rw [lv, lv_rep]; rfl
theorem isL_one16 : isL (1 :: List.replicate 15 0) := fun d hd => by
  rcases List.mem_cons.1 hd with rfl | hd
  · exact ⟨by decide, by decide⟩
  · exact isL_zeros 15 d hd
section
variable {h : Hp} {K : Value → Hp → Prop} {lb le lm : List Int} {mb me mm : Nat} {tb te tm : TypeId}
set_option maxRecDepth 100000 in
set_option maxHeartbeats 4000000 in
theorem wModExp_ok (hb : h mb = some (ul lb, tb)) (he : h me = some (ul le, te)) (hm : h mm = some (ul lm, tm)) (hlb : lb.length = 8) (hle : le.length = 8) (hlm : lm.length = 8) (hLb : isL lb) (hLe : isL le) (hLm : isL lm)
    (hk : ∀ r : List Int, r.length = 8 → isL r → lv r = modexpI (lv lb) (lv le) (lv lm) → K (.agg (ul r).toArray) h) : CallX Hval.prog 246 [.pointer (some ⟨mb, 0, none⟩), .pointer (some ⟨me, 0, none⟩), .pointer (some ⟨mm, 0, none⟩)] h K := by
  have hE0 : ∀ b z, h b = some z → h b = some z := fun _ _ h => h
  refine CallX.of_xf T_ok Hval.func246 rfl (by kernel_rfl) (Nat.le_of_ble_eq_true rfl) ?_; conv => whnf
  refine BoxX.mk fun m6 hm6 => ?_; conv => whnf
  refine BoxX.on fun m7 h67 hm7 => ?_; conv => whnf
  repeat (refine Ob.mk (by first | decide | omega) ?_; conv => whnf)
  refine StoreX.same (Nat.le_of_ble_eq_true rfl) ?_; conv => whnf
  obtain ⟨g1, hg1⟩ : ∃ g1 : Hp, g1 = hput (hput h m6 ((317, y317).snd.zero, 317)) m7 (ul (1 :: List.replicate 15 0), 376) := ⟨_, rfl⟩
  erw [← hg1]
  have q6 : g1 m6 = some (ul (List.replicate 8 0), 317) := by rw [hg1, hput_ne (by omega), hput_same]; rfl
  have q7 : g1 m7 = some (ul (1 :: List.replicate 15 0), 376) := by rw [hg1, hput_same]
  have hlo : ∀ b z, h b = some z → b < m6 := hm6
  have E1 : Ext h g1 := fun b z hbz => by
    have := hm6 b z hbz
    rw [hg1, hput_ne (by omega), hput_ne (by omega)]; exact hbz
  have n6b := hm6 _ _ hb
  have n6m := hm6 _ _ hm
  clear hg1
  refine rem1024_ok (l := 1 :: List.replicate 15 0) q7 rfl isL_one16 (E1 _ _ hm) hlm hLm fun r a1 a2 a3 hr8 hLr hv => ?_; conv => whnf
  refine BoxX.mk fun m8 hm8 => ?_; conv => whnf
  refine BoxX.on fun m9 hm9 _ => ?_; conv => whnf
  refine Ob.mk ⟨by rw [List.size_toArray, ul_len, hr8]; rfl, ones_ul _⟩ ?_; conv => whnf
  refine StoreX.ne (by omega) (StoreX.same (by rw [List.toList_toArray, ul_len, hr8]; exact Nat.le_of_ble_eq_true rfl) ?_); conv => whnf
  rw [List.toList_toArray, setSeg_all (by rw [ul_len, hr8]; rfl)]
  repeat (refine Ob.mk (by first | decide | omega) ?_; conv => whnf)
  refine Ob.mk ⟨rfl, rfl⟩ ?_; conv => whnf
  refine StoreX.same (Nat.le_of_ble_eq_true rfl) ?_; conv => whnf
  have n67 : m6 < m8 := hm8 _ _ q6
  erw [show setSeg (378, y378).snd.zero 0 [Value.int .u8 a1, .int .u8 a2, .int .u8 a3] = [Value.int .u8 a1, .int .u8 a2, .int .u8 a3] from rfl]
  obtain ⟨g2, hg2⟩ : ∃ g2 : Hp, g2 = hput (hput g1 m8 (ul r, 317)) m9 ([Value.int .u8 a1, .int .u8 a2, .int .u8 a3], 378) := ⟨_, rfl⟩
  rw [← hg2]
  have r6 : g2 m6 = some (ul (List.replicate 8 0), 317) := by rw [hg2, hput_ne (by omega), hput_ne (by omega)]; exact q6
  have r8 : g2 m8 = some (ul r, 317) := by rw [hg2, hput_ne (by omega), hput_same]
  have E2 : Ext h g2 := fun b z hbz => by
    have := hm8 b z (E1 b z hbz)
    rw [hg2, hput_ne (by omega), hput_ne (by omega)]; exact E1 b z hbz
  clear hg2 hm9 hm8 E1 q6 q7
  refine BoxX.mk fun m10 hm10 => ?_; conv => whnf
  repeat (refine Ob.mk (by first | decide | omega) ?_; conv => whnf)
  refine StoreX.same (Nat.le_of_ble_eq_true rfl) ?_; conv => whnf
  have n8a := hm10 _ _ r8
  have n6a := hm10 _ _ r6
  erw [show (setSeg (376, y376).snd.zero 0 (376, y376).snd.zero) = ul (List.replicate 16 0) from rfl]
  refine DrawX.go T_ok hM Hval.func246 (tb := dr246) rfl (by kernel_rfl) ?_; conv => whnf
  repeat (refine Ob.mk (by first | decide | omega) ?_; conv => whnf)
  have nb10 := hm10 _ _ (E2 _ _ hb)
  refine CopyX.ulG (l := List.replicate 16 0) (l' := lb) (p := 16) (q := 8) (hput_same ..) (by rw [hput_ne (by omega)]; exact E2 _ _ hb) (by simp) hlb rfl rfl (by decide) ?_; conv => whnf
  rw [hput_hput, show (List.replicate 16 (0 : Int)).drop 8 = List.replicate 8 0 from rfl]
  have hL16 : isL (lb ++ List.replicate 8 0) := hLb.append (isL_zeros 8)
  have hv16 : lv (lb ++ List.replicate 8 0) = lv lb := by rw [lv_append, lv_rep]; simp
  obtain ⟨g3, hg3⟩ : ∃ g3 : Hp, g3 = hput g2 m10 (ul (lb ++ List.replicate 8 0), 376) := ⟨_, rfl⟩
  rw [← hg3]
  have s6 : g3 m6 = some (ul (List.replicate 8 0), 317) := by rw [hg3, hput_ne (by omega)]; exact r6
  have s8 : g3 m8 = some (ul r, 317) := by rw [hg3, hput_ne (by omega)]; exact r8
  have s10 : g3 m10 = some (ul (lb ++ List.replicate 8 0), 376) := by rw [hg3, hput_same]
  have E3 : Ext h g3 := fun b z hbz => by
    have := hm10 b z (E2 b z hbz)
    rw [hg3, hput_ne (by omega)]; exact E2 b z hbz
  clear hg3 hm10 E2 r6 r8
  have hr8' := hr8
  refine rem1024_ok (l := lb ++ List.replicate 8 0) s10 (by simp [hlb]) hL16 (E3 _ _ hm) hlm hLm fun ba b1 b2 b3 hr8 hLba hvb => ?_; conv => whnf
  refine BoxX.mk fun m11 hm11 => ?_; conv => whnf
  refine BoxX.on fun m12 hm12 _ => ?_; conv => whnf
  refine Ob.mk ⟨by rw [List.size_toArray, ul_len, hr8]; rfl, ones_ul _⟩ ?_; conv => whnf
  refine StoreX.ne (by omega) (StoreX.same (by rw [List.toList_toArray, ul_len, hr8]; exact Nat.le_of_ble_eq_true rfl) ?_); conv => whnf
  rw [List.toList_toArray, setSeg_all (by rw [ul_len, hr8]; rfl)]
  repeat (refine Ob.mk (by first | decide | omega) ?_; conv => whnf)
  refine Ob.mk ⟨rfl, rfl⟩ ?_; conv => whnf
  refine StoreX.same (Nat.le_of_ble_eq_true rfl) ?_; conv => whnf
  rw [hv16] at hvb
  rw [lv_one16] at hv
  erw [show setSeg (378, y378).snd.zero 0 [Value.int .u8 b1, .int .u8 b2, .int .u8 b3] = [Value.int .u8 b1, .int .u8 b2, .int .u8 b3] from rfl]
  obtain ⟨g4, hg4⟩ : ∃ g4 : Hp, g4 = hput (hput g3 m11 (ul ba, 317)) m12 ([Value.int .u8 b1, .int .u8 b2, .int .u8 b3], 378) := ⟨_, rfl⟩
  rw [← hg4]
  have n811 := hm11 _ _ s8
  have n611 := hm11 _ _ s6
  have t6 : g4 m6 = some (ul (List.replicate 8 0), 317) := by rw [hg4, hput_ne (by omega), hput_ne (by omega)]; exact s6
  have t8 : g4 m8 = some (ul r, 317) := by rw [hg4, hput_ne (by omega), hput_ne (by omega)]; exact s8
  have t11 : g4 m11 = some (ul ba, 317) := by rw [hg4, hput_ne (by omega), hput_same]
  have E4 : Ext h g4 := fun b z hbz => by
    have := hm11 b z (E3 b z hbz)
    rw [hg4, hput_ne (by omega), hput_ne (by omega)]; exact E3 b z hbz
  clear hg4 hm11 hm12 E3 s6 s8 s10
  have hbB := lv_bd hLe
  rw [hle] at hbB
  have hEb : (lv le).toNat < 2 ^ 512 := by
    have h1 : (((lv le).toNat : Nat) : Int) < 18446744073709551616 ^ 8 := by rw [Int.toNat_of_nonneg hbB.1]; exact hbB.2
    have h2 := powB h1
    rwa [show 64 * 8 = 512 from rfl] at h2
  have hEe : modexpI (lv lb) (lv le) (lv lm) = modI (lv lb ^ (lv le).toNat) (lv lm) := rfl
  rw [hEe] at hk
  have hlE : ∀ k, k < 8 → le.getD k 0 = (lmN (lv le).toNat k : Nat) := fun k hk => lim_lmN hLe (by omega)
  generalize (lv le).toNat = E at *
  refine LoopX.st T_ok Hval.func246 (σ := Nat × List Int × Bool) (fun z => [(1, .pointer (some ⟨me, 0, none⟩)), (2, .pointer (some ⟨mm, 0, none⟩)), (6, .pointer (some ⟨m6, 0, none⟩)), (8, .pointer (some ⟨m8, 0, none⟩)), (11, .pointer (some ⟨m11, 0, none⟩)), (13, .bool z.2.2), (14, .int .u64 z.1)])
    (fun z h' => h' m6 = some (ul (List.replicate 8 0), 317) ∧ h' m8 = some (ul z.2.1, 317) ∧ h' m11 = some (ul ba, 317) ∧ Ext h h' ∧ z.1 ≤ 512 ∧ z.2.1.length = 8 ∧ isL z.2.1 ∧ lv z.2.1 = modI (lv lb ^ (E / 2 ^ z.1)) (lv lm) ∧ (z.2.2 = false → E / 2 ^ z.1 = 0)) (fun z => z.1) (512, r, false) ⟨rfl, rfl, rfl, rfl, rfl, rfl, rfl, trivial⟩
    ⟨t6, t8, t11, E4, Nat.le_refl _, hr8', hLr, by dsimp only; rw [Nat.div_eq_of_lt hEb, hv, Int.pow_zero]; rfl, fun _ => by dsimp only; exact Nat.div_eq_of_lt hEb⟩ ?_
  clear t6 t8 t11 E4 hv hLr hr8'
  rintro ⟨i, r, st⟩ ρ h' ⟨t6, t8, t11, E4, hi, hr8', hLr, hv, hst⟩ ih
  dsimp only at t8 hi hr8' hLr hv hst ⊢
  conv => whnf
  refine CondX.decI (fun hc => ?_) (fun hc => ?_) <;> conv => whnf
  · cases st with
    | false =>
      conv => whnf
      repeat (first | (refine CondX.tt ?_; conv => whnf) | (refine CondX.ff ?_; conv => whnf))
      have hv2 : lv r = modI (lv lb ^ (2 * (E / 2 ^ i))) (lv lm) := by rw [hv, hst rfl]
      have e1 : IntKind.u64.wrap (((i : Nat) : Int) - 1) = ((i - 1 : Nat) : Int) := by rw [wrap_u64]; omega
      rw [e1]
      refine Ob.mk (by decide) ?_; conv => whnf
      have e2 : IntKind.u64.wrap (((i - 1 : Nat) : Int).tdiv 64) = (((i - 1) / 64 : Nat) : Int) := by rw [show (64 : Int) = ((64 : Nat) : Int) from rfl, tdiv_nat, wrap_u64]; omega
      rw [e2]
      refine Ob.mk (by omega) ?_; conv => whnf
      refine LoadX.lim0 (E4 _ _ he) ((i - 1) / 64) (by rw [Int.toNat_natCast, show (24, y24).snd.size = 1 from rfl, Nat.mul_one]; simp) (by omega) ?_; conv => whnf
      rw [hlE _ (by omega)]
      rw [e1]
      refine Ob.mk (by decide) ?_; conv => whnf
      have e3 : (((i - 1 : Nat) : Int)).tmod 64 = (((i - 1) % 64 : Nat) : Int) := tmod_nat (i - 1) 64
      rw [e3]
      refine Ob.mk (by omega) ?_; conv => whnf
      rw [shrN (by omega), show (1 : Int) = ((1 : Nat) : Int) from rfl, and64 (Nat.lt_of_le_of_lt (Nat.div_le_self _ _) (lmN_lt E _)) (by decide), bit_nat (by omega), show 64 * ((i - 1) / 64) + (i - 1) % 64 = i - 1 by omega]
      have ebit : E / 2 ^ (i - 1) = 2 * (E / 2 ^ i) + (E.testBit (i - 1)).toNat := by
        have h1 : 2 ^ i = 2 ^ (i - 1) * 2 := by rw [← Nat.pow_succ]; congr 1; omega
        rw [h1, ← Nat.div_div_eq_div_mul, Nat.toNat_testBit]
        omega
      cases hbit : E.testBit (i - 1) with
      | false =>
        rw [hbit] at ebit
        refine CondX.eqF (by decide) ?_; conv => whnf
        repeat (first | (refine CondX.tt ?_; conv => whnf) | (refine CondX.ff ?_; conv => whnf))
        refine ih (i - 1, r, _) _ _ ⟨t6, t8, t11, E4, by dsimp only; omega, hr8', hLr, ?_, fun hh => ?_⟩ (by dsimp only; omega) ⟨rfl, rfl, rfl, rfl, rfl, rfl, congrArg (Value.int .u64) e1, trivial⟩
        · dsimp only; rw [hv2, ebit]; rfl
        · dsimp only at hh ⊢; rw [ebit, hst hh]; rfl
      | true =>
        rw [hbit] at ebit
        refine CondX.eqT (by decide) ?_; conv => whnf
        repeat (first | (refine CondX.tt ?_; conv => whnf) | (refine CondX.ff ?_; conv => whnf))
        refine mul1024_ok t8 t11 hr8' hr8 hLr hLba fun p hp16 hLp hvp => ?_; conv => whnf
        refine BoxX.mk fun m15 hm15 => ?_; conv => whnf
        refine Ob.mk ⟨by rw [List.size_toArray, ul_len, hp16]; rfl, ones_ul _⟩ ?_; conv => whnf
        refine StoreX.same (by rw [List.toList_toArray, ul_len, hp16]; exact Nat.le_of_ble_eq_true rfl) ?_; conv => whnf
        rw [List.toList_toArray, setSeg_all (by rw [ul_len, hp16]; rfl)]
        have x6 := hm15 _ _ t6
        have x8 := hm15 _ _ t8
        have x11 := hm15 _ _ t11
        refine rem1024_ok (l := p) (hput_same ..) hp16 hLp (by rw [hput_ne (by have := hm15 _ _ (E4 _ _ hm); omega)]; exact E4 _ _ hm) hlm hLm fun r3 c1 c2 c3 hr3 hL3 hw3 => ?_; conv => whnf
        refine Ob.mk ⟨by rw [List.size_toArray, ul_len, hr3]; rfl, ones_ul _⟩ ?_; conv => whnf
        refine StoreX.ne (by omega) (StoreX.at t8 (by rw [List.toList_toArray, ul_len, ul_len, hr3, hr8']; exact Nat.le_of_ble_eq_true rfl) ?_); conv => whnf
        rw [List.toList_toArray, setSeg_all (by rw [ul_len, ul_len, hr3, hr8'])]
        rw [hvp] at hw3
        have hw3 : lv r3 = modI (lv r * lv ba) (lv lm) := hw3
        obtain ⟨hN3, hHN⟩ : ∃ hN3 : Hp, hN3 = hput (hput h' m8 (ul r3, 317)) m15 (ul p, 376) := ⟨_, rfl⟩
        rw [← hHN]
        have v6 : hN3 m6 = some (ul (List.replicate 8 0), 317) := by rw [hHN, hput_ne (by omega), hput_ne (by omega)]; exact t6
        have v8 : hN3 m8 = some (ul r3, 317) := by rw [hHN, hput_ne (by omega), hput_same]
        have v11 : hN3 m11 = some (ul ba, 317) := by rw [hHN, hput_ne (by omega), hput_ne (by omega)]; exact t11
        have G4 : Ext h hN3 := fun b z hbz => by
          have z1 := hlo b z hbz
          have z2 := hm15 b z (E4 b z hbz)
          rw [hHN, hput_ne (by omega), hput_ne (by omega)]; exact E4 b z hbz
        clear hHN hm15
        refine ih (i - 1, r3, true) _ _ ⟨v6, v8, v11, G4, by dsimp only; omega, hr3, hL3, ?_, fun hh => by cases hh⟩ (by dsimp only; omega) ⟨rfl, rfl, rfl, rfl, rfl, rfl, congrArg (Value.int .u64) e1, trivial⟩
        dsimp only
        rw [hw3, hv2, show lv ba = modI (lv lb) (lv lm) from hvb, modI_mm, ← Int.pow_succ, ebit]
        rfl
    | true =>
      conv => whnf
      repeat (first | (refine CondX.tt ?_; conv => whnf) | (refine CondX.ff ?_; conv => whnf))
      refine mul1024_ok t8 t8 hr8' hr8' hLr hLr fun p hp16 hLp hvp => ?_; conv => whnf
      refine BoxX.mk fun m15 hm15 => ?_; conv => whnf
      refine Ob.mk ⟨by rw [List.size_toArray, ul_len, hp16]; rfl, ones_ul _⟩ ?_; conv => whnf
      refine StoreX.same (by rw [List.toList_toArray, ul_len, hp16]; exact Nat.le_of_ble_eq_true rfl) ?_; conv => whnf
      rw [List.toList_toArray, setSeg_all (by rw [ul_len, hp16]; rfl)]
      have x6 := hm15 _ _ t6
      have x8 := hm15 _ _ t8
      have x11 := hm15 _ _ t11
      refine rem1024_ok (l := p) (hput_same ..) hp16 hLp (by rw [hput_ne (by have := hm15 _ _ (E4 _ _ hm); omega)]; exact E4 _ _ hm) hlm hLm fun r2 c1 c2 c3 hr2 hL2 hw2 => ?_; conv => whnf
      refine Ob.mk ⟨by rw [List.size_toArray, ul_len, hr2]; rfl, ones_ul _⟩ ?_; conv => whnf
      refine StoreX.ne (by omega) (StoreX.at t8 (by rw [List.toList_toArray, ul_len, ul_len, hr2, hr8']; exact Nat.le_of_ble_eq_true rfl) ?_); conv => whnf
      rw [List.toList_toArray, setSeg_all (by rw [ul_len, ul_len, hr2, hr8'])]
      rw [hvp] at hw2
      have hw2 : lv r2 = modI (lv r * lv r) (lv lm) := hw2
      obtain ⟨hN, hHN⟩ : ∃ hN : Hp, hN = hput (hput h' m8 (ul r2, 317)) m15 (ul p, 376) := ⟨_, rfl⟩
      rw [← hHN]
      have u6 : hN m6 = some (ul (List.replicate 8 0), 317) := by rw [hHN, hput_ne (by omega), hput_ne (by omega)]; exact t6
      have u8 : hN m8 = some (ul r2, 317) := by rw [hHN, hput_ne (by omega), hput_same]
      have u11 : hN m11 = some (ul ba, 317) := by rw [hHN, hput_ne (by omega), hput_ne (by omega)]; exact t11
      have F4 : Ext h hN := fun b z hbz => by
        have z1 := hlo b z hbz
        have z2 := hm15 b z (E4 b z hbz)
        rw [hHN, hput_ne (by omega), hput_ne (by omega)]; exact E4 b z hbz
      clear hHN hm15
      have hv2 : lv r2 = modI (lv lb ^ (2 * (E / 2 ^ i))) (lv lm) := by rw [hw2, hv, modI_mm, ← Int.pow_add, Nat.two_mul]
      have e1 : IntKind.u64.wrap (((i : Nat) : Int) - 1) = ((i - 1 : Nat) : Int) := by rw [wrap_u64]; omega
      rw [e1]
      refine Ob.mk (by decide) ?_; conv => whnf
      have e2 : IntKind.u64.wrap (((i - 1 : Nat) : Int).tdiv 64) = (((i - 1) / 64 : Nat) : Int) := by rw [show (64 : Int) = ((64 : Nat) : Int) from rfl, tdiv_nat, wrap_u64]; omega
      rw [e2]
      refine Ob.mk (by omega) ?_; conv => whnf
      refine LoadX.lim0 (F4 _ _ he) ((i - 1) / 64) (by rw [Int.toNat_natCast, show (24, y24).snd.size = 1 from rfl, Nat.mul_one]; simp) (by omega) ?_; conv => whnf
      rw [hlE _ (by omega)]
      rw [e1]
      refine Ob.mk (by decide) ?_; conv => whnf
      have e3 : (((i - 1 : Nat) : Int)).tmod 64 = (((i - 1) % 64 : Nat) : Int) := tmod_nat (i - 1) 64
      rw [e3]
      refine Ob.mk (by omega) ?_; conv => whnf
      rw [shrN (by omega), show (1 : Int) = ((1 : Nat) : Int) from rfl, and64 (Nat.lt_of_le_of_lt (Nat.div_le_self _ _) (lmN_lt E _)) (by decide), bit_nat (by omega), show 64 * ((i - 1) / 64) + (i - 1) % 64 = i - 1 by omega]
      have ebit : E / 2 ^ (i - 1) = 2 * (E / 2 ^ i) + (E.testBit (i - 1)).toNat := by
        have h1 : 2 ^ i = 2 ^ (i - 1) * 2 := by rw [← Nat.pow_succ]; congr 1; omega
        rw [h1, ← Nat.div_div_eq_div_mul, Nat.toNat_testBit]
        omega
      cases hbit : E.testBit (i - 1) with
      | false =>
        rw [hbit] at ebit
        refine CondX.eqF (by decide) ?_; conv => whnf
        repeat (first | (refine CondX.tt ?_; conv => whnf) | (refine CondX.ff ?_; conv => whnf))
        refine ih (i - 1, r2, _) _ _ ⟨u6, u8, u11, F4, by dsimp only; omega, hr2, hL2, ?_, fun hh => ?_⟩ (by dsimp only; omega) ⟨rfl, rfl, rfl, rfl, rfl, rfl, congrArg (Value.int .u64) e1, trivial⟩
        · dsimp only; rw [hv2, ebit]; rfl
        · dsimp only at hh ⊢; rw [ebit, hst hh]; rfl
      | true =>
        rw [hbit] at ebit
        refine CondX.eqT (by decide) ?_; conv => whnf
        repeat (first | (refine CondX.tt ?_; conv => whnf) | (refine CondX.ff ?_; conv => whnf))
        refine mul1024_ok u8 u11 hr2 hr8 hL2 hLba fun p hp16 hLp hvp => ?_; conv => whnf
        refine BoxX.mk fun m15 hm15 => ?_; conv => whnf
        refine Ob.mk ⟨by rw [List.size_toArray, ul_len, hp16]; rfl, ones_ul _⟩ ?_; conv => whnf
        refine StoreX.same (by rw [List.toList_toArray, ul_len, hp16]; exact Nat.le_of_ble_eq_true rfl) ?_; conv => whnf
        rw [List.toList_toArray, setSeg_all (by rw [ul_len, hp16]; rfl)]
        have x6 := hm15 _ _ u6
        have x8 := hm15 _ _ u8
        have x11 := hm15 _ _ u11
        refine rem1024_ok (l := p) (hput_same ..) hp16 hLp (by rw [hput_ne (by have := hm15 _ _ (F4 _ _ hm); omega)]; exact F4 _ _ hm) hlm hLm fun r3 c1 c2 c3 hr3 hL3 hw3 => ?_; conv => whnf
        refine Ob.mk ⟨by rw [List.size_toArray, ul_len, hr3]; rfl, ones_ul _⟩ ?_; conv => whnf
        refine StoreX.ne (by omega) (StoreX.at u8 (by rw [List.toList_toArray, ul_len, ul_len, hr3, hr2]; exact Nat.le_of_ble_eq_true rfl) ?_); conv => whnf
        rw [List.toList_toArray, setSeg_all (by rw [ul_len, ul_len, hr3, hr2])]
        rw [hvp] at hw3
        have hw3 : lv r3 = modI (lv r2 * lv ba) (lv lm) := hw3
        obtain ⟨hN3, hHN⟩ : ∃ hN3 : Hp, hN3 = hput (hput hN m8 (ul r3, 317)) m15 (ul p, 376) := ⟨_, rfl⟩
        rw [← hHN]
        have v6 : hN3 m6 = some (ul (List.replicate 8 0), 317) := by rw [hHN, hput_ne (by omega), hput_ne (by omega)]; exact u6
        have v8 : hN3 m8 = some (ul r3, 317) := by rw [hHN, hput_ne (by omega), hput_same]
        have v11 : hN3 m11 = some (ul ba, 317) := by rw [hHN, hput_ne (by omega), hput_ne (by omega)]; exact u11
        have G4 : Ext h hN3 := fun b z hbz => by
          have z1 := hlo b z hbz
          have z2 := hm15 b z (F4 b z hbz)
          rw [hHN, hput_ne (by omega), hput_ne (by omega)]; exact F4 b z hbz
        clear hHN hm15
        refine ih (i - 1, r3, true) _ _ ⟨v6, v8, v11, G4, by dsimp only; omega, hr3, hL3, ?_, fun hh => by cases hh⟩ (by dsimp only; omega) ⟨rfl, rfl, rfl, rfl, rfl, rfl, congrArg (Value.int .u64) e1, trivial⟩
        dsimp only
        rw [hw3, hv2, show lv ba = modI (lv lb) (lv lm) from hvb, modI_mm, ← Int.pow_succ, ebit]
        rfl
  · have hi0 : i = 0 := by omega
    subst hi0
    clear ih
    rw [show (2 : Nat) ^ 0 = 1 from rfl, Nat.div_one] at hv
    refine LoadX.all (c := ul r) t8 (by rw [ul_len, hr8']; rfl) ?_; conv => whnf
    refine Ob.mk ⟨by rw [List.size_toArray, ul_len, hr8']; rfl, ones_ul _⟩ ?_; conv => whnf
    refine StoreX.at t6 (by rw [List.toList_toArray, ul_len, hr8']; exact Nat.le_of_ble_eq_true rfl) ?_; conv => whnf
    rw [setSeg_all (by rw [List.toList_toArray, ul_len, ul_len, hr8']; rfl), List.toList_toArray]
    refine LoadX.all (c := ul r) (hput_same ..) (by rw [ul_len, hr8']; rfl) ?_; conv => whnf
    refine RetX.drop (h' := h) (fun b z hbz => ?_) (hk r hr8' hLr hv)
    have := hlo b z hbz
    rw [hput_ne (by omega)]; exact E4 b z hbz
end
end Go.Proofs.YgvalwGreat.X
