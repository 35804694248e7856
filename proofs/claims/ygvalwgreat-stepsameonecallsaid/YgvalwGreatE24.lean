import Derived.Test.YgvalwGreatE23
set_option linter.unusedVariables false
set_option linter.unusedSimpArgs false
namespace Go.Proofs.YgvalwGreat.X
open Go

theorem wc_ul4 {v : Int} (h0 : 0 ≤ v) (h1 : v < W) : ∃ l : List Int, l.length = 4 ∧ isL l ∧ lv l = v ∧ wc v = ul l := wc_ul h0 h1
theorem W_B4 : W = 18446744073709551616 ^ 4 := by rw [W_val]; rfl
/-- Quotient and remainder, as whole numbers. -/
theorem divmod_of {x y q r : Int} (hx : 0 ≤ x) (hy : 0 ≤ y) (hq : 0 ≤ q) (hr : 0 ≤ r) (h0 : y = 0 → q = 0 ∧ r = 0) (h1 : y ≠ 0 → x = q * y + r ∧ r < y) : q = x / y ∧ r = modI x y := by
  unfold modI
  by_cases h : y = 0
  · rw [if_pos h]
    subst h
    rw [Int.ediv_zero]
    exact h0 rfl
  · rw [if_neg h]
    obtain ⟨e, hlt⟩ := h1 h
    rw [e, Int.add_comm, Int.add_mul_ediv_right _ _ h, Int.add_mul_emod_self_right, Int.ediv_eq_zero_of_lt hr hlt, Int.emod_eq_of_lt hr hlt]
    omega
section
variable {h : Hp} {K : Value → Hp → Prop} {x y : Int}
set_option maxRecDepth 100000 in
set_option maxHeartbeats 4000000 in
theorem divRem_ok (hx0 : 0 ≤ x) (hx : x < W) (hy0 : 0 ≤ y) (hy : y < W) (hk : ∀ a1 a2 a3 : Int, K (.tuple #[.agg (wc (x / y)).toArray, .agg (wc (modI x y)).toArray, .agg #[.int .u8 a1, .int .u8 a2, .int .u8 a3]]) h) : CallX Hval.prog 350 [.agg (wc x).toArray, .agg (wc y).toArray] h K := by
  obtain ⟨lA, hlA, hLA, eA, wA⟩ := wc_ul hx0 hx
  obtain ⟨lB, hlB, hLB, eB, wB⟩ := wc_ul hy0 hy
  rw [wA, wB]
  match lA, hlA with
  | [x0, x1, x2, x3], _ =>
  refine CallX.of_xf T_ok Hval.func350 rfl (by kernel_rfl) (Nat.le_of_ble_eq_true rfl) ?_; conv => whnf
  refine BoxX.mk fun m2 hm2 => ?_; conv => whnf
  refine BoxX.on fun m3 h23 hm3 => ?_; conv => whnf
  refine BoxX.on fun m4 h34 hm4 => ?_; conv => whnf
  refine BoxX.on fun m5 h45 hm5 => ?_; conv => whnf
  refine BoxX.on fun m6 h56 hm6 => ?_; conv => whnf
  repeat' (first
    | (refine Ob.mk (by first | decide | exact ⟨rfl, rfl⟩) ?_; conv => whnf)
    | (refine LoadX.of _ (by (repeat (refine (ldV_ne (by omega)).trans ?_)); exact (ldV_same _ _ _ _ _ _ _).trans rfl) ?_; conv => whnf))
  refine BoxX.on fun m7 h67 hm7 => ?_; conv => whnf
  refine Ob.mk ⟨rfl, rfl⟩ ?_; conv => whnf
  refine StoreX.same (Nat.le_of_ble_eq_true rfl) ?_; conv => whnf
  obtain ⟨h1, hh1⟩ : ∃ h1 : Hp, h1 = hput (hput (hput (hput (hput (hput h m2 (ul [x0, x1, x2, x3], 75)) m3 (ul lB, 75)) m4 ((75, y75).snd.zero, 75)) m5 ((75, y75).snd.zero, 75)) m6 ((378, y378).snd.zero, 378)) m7 (ul [x0, x1, x2, x3, 0, 0, 0, 0], 77) := ⟨_, rfl⟩
  erw [← hh1]
  have p3 : h1 m3 = some (ul lB, 75) := by rw [hh1, hput_ne (by omega), hput_ne (by omega), hput_ne (by omega), hput_ne (by omega), hput_same]
  have p4 : h1 m4 = some (ul [0, 0, 0, 0], 75) := by rw [hh1, hput_ne (by omega), hput_ne (by omega), hput_ne (by omega), hput_same]; rfl
  have p5 : h1 m5 = some (ul [0, 0, 0, 0], 75) := by rw [hh1, hput_ne (by omega), hput_ne (by omega), hput_same]; rfl
  have p6 : h1 m6 = some ([.int .u8 0, .int .u8 0, .int .u8 0], 378) := by rw [hh1, hput_ne (by omega), hput_same]; rfl
  have p7 : h1 m7 = some (ul [x0, x1, x2, x3, 0, 0, 0, 0], 77) := by rw [hh1, hput_same]
  have hold : ∀ b z, h b = some z → h1 b = some z ∧ b < m2 := fun b z hbz => by
    have := hm2 b z hbz
    rw [hh1, hput_ne (by omega), hput_ne (by omega), hput_ne (by omega), hput_ne (by omega), hput_ne (by omega), hput_ne (by omega)]; exact ⟨hbz, this⟩
  clear hh1
  refine LoadX.all (c := ul lB) p3 (by rw [ul_len, hlB]; rfl) ?_; conv => whnf
  have hL8 : isL [x0, x1, x2, x3, 0, 0, 0, 0] := by
    have := hLA.append (isL_zeros 4)
    exact this
  have e8 : lv [x0, x1, x2, x3, 0, 0, 0, 0] = x := by rw [← eA]; simp [lv]
  refine divide_ok (l := [x0, x1, x2, x3, 0, 0, 0, 0]) p7 rfl hL8 hlB hLB fun l' r a1 a2 a3 hl' hLl' hr0 hrW hz hnz => ?_; conv => whnf
  rw [eB] at hz hnz
  rw [e8] at hnz
  obtain ⟨hq, hrr⟩ := divmod_of hx0 hy0 (lv_bd hLl').1 hr0 hz hnz
  have hqW : lv l' < 18446744073709551616 ^ 4 := by
    rw [hq, ← W_B4]
    have := Int.ediv_le_self y hx0
    omega
  have hz4 := limbs_zero (n := 4) hLl' (by omega) hqW
  have hL4 : isL (l'.take 4) := fun z hz' => hLl' z (List.mem_of_mem_take hz')
  have hlen4 : (l'.take 4).length = 4 := by simp; omega
  have hq4 : lv (l'.take 4) = x / y := by
    rw [← hq, lv_drop (l := l') (n := 4) (by omega), lv_zeros (l := l'.drop 4) fun i => by
      rw [List.getD_eq_getElem?_getD, List.getElem?_drop, ← List.getD_eq_getElem?_getD]; exact hz4 _ (by omega)]
    omega
  have s5 : setSeg (ul [0, 0, 0, 0]) 0 (wc r) = wc r := setSeg_all rfl
  have q5 : hput h1 m7 (ul l', 77) m5 = some (ul [0, 0, 0, 0], 75) := by rw [hput_ne (by omega)]; exact p5
  refine Ob.mk ⟨rfl, rfl⟩ ?_; conv => whnf
  refine StoreX.at q5 (Nat.le_of_ble_eq_true rfl) ?_; conv => whnf
  erw [s5]
  refine Ob.mk ⟨rfl, rfl⟩ ?_; conv => whnf
  refine StoreX.at (by rw [hput_ne (by omega), hput_ne (by omega)]; exact p6) (Nat.le_of_ble_eq_true rfl) ?_; conv => whnf
  obtain ⟨h2, hh2⟩ : ∃ h2 : Hp, h2 = hput (hput (hput h1 m7 (ul l', 77)) m5 (wc r, 75)) m6 ([.int .u8 a1, .int .u8 a2, .int .u8 a3], 378) := ⟨_, rfl⟩
  erw [← hh2]
  have k7 : h2 m7 = some (ul l', 77) := by rw [hh2, hput_ne (by omega), hput_ne (by omega), hput_same]
  have k5 : h2 m5 = some (wc r, 75) := by rw [hh2, hput_ne (by omega), hput_same]
  have k6 : h2 m6 = some ([.int .u8 a1, .int .u8 a2, .int .u8 a3], 378) := by rw [hh2, hput_same]
  have k4 : h2 m4 = some (ul [0, 0, 0, 0], 75) := by rw [hh2, hput_ne (by omega), hput_ne (by omega), hput_ne (by omega)]; exact p4
  have kk : ∀ b z, h b = some z → h2 b = some z ∧ b < m2 := fun b z hbz => by
    have := hold b z hbz
    rw [hh2, hput_ne (by omega), hput_ne (by omega), hput_ne (by omega)]; exact this
  clear hh2 hold
  have ld7 : ∀ {hq : Hp}, hq m7 = some (ul l', 77) → ldV true 4 hq m7 0 = some (.agg (ul (l'.take 4)).toArray) := fun {hq} hk7 => by
    simp only [ldV, hk7]
    rw [if_pos (by rw [ul_len, hl']; decide)]
    simp [seg, ul, List.map_take]
  have ld5 : ∀ {hq : Hp}, hq m5 = some (wc r, 75) → ldV true 4 hq m5 0 = some (.agg (wc r).toArray) := fun {hq} hk => by
    obtain ⟨v, q1, q2⟩ := (LoadX.all (n := 4) (KK := fun v => v = .agg (wc r).toArray) hk rfl rfl).run
    rw [q1, q2]
  have ld6 : ∀ {hq : Hp}, hq m6 = some ([.int .u8 a1, .int .u8 a2, .int .u8 a3], 378) → ldV true 3 hq m6 0 = some (.agg #[.int .u8 a1, .int .u8 a2, .int .u8 a3]) := fun {hq} hk => by
    obtain ⟨v, q1, q2⟩ := (LoadX.all (n := 3) (KK := fun v => v = .agg #[.int .u8 a1, .int .u8 a2, .int .u8 a3]) hk rfl rfl).run
    rw [q1, q2]
  refine DrawX.go T_ok hM Hval.func350 (tb := dr350) rfl (by kernel_rfl) ?_; conv => whnf
  repeat (refine Ob.mk (by first | decide | omega) ?_; conv => whnf)
  refine LoadX.of _ (ld7 k7) ?_; conv => whnf
  refine LoadX.of _ (ld5 k5) ?_; conv => whnf
  refine LoadX.of _ (ld6 k6) ?_; conv => whnf
  refine Ob.mk ⟨by rw [List.size_toArray, ul_len, hlen4]; rfl, ones_ul _⟩ ?_; conv => whnf
  refine StoreX.at k4 (by rw [List.toList_toArray, ul_len, ul_len, hlen4]; decide) ?_; conv => whnf
  rw [setSeg_all (by rw [List.toList_toArray, ul_len, ul_len, hlen4]; rfl), List.toList_toArray]
  obtain ⟨h3, hh3⟩ : ∃ h3 : Hp, h3 = hput h2 m4 (ul (l'.take 4), 75) := ⟨_, rfl⟩
  rw [← hh3]
  have j7 : h3 m7 = some (ul l', 77) := by rw [hh3, hput_ne (by omega)]; exact k7
  have j5 : h3 m5 = some (wc r, 75) := by rw [hh3, hput_ne (by omega)]; exact k5
  have j6 : h3 m6 = some ([.int .u8 a1, .int .u8 a2, .int .u8 a3], 378) := by rw [hh3, hput_ne (by omega)]; exact k6
  have j4 : h3 m4 = some (ul (l'.take 4), 75) := by rw [hh3, hput_same]
  have jk : ∀ b z, h b = some z → h3 b = some z := fun b z hbz => by
    have := kk b z hbz
    rw [hh3, hput_ne (by omega)]; exact this.1
  clear hh3
  have ld4 : ldV true 4 h3 m4 0 = some (.agg (ul (l'.take 4)).toArray) := by
    obtain ⟨v, q1, q2⟩ := (LoadX.all (n := 4) (KK := fun v => v = .agg (ul (l'.take 4)).toArray) j4 (by rw [ul_len, hlen4]) rfl).run
    rw [q1, q2]
  have id5 : hput h3 m5 (setSeg (wc r) 0 (wc r), 75) = h3 := by rw [setSeg_all rfl]; exact hput_id j5
  have id6 : hput h3 m6 ([.int .u8 a1, .int .u8 a2, .int .u8 a3], 378) = h3 := hput_id j6
  repeat (refine Ob.mk (by first | exact ld7 j7 | exact ld5 j5 | exact ld6 j6 | exact ⟨rfl, rfl⟩) ?_; conv => whnf)
  refine StoreX.at j5 (Nat.le_of_ble_eq_true rfl) ?_; conv => whnf
  erw [id5]
  repeat (refine Ob.mk (by first | exact ld7 j7 | exact ld5 j5 | exact ld6 j6 | exact ⟨rfl, rfl⟩) ?_; conv => whnf)
  refine StoreX.at j6 (Nat.le_of_ble_eq_true rfl) ?_; conv => whnf
  erw [id6]
  repeat (refine Ob.mk (by first | exact ld7 j7 | exact ld5 j5 | exact ld6 j6 | exact ⟨rfl, rfl⟩) ?_; conv => whnf)
  refine LoadX.of _ ld4 ?_; conv => whnf
  refine LoadX.of _ (ld5 j5) ?_; conv => whnf
  refine LoadX.of _ (ld6 j6) ?_; conv => whnf
  rw [ul_wc hlen4 hL4, hq4, hrr]
  exact RetX.drop (h' := h) jk (hk a1 a2 a3)
end
end Go.Proofs.YgvalwGreat.X
