import Derived.Test.YgvalwGreatE26
set_option linter.unusedVariables false
set_option linter.unusedSimpArgs false
namespace Go.Proofs.YgvalwGreat.X
open Go

section
variable {h : Hp} {K : Value → Hp → Prop} {x y z : Int} {a b : Nat}

theorem wc_ul8 {v c : Int} (hv0 : 0 ≤ v) (hv : v < W) (hc : 0 ≤ c ∧ c ≤ 1) : ∃ l : List Int, l.length = 8 ∧ isL l ∧ lv l = v + c * W ∧ ∃ a0 a1 a2 a3, wc v = ul [a0, a1, a2, a3] ∧ l = [a0, a1, a2, a3, c, 0, 0, 0] := by
  obtain ⟨a0, a1, a2, a3, u0, u1, u2, u3, e, ew⟩ := limbs hv0 hv
  refine ⟨[a0, a1, a2, a3, c, 0, 0, 0], rfl, fun d hd => ?_, ?_, a0, a1, a2, a3, ew, rfl⟩
  · simp only [List.mem_cons, List.not_mem_nil, or_false] at hd
    rcases hd with rfl | rfl | rfl | rfl | rfl | rfl | rfl | rfl <;> (try assumption) <;> (unfold U; omega)
  · simp only [lv]; unfold wv at e; rw [W_val]; omega
set_option maxRecDepth 100000 in
set_option maxHeartbeats 4000000 in
theorem eMulMod_ok (hx0 : 0 ≤ x) (hx : x < W) (hy0 : 0 ≤ y) (hy : y < W) (hz0 : 0 ≤ z) (hz : z < W) (hk : K (.agg (wc (modI (x * y) z)).toArray) h) : CallX Hval.prog 263 [.agg (wc x).toArray, .agg (wc y).toArray, .agg (wc z).toArray] h K := by
  refine CallX.of_xf T_ok Hval.func263 rfl (by kernel_rfl) (Nat.le_of_ble_eq_true rfl) ?_; conv => whnf
  refine BoxX.mk fun n1 hn1 => ?_; conv => whnf
  refine BoxX.on fun n2 hn2 hbd2 => ?_; conv => whnf
  refine BoxX.on fun n3 hn3 hbd3 => ?_; conv => whnf
  refine BoxX.on fun n4 hn4 hbd4 => ?_; conv => whnf
  refine DrawX.go T_ok hM Hval.func263 (tb := dr263) rfl (by kernel_rfl) ?_; conv => whnf
  repeat' (first
    | (refine Ob.mk (by first | decide | exact ⟨rfl, rfl⟩ | ((repeat (refine (ldV_ne (by omega)).trans ?_)); exact (ldV_same _ _ _ _ _ _ _).trans rfl)) ?_; conv => whnf)
    | (refine BoxX.on fun n hn hbd => ?_; conv => whnf)
    | (refine LoadX.of _ (by (repeat (refine (ldV_ne (by omega)).trans ?_)); exact (ldV_same _ _ _ _ _ _ _).trans rfl) ?_; conv => whnf)
    | (fail; conv => whnf)
    | (refine StoreX.same (Nat.le_of_ble_eq_true rfl) ?_; conv => whnf)
    | (refine StoreX.at (by (repeat (refine (hput_ne (by omega)).trans ?_)); exact hput_same ..) (Nat.le_of_ble_eq_true rfl) ?_; conv => whnf))
  refine eMul512_ok hx0 hx hy0 hy fun l hl hL hlv => ?_; conv => whnf
  repeat' (first
    | (refine Ob.mk (by first | decide | exact ⟨rfl, rfl⟩ | ((repeat (refine (ldV_ne (by omega)).trans ?_)); exact (ldV_same _ _ _ _ _ _ _).trans rfl)) ?_; conv => whnf)
    | (refine BoxX.on fun n hn hbd => ?_; conv => whnf)
    | (refine LoadX.of _ (by (repeat (refine (ldV_ne (by omega)).trans ?_)); exact (ldV_same _ _ _ _ _ _ _).trans rfl) ?_; conv => whnf)
    | (fail; conv => whnf)
    | (refine StoreX.same (Nat.le_of_ble_eq_true rfl) ?_; conv => whnf)
    | (refine StoreX.at (by (repeat (refine (hput_ne (by omega)).trans ?_)); exact hput_same ..) (Nat.le_of_ble_eq_true rfl) ?_; conv => whnf))
  refine rem512_ok hl hL hz0 hz fun a1 a2 a3 => ?_; conv => whnf
  rw [hlv]
  refine BoxW.mk fun n5 hn5 => ?_; conv => whnf
  have w1 : n1 ≠ n5 := ne_get (by rw [hput_ne (by omega), hput_ne (by omega), hput_ne (by omega)]; exact hput_same ..) hn5
  have w2 : n2 ≠ n5 := ne_get (by rw [hput_ne (by omega), hput_ne (by omega)]; exact hput_same ..) hn5
  have w3 : n3 ≠ n5 := ne_get (by rw [hput_ne (by omega)]; exact hput_same ..) hn5
  have w4 : n4 ≠ n5 := ne_get (hput_same ..) hn5
  have w0 : ∀ b z, h b = some z → b ≠ n5 := fun b z hb => by
    have := hn1 b z hb
    exact ne_get (by rw [hput_ne (by omega), hput_ne (by omega), hput_ne (by omega), hput_ne (by omega)]; exact hb) hn5
  refine BoxW.mk fun n6 hn6 => ?_; conv => whnf
  have v5 : n5 ≠ n6 := ne_get (hput_same ..) hn6
  have v1 : n1 ≠ n6 := ne_get (by rw [hput_ne (by omega), hput_ne (by omega), hput_ne (by omega), hput_ne (by omega)]; exact hput_same ..) hn6
  have v2 : n2 ≠ n6 := ne_get (by rw [hput_ne (by omega), hput_ne (by omega), hput_ne (by omega)]; exact hput_same ..) hn6
  have v3 : n3 ≠ n6 := ne_get (by rw [hput_ne (by omega), hput_ne (by omega)]; exact hput_same ..) hn6
  have v4 : n4 ≠ n6 := ne_get (by rw [hput_ne (by omega)]; exact hput_same ..) hn6
  have v0 : ∀ b z, h b = some z → b ≠ n6 := fun b z hb => by
    have := hn1 b z hb
    have := w0 b z hb
    exact ne_get (by rw [hput_ne (by omega), hput_ne (by omega), hput_ne (by omega), hput_ne (by omega), hput_ne (by omega)]; exact hb) hn6
  repeat' (first
    | (refine Ob.mk (by first | decide | exact ⟨rfl, rfl⟩ | ((repeat (refine (ldV_ne (by omega)).trans ?_)); exact (ldV_same _ _ _ _ _ _ _).trans rfl)) ?_; conv => whnf)
    | (refine BoxX.on fun n hn hbd => ?_; conv => whnf)
    | (refine LoadX.of _ (by (repeat (refine (ldV_ne (by omega)).trans ?_)); exact (ldV_same _ _ _ _ _ _ _).trans rfl) ?_; conv => whnf)
    | (fail; conv => whnf)
    | (refine StoreX.same (Nat.le_of_ble_eq_true rfl) ?_; conv => whnf)
    | (refine StoreX.at (by (repeat (refine (hput_ne (by omega)).trans ?_)); exact hput_same ..) (Nat.le_of_ble_eq_true rfl) ?_; conv => whnf))
  refine RetX.drop (h' := h) (by intro b x hb; have hlt := hn1 b x hb; have hne := w0 b x hb; have hne' := v0 b x hb; (repeat (rw [hput_ne (by omega)])); exact hb) ?_
  exact hk
theorem eAddOver_l {l : List Int} (hx0 : 0 ≤ x) (hx : x < W) (hy0 : 0 ≤ y) (hy : y < W) (hw : wc ((x + y) % W) = ul l) (hk : K (.tuple #[.agg (ul l).toArray, .bool (decide (W ≤ x + y))]) h) : CallX Hval.prog 146 [.agg (wc x).toArray, .agg (wc y).toArray] h K := by
  refine eAddOver_ok hx0 hx hy0 hy ?_
  rw [hw]; exact hk
set_option maxRecDepth 100000 in
set_option maxHeartbeats 4000000 in
theorem eAddMod_ok (hx0 : 0 ≤ x) (hx : x < W) (hy0 : 0 ≤ y) (hy : y < W) (hz0 : 0 ≤ z) (hz : z < W) (hk : K (.agg (wc (modI (x + y) z)).toArray) h) : CallX Hval.prog 262 [.agg (wc x).toArray, .agg (wc y).toArray, .agg (wc z).toArray] h K := by
  have hW := W_pos
  have m0 := Int.emod_nonneg (x + y) (b := W) (by omega)
  have m1 := Int.emod_lt_of_pos (x + y) hW
  obtain ⟨l0, hl0, hL0, hv0, a0, a1, a2, a3, ew, el0⟩ := wc_ul8 m0 m1 (c := 0) (by omega)
  obtain ⟨l1, hl1, hL1, hv1, b0, b1, b2, b3, ew', el1⟩ := wc_ul8 m0 m1 (c := 1) (by omega)
  have eb : [b0, b1, b2, b3] = [a0, a1, a2, a3] := by
    have := ew'.symm.trans ew
    simpa [ul] using this
  injection eb with e0 eb; injection eb with e1 eb; injection eb with e2 eb; injection eb with e3 eb
  subst e0 e1 e2 e3
  refine CallX.of_xf T_ok Hval.func262 rfl (by kernel_rfl) (Nat.le_of_ble_eq_true rfl) ?_; conv => whnf
  refine BoxX.mk fun n1 hn1 => ?_; conv => whnf
  refine BoxX.on fun n2 hn2 hbd2 => ?_; conv => whnf
  refine BoxX.on fun n3 hn3 hbd3 => ?_; conv => whnf
  refine BoxX.on fun n4 hn4 hbd4 => ?_; conv => whnf
  have em : (x + y) % W = if W ≤ x + y then x + y - W else x + y := by
    split
    · rw [← Int.sub_emod_right, Int.emod_eq_of_lt (by omega) (by omega)]
    · rw [Int.emod_eq_of_lt (by omega) (by omega)]
  repeat' (first
    | (refine Ob.mk (by first | decide | exact ⟨rfl, rfl⟩ | ((repeat (refine (ldV_ne (by omega)).trans ?_)); exact (ldV_same _ _ _ _ _ _ _).trans rfl)) ?_; conv => whnf)
    | (refine BoxX.on fun n hn hbd => ?_; conv => whnf)
    | (refine LoadX.of _ (by (repeat (refine (ldV_ne (by omega)).trans ?_)); exact (ldV_same _ _ _ _ _ _ _).trans rfl) ?_; conv => whnf)
    | (refine eAddOver_l (x := x) (y := y) hx0 hx hy0 hy ew' ?_; conv => whnf)
    | (refine StoreX.same (Nat.le_of_ble_eq_true rfl) ?_; conv => whnf)
    | (refine StoreX.at (by (repeat (refine (hput_ne (by omega)).trans ?_)); exact hput_same ..) (Nat.le_of_ble_eq_true rfl) ?_; conv => whnf))
  refine CondX.decI (fun hc => ?_) (fun hc => ?_) <;> conv => whnf
  · rw [em, if_pos hc] at hv1
    have hv1 : lv l1 = x + y := by omega
    rw [← hv1] at hk
    subst el1
    repeat' (first
      | (refine Ob.mk (by first | decide | exact ⟨rfl, rfl⟩ | ((repeat (refine (ldV_ne (by omega)).trans ?_)); exact (ldV_same _ _ _ _ _ _ _).trans rfl)) ?_; conv => whnf)
      | (refine BoxX.on fun n hn hbd => ?_; conv => whnf)
      | (refine LoadX.of _ (by (repeat (refine (ldV_ne (by omega)).trans ?_)); exact (ldV_same _ _ _ _ _ _ _).trans rfl) ?_; conv => whnf)
      | (refine rem512_ok hl1 hL1 hz0 hz fun c1 c2 c3 => ?_; conv => whnf)
      | (refine StoreX.same (Nat.le_of_ble_eq_true rfl) ?_; conv => whnf)
      | (refine StoreX.at (by (repeat (refine (hput_ne (by omega)).trans ?_)); exact hput_same ..) (Nat.le_of_ble_eq_true rfl) ?_; conv => whnf))
    refine RetX.drop (h' := h) (by intro b x hb; have hlt := hn1 b x hb; (repeat (rw [hput_ne (by omega)])); exact hb) ?_
    exact hk
  · rw [em, if_neg hc] at hv0
    have hv0 : lv l0 = x + y := by omega
    rw [← hv0] at hk
    subst el0
    repeat' (first
      | (refine Ob.mk (by first | decide | exact ⟨rfl, rfl⟩ | ((repeat (refine (ldV_ne (by omega)).trans ?_)); exact (ldV_same _ _ _ _ _ _ _).trans rfl)) ?_; conv => whnf)
      | (refine BoxX.on fun n hn hbd => ?_; conv => whnf)
      | (refine LoadX.of _ (by (repeat (refine (ldV_ne (by omega)).trans ?_)); exact (ldV_same _ _ _ _ _ _ _).trans rfl) ?_; conv => whnf)
      | (refine rem512_ok hl0 hL0 hz0 hz fun c1 c2 c3 => ?_; conv => whnf)
      | (refine StoreX.same (Nat.le_of_ble_eq_true rfl) ?_; conv => whnf)
      | (refine StoreX.at (by (repeat (refine (hput_ne (by omega)).trans ?_)); exact hput_same ..) (Nat.le_of_ble_eq_true rfl) ?_; conv => whnf))
    refine RetX.drop (h' := h) (by intro b x hb; have hlt := hn1 b x hb; (repeat (rw [hput_ne (by omega)])); exact hb) ?_
    exact hk
set_option maxRecDepth 100000 in
set_option maxHeartbeats 4000000 in
theorem eMulOver_ok (hx0 : 0 ≤ x) (hx : x < W) (hy0 : 0 ≤ y) (hy : y < W) (hk : K (.tuple #[.agg (wc (x * y % W)).toArray, .bool (decide (W ≤ x * y))]) h) : CallX Hval.prog 145 [.agg (wc x).toArray, .agg (wc y).toArray] h K := by
  refine CallX.of_xf T_ok Hval.func145 rfl (by kernel_rfl) (Nat.le_of_ble_eq_true rfl) ?_; conv => whnf
  refine BoxX.mk fun n1 hn1 => ?_; conv => whnf
  refine BoxX.on fun n2 hn2 hbd2 => ?_; conv => whnf
  refine BoxX.on fun n3 hn3 hbd3 => ?_; conv => whnf
  repeat' (first
    | (refine Ob.mk (by first | decide | exact ⟨rfl, rfl⟩ | ((repeat (refine (ldV_ne (by omega)).trans ?_)); exact (ldV_same _ _ _ _ _ _ _).trans rfl)) ?_; conv => whnf)
    | (refine BoxX.on fun n hn hbd => ?_; conv => whnf)
    | (refine LoadX.of _ (by (repeat (refine (ldV_ne (by omega)).trans ?_)); exact (ldV_same _ _ _ _ _ _ _).trans rfl) ?_; conv => whnf)
    | (fail; conv => whnf)
    | (refine StoreX.same (Nat.le_of_ble_eq_true rfl) ?_; conv => whnf)
    | (refine StoreX.at (by (repeat (refine (hput_ne (by omega)).trans ?_)); exact hput_same ..) (Nat.le_of_ble_eq_true rfl) ?_; conv => whnf))
  refine eMul512_ok hx0 hx hy0 hy fun l hl hL hlv => ?_; conv => whnf
  obtain ⟨d0, d1, d2, d3, d4, d5, d6, d7, rfl⟩ : ∃ d0 d1 d2 d3 d4 d5 d6 d7, l = [d0, d1, d2, d3, d4, d5, d6, d7] := by
    match l, hl with
    | [d0, d1, d2, d3, d4, d5, d6, d7], _ => exact ⟨_, _, _, _, _, _, _, _, rfl⟩
  refine BoxX.on fun n4 hn4 hbd4 => ?_; conv => whnf
  repeat' (first
    | (refine Ob.mk (by first | decide | exact ⟨rfl, rfl⟩ | ((repeat (refine (ldV_ne (by omega)).trans ?_)); exact (ldV_same _ _ _ _ _ _ _).trans rfl)) ?_; conv => whnf)
    | (refine BoxX.on fun n hn hbd => ?_; conv => whnf)
    | (refine LoadX.of _ (by (repeat (refine (ldV_ne (by omega)).trans ?_)); exact (ldV_same _ _ _ _ _ _ _).trans rfl) ?_; conv => whnf)
    | (fail; conv => whnf)
    | (refine StoreX.same (Nat.le_of_ble_eq_true rfl) ?_; conv => whnf)
    | (refine StoreX.at (by (repeat (refine (hput_ne (by omega)).trans ?_)); exact hput_same ..) (Nat.le_of_ble_eq_true rfl) ?_; conv => whnf))
  have u0 := hL d0 (by simp); have u1 := hL d1 (by simp); have u2 := hL d2 (by simp); have u3 := hL d3 (by simp)
  have u4 := hL d4 (by simp); have u5 := hL d5 (by simp); have u6 := hL d6 (by simp); have u7 := hL d7 (by simp)
  obtain ⟨c4, rfl⟩ := Int.eq_ofNat_of_zero_le u4.1; obtain ⟨c5, rfl⟩ := Int.eq_ofNat_of_zero_le u5.1
  obtain ⟨c6, rfl⟩ := Int.eq_ofNat_of_zero_le u6.1; obtain ⟨c7, rfl⟩ := Int.eq_ofNat_of_zero_le u7.1
  have v4 : c4 < 2 ^ 64 := by have := u4.2; omega
  have v5 : c5 < 2 ^ 64 := by have := u5.2; omega
  have v6 : c6 < 2 ^ 64 := by have := u6.2; omega
  have v7 : c7 < 2 ^ 64 := by have := u7.2; omega
  refine DrawX.go T_ok hM Hval.func145 (tb := dr145) rfl (by kernel_rfl) ?_; conv => whnf
  repeat' (first
    | (refine Ob.mk (by first | decide | exact ⟨rfl, rfl⟩ | ((repeat (refine (ldV_ne (by omega)).trans ?_)); exact (ldV_same _ _ _ _ _ _ _).trans rfl)) ?_; conv => whnf)
    | (refine BoxX.on fun n hn hbd => ?_; conv => whnf)
    | (refine LoadX.of _ (by (repeat (refine (ldV_ne (by omega)).trans ?_)); exact (ldV_same _ _ _ _ _ _ _).trans rfl) ?_; conv => whnf)
    | (fail; conv => whnf)
    | (refine StoreX.same (Nat.le_of_ble_eq_true rfl) ?_; conv => whnf)
    | (refine StoreX.at (by (repeat (refine (hput_ne (by omega)).trans ?_)); exact hput_same ..) (Nat.le_of_ble_eq_true rfl) ?_; conv => whnf))
  rw [or64 v4 v5, or64 (Nat.or_lt_two_pow v4 v5) v6, or64 (Nat.or_lt_two_pow (Nat.or_lt_two_pow v4 v5) v6) v7]
  refine RetX.drop (h' := h) (by intro b x hb; have hlt := hn1 b x hb; (repeat (rw [hput_ne (by omega)])); exact hb) ?_
  have ev : x * y = wv d0 d1 d2 d3 + W * lv [(c4 : Int), c5, c6, c7] := by
    rw [← hlv, W_val]; simp only [lv]; unfold wv; omega
  have w0 : 0 ≤ wv d0 d1 d2 d3 ∧ wv d0 d1 d2 d3 < W := by
    rw [W_val]; unfold wv; unfold U at u0 u1 u2 u3; omega
  have em : x * y % W = wv d0 d1 d2 d3 := by
    rw [ev, Int.add_mul_emod_self_left, Int.emod_eq_of_lt w0.1 w0.2]
  have ew : [Value.int .u64 d0, .int .u64 d1, .int .u64 d2, .int .u64 d3] = wc (x * y % W) := wc_eq u0 u1 u2 u3 em.symm
  refine cast (congrArg (fun v => K v h) ?_) hk
  refine (tup2 (congrArg (fun l : List Value => Value.agg l.toArray) ew) (congrArg Value.bool ?_)).symm
  rw [Bool.eq_iff_iff]
  simp only [decide_eq_true_eq, bne_iff_ne, ne_eq, Int.natCast_eq_zero, Nat.or_eq_zero_iff]
  simp only [lv] at ev
  constructor
  · intro hne
    have hp : 1 ≤ c4 ∨ 1 ≤ c5 ∨ 1 ≤ c6 ∨ 1 ≤ c7 := by omega
    generalize x * y = p at *
    rw [W_val] at *
    clear hn1 hn2 hbd2 hn3 hbd3 hn4 hbd4
    omega
  · intro hle hz
    obtain ⟨⟨⟨rfl, rfl⟩, rfl⟩, rfl⟩ := hz
    generalize x * y = p at *
    simp at ev
    omega
end
end Go.Proofs.YgvalwGreat.X
