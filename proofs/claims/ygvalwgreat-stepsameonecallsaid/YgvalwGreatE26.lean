import Derived.Test.YgvalwGreatE25
set_option linter.unusedVariables false
set_option linter.unusedSimpArgs false
namespace Go.Proofs.YgvalwGreat.X
open Go

section
variable {h : Hp} {K : Value → Hp → Prop} {x y z : Int} {a b : Nat}

theorem eSigned' {t : Bool} (hx0 : 0 ≤ x) (hx : x < W) (hk : K (.agg (wc (signI x t)).toArray) h) : CallX Hval.prog 351 [.agg (wc x).toArray, .bool t] h K := by
  obtain ⟨a, rfl⟩ := Int.eq_ofNat_of_zero_le hx0
  exact eSigned_ok hx hk
theorem eNegative' (hx0 : 0 ≤ x) (hx : x < W) (hk : K (.bool (bitI x 255)) h) : CallX Hval.prog 352 [.agg (wc x).toArray] h K := by
  obtain ⟨a, rfl⟩ := Int.eq_ofNat_of_zero_le hx0
  exact eNegative_ok hx hk
set_option maxRecDepth 100000 in
set_option maxHeartbeats 4000000 in
theorem eSDiv_ok (hx0 : 0 ≤ x) (hx : x < W) (hy0 : 0 ≤ y) (hy : y < W) (hk : K (.agg (wc (signI (signI x (bitI x 255) / signI y (bitI y 255)) (!(bitI x 255 == bitI y 255)))).toArray) h) : CallX Hval.prog 257 [.agg (wc x).toArray, .agg (wc y).toArray] h K := by
  have sx := signI_bd (x := x) (s := bitI x 255) hx0 hx
  have sy := signI_bd (x := y) (s := bitI y 255) hy0 hy
  have sd := div_bd (y := signI y (bitI y 255)) sx.1 sx.2 sy.1
  refine CallX.of_xf T_ok Hval.func257 rfl (by kernel_rfl) (Nat.le_of_ble_eq_true rfl) ?_; conv => whnf
  refine BoxX.mk fun n1 hn1 => ?_; conv => whnf
  refine BoxX.on fun n2 hn2 hbd2 => ?_; conv => whnf
  refine BoxX.on fun n3 hn3 hbd3 => ?_; conv => whnf
  refine DrawX.go T_ok hM Hval.func257 (tb := dr257) rfl (by kernel_rfl) ?_; conv => whnf
  repeat' (first
    | (refine Ob.mk (by first | decide | exact ⟨rfl, rfl⟩ | ((repeat (refine (ldV_ne (by omega)).trans ?_)); exact (ldV_same _ _ _ _ _ _ _).trans rfl)) ?_; conv => whnf)
    | (refine BoxX.on fun n hn hbd => ?_; conv => whnf)
    | (refine LoadX.of _ (by (repeat (refine (ldV_ne (by omega)).trans ?_)); exact (ldV_same _ _ _ _ _ _ _).trans rfl) ?_; conv => whnf)
    | ((first | refine eNegative' (x := x) hx0 hx ?_ | refine eNegative' (x := y) hy0 hy ?_ | refine eSigned' (x := x) hx0 hx ?_ | refine eSigned' (x := y) hy0 hy ?_ | refine eDiv_ok sx.1 sx.2 sy.1 sy.2 ?_); conv => whnf)
    | (refine StoreX.same (Nat.le_of_ble_eq_true rfl) ?_; conv => whnf)
    | (refine StoreX.at (by (repeat (refine (hput_ne (by omega)).trans ?_)); exact hput_same ..) (Nat.le_of_ble_eq_true rfl) ?_; conv => whnf))
  refine BoxW.mk fun n5 hn5 => ?_; conv => whnf
  have w1 : n1 ≠ n5 := ne_get (by rw [hput_ne (by omega), hput_ne (by omega)]; exact hput_same ..) hn5
  have w2 : n2 ≠ n5 := ne_get (by rw [hput_ne (by omega)]; exact hput_same ..) hn5
  have w3 : n3 ≠ n5 := ne_get (hput_same ..) hn5
  have w0 : ∀ b z, h b = some z → b ≠ n5 := fun b z hb => by
    have := hn1 b z hb
    exact ne_get (by rw [hput_ne (by omega), hput_ne (by omega), hput_ne (by omega)]; exact hb) hn5
  repeat' (first
    | (refine Ob.mk (by first | decide | exact ⟨rfl, rfl⟩ | ((repeat (refine (ldV_ne (by omega)).trans ?_)); exact (ldV_same _ _ _ _ _ _ _).trans rfl)) ?_; conv => whnf)
    | (refine BoxX.on fun n hn hbd => ?_; conv => whnf)
    | (refine LoadX.of _ (by (repeat (refine (ldV_ne (by omega)).trans ?_)); exact (ldV_same _ _ _ _ _ _ _).trans rfl) ?_; conv => whnf)
    | (fail; conv => whnf)
    | (refine StoreX.same (Nat.le_of_ble_eq_true rfl) ?_; conv => whnf)
    | (refine StoreX.at (by (repeat (refine (hput_ne (by omega)).trans ?_)); exact hput_same ..) (Nat.le_of_ble_eq_true rfl) ?_; conv => whnf))
  refine DrawX.go T_ok hM Hval.func257 (tb := dr257) rfl (by kernel_rfl) ?_; conv => whnf
  repeat' (first
    | (refine Ob.mk (by first | decide | exact ⟨rfl, rfl⟩ | ((repeat (refine (ldV_ne (by omega)).trans ?_)); exact (ldV_same _ _ _ _ _ _ _).trans rfl)) ?_; conv => whnf)
    | (refine BoxX.on fun n hn hbd => ?_; conv => whnf)
    | (refine LoadX.of _ (by (repeat (refine (ldV_ne (by omega)).trans ?_)); exact (ldV_same _ _ _ _ _ _ _).trans rfl) ?_; conv => whnf)
    | ((first | refine eNegative' (x := x) hx0 hx ?_ | refine eNegative' (x := y) hy0 hy ?_ | refine eSigned' (x := signI x (bitI x 255) / signI y (bitI y 255)) sd.1 sd.2 ?_); conv => whnf)
    | (refine StoreX.same (Nat.le_of_ble_eq_true rfl) ?_; conv => whnf)
    | (refine StoreX.at (by (repeat (refine (hput_ne (by omega)).trans ?_)); exact hput_same ..) (Nat.le_of_ble_eq_true rfl) ?_; conv => whnf))
  refine RetX.drop (h' := h) (by intro b x hb; have hlt := hn1 b x hb; have hne := w0 b x hb; (repeat (rw [hput_ne (by omega)])); exact hb) ?_
  exact hk
set_option maxRecDepth 100000 in
set_option maxHeartbeats 4000000 in
theorem eSMod_ok (hx0 : 0 ≤ x) (hx : x < W) (hy0 : 0 ≤ y) (hy : y < W) (hk : K (.agg (wc (signI (modI (signI x (bitI x 255)) (signI y (bitI y 255))) (bitI x 255))).toArray) h) : CallX Hval.prog 259 [.agg (wc x).toArray, .agg (wc y).toArray] h K := by
  have sx := signI_bd (x := x) (s := bitI x 255) hx0 hx
  have sy := signI_bd (x := y) (s := bitI y 255) hy0 hy
  have sd := modI_bd (y := signI y (bitI y 255)) sx.1 sx.2 sy.1
  refine CallX.of_xf T_ok Hval.func259 rfl (by kernel_rfl) (Nat.le_of_ble_eq_true rfl) ?_; conv => whnf
  refine BoxX.mk fun n1 hn1 => ?_; conv => whnf
  refine BoxX.on fun n2 hn2 hbd2 => ?_; conv => whnf
  refine BoxX.on fun n3 hn3 hbd3 => ?_; conv => whnf
  refine DrawX.go T_ok hM Hval.func259 (tb := dr259) rfl (by kernel_rfl) ?_; conv => whnf
  repeat' (first
    | (refine Ob.mk (by first | decide | exact ⟨rfl, rfl⟩ | ((repeat (refine (ldV_ne (by omega)).trans ?_)); exact (ldV_same _ _ _ _ _ _ _).trans rfl)) ?_; conv => whnf)
    | (refine BoxX.on fun n hn hbd => ?_; conv => whnf)
    | (refine LoadX.of _ (by (repeat (refine (ldV_ne (by omega)).trans ?_)); exact (ldV_same _ _ _ _ _ _ _).trans rfl) ?_; conv => whnf)
    | ((first | refine eNegative' (x := x) hx0 hx ?_ | refine eNegative' (x := y) hy0 hy ?_ | refine eSigned' (x := x) hx0 hx ?_ | refine eSigned' (x := y) hy0 hy ?_ | refine eMod_ok sx.1 sx.2 sy.1 sy.2 ?_); conv => whnf)
    | (refine StoreX.same (Nat.le_of_ble_eq_true rfl) ?_; conv => whnf)
    | (refine StoreX.at (by (repeat (refine (hput_ne (by omega)).trans ?_)); exact hput_same ..) (Nat.le_of_ble_eq_true rfl) ?_; conv => whnf))
  refine BoxW.mk fun n5 hn5 => ?_; conv => whnf
  have w1 : n1 ≠ n5 := ne_get (by rw [hput_ne (by omega), hput_ne (by omega)]; exact hput_same ..) hn5
  have w2 : n2 ≠ n5 := ne_get (by rw [hput_ne (by omega)]; exact hput_same ..) hn5
  have w3 : n3 ≠ n5 := ne_get (hput_same ..) hn5
  have w0 : ∀ b z, h b = some z → b ≠ n5 := fun b z hb => by
    have := hn1 b z hb
    exact ne_get (by rw [hput_ne (by omega), hput_ne (by omega), hput_ne (by omega)]; exact hb) hn5
  repeat' (first
    | (refine Ob.mk (by first | decide | exact ⟨rfl, rfl⟩ | ((repeat (refine (ldV_ne (by omega)).trans ?_)); exact (ldV_same _ _ _ _ _ _ _).trans rfl)) ?_; conv => whnf)
    | (refine BoxX.on fun n hn hbd => ?_; conv => whnf)
    | (refine LoadX.of _ (by (repeat (refine (ldV_ne (by omega)).trans ?_)); exact (ldV_same _ _ _ _ _ _ _).trans rfl) ?_; conv => whnf)
    | (fail; conv => whnf)
    | (refine StoreX.same (Nat.le_of_ble_eq_true rfl) ?_; conv => whnf)
    | (refine StoreX.at (by (repeat (refine (hput_ne (by omega)).trans ?_)); exact hput_same ..) (Nat.le_of_ble_eq_true rfl) ?_; conv => whnf))
  refine DrawX.go T_ok hM Hval.func259 (tb := dr259) rfl (by kernel_rfl) ?_; conv => whnf
  repeat' (first
    | (refine Ob.mk (by first | decide | exact ⟨rfl, rfl⟩ | ((repeat (refine (ldV_ne (by omega)).trans ?_)); exact (ldV_same _ _ _ _ _ _ _).trans rfl)) ?_; conv => whnf)
    | (refine BoxX.on fun n hn hbd => ?_; conv => whnf)
    | (refine LoadX.of _ (by (repeat (refine (ldV_ne (by omega)).trans ?_)); exact (ldV_same _ _ _ _ _ _ _).trans rfl) ?_; conv => whnf)
    | ((first | refine eNegative' (x := x) hx0 hx ?_ | refine eNegative' (x := y) hy0 hy ?_ | refine eSigned' (x := modI (signI x (bitI x 255)) (signI y (bitI y 255))) sd.1 sd.2 ?_); conv => whnf)
    | (refine StoreX.same (Nat.le_of_ble_eq_true rfl) ?_; conv => whnf)
    | (refine StoreX.at (by (repeat (refine (hput_ne (by omega)).trans ?_)); exact hput_same ..) (Nat.le_of_ble_eq_true rfl) ?_; conv => whnf))
  refine RetX.drop (h' := h) (by intro b x hb; have hlt := hn1 b x hb; have hne := w0 b x hb; (repeat (rw [hput_ne (by omega)])); exact hb) ?_
  exact hk
end
end Go.Proofs.YgvalwGreat.X
