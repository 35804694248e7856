import Derived.Test.YgvalwGreatE24
set_option linter.unusedVariables false
set_option linter.unusedSimpArgs false
namespace Go.Proofs.YgvalwGreat.X
open Go

section
variable {h : Hp} {K : Value → Hp → Prop} {x y z : Int} {a b : Nat}

set_option maxRecDepth 100000 in
set_option maxHeartbeats 4000000 in
theorem rem512_ok {l : List Int} (hl : l.length = 8) (hL : isL l) (hy0 : 0 ≤ y) (hy : y < W) (hk : ∀ a1 a2 a3 : Int, K (.tuple #[.agg (wc (modI (lv l) y)).toArray, .agg #[.int .u8 a1, .int .u8 a2, .int .u8 a3]]) h) : CallX Hval.prog 355 [.agg (ul l).toArray, .agg (wc y).toArray] h K := by
  obtain ⟨lB, hlB, hLB, eB, wB⟩ := wc_ul hy0 hy
  rw [wB]
  refine CallX.of_xf T_ok Hval.func355 rfl (by kernel_rfl) (Nat.le_of_ble_eq_true rfl) ?_; conv => whnf
  refine BoxX.mk fun m2 hm2 => ?_; conv => whnf
  refine BoxX.on fun m3 h23 hm3 => ?_; conv => whnf
  refine BoxX.on fun m4 h34 hm4 => ?_; conv => whnf
  refine BoxX.on fun m5 h45 hm5 => ?_; conv => whnf
  obtain ⟨h1, hh1⟩ : ∃ h1 : Hp, h1 = hput (hput (hput (hput h m2 (ul l, 77)) m3 (ul lB, 75)) m4 ((75, y75).snd.zero, 75)) m5 ((378, y378).snd.zero, 378) := ⟨_, rfl⟩
  erw [← hh1]
  have p2 : h1 m2 = some (ul l, 77) := by rw [hh1, hput_ne (by omega), hput_ne (by omega), hput_ne (by omega), hput_same]
  have p3 : h1 m3 = some (ul lB, 75) := by rw [hh1, hput_ne (by omega), hput_ne (by omega), hput_same]
  have p4 : h1 m4 = some (ul [0, 0, 0, 0], 75) := by rw [hh1, hput_ne (by omega), hput_same]; rfl
  have p5 : h1 m5 = some ([.int .u8 0, .int .u8 0, .int .u8 0], 378) := by rw [hh1, hput_same]; rfl
  have hold : ∀ b z, h b = some z → h1 b = some z ∧ b < m2 := fun b z hbz => by
    have := hm2 b z hbz
    rw [hh1, hput_ne (by omega), hput_ne (by omega), hput_ne (by omega), hput_ne (by omega)]; exact ⟨hbz, this⟩
  clear hh1
  refine LoadX.all (c := ul lB) p3 (by rw [ul_len, hlB]; rfl) ?_; conv => whnf
  refine divide_ok p2 hl hL hlB hLB fun l' r a1 a2 a3 hl' hLl' hr0 hrW hz hnz => ?_; conv => whnf
  rw [eB] at hz hnz
  obtain ⟨-, hrr⟩ := divmod_of (lv_bd hL).1 hy0 (lv_bd hLl').1 hr0 hz hnz
  have s4 : setSeg (ul [0, 0, 0, 0]) 0 (wc r) = wc r := setSeg_all rfl
  refine Ob.mk ⟨rfl, rfl⟩ ?_; conv => whnf
  refine StoreX.at (c := ul [0, 0, 0, 0]) (t := 75) (by rw [hput_ne (by omega)]; exact p4) (Nat.le_of_ble_eq_true rfl) ?_; conv => whnf
  erw [s4]
  refine Ob.mk ⟨rfl, rfl⟩ ?_; conv => whnf
  refine StoreX.at (by rw [hput_ne (by omega), hput_ne (by omega)]; exact p5) (Nat.le_of_ble_eq_true rfl) ?_; conv => whnf
  refine LoadX.of _ (by refine (ldV_ne (by omega)).trans ?_; exact (ldV_same _ _ _ _ _ _ _).trans rfl) ?_; conv => whnf
  refine LoadX.of _ ((ldV_same _ _ _ _ _ _ _).trans rfl) ?_; conv => whnf
  rw [hrr]
  refine RetX.drop (h' := h) (fun b z hbz => ?_) (hk a1 a2 a3)
  have := hold b z hbz
  rw [hput_ne (by omega), hput_ne (by omega), hput_ne (by omega)]; exact this.1
set_option maxRecDepth 100000 in
set_option maxHeartbeats 4000000 in
theorem eDiv_ok (hx0 : 0 ≤ x) (hx : x < W) (hy0 : 0 ≤ y) (hy : y < W) (hk : K (.agg (wc (x / y)).toArray) h) : CallX Hval.prog 256 [.agg (wc x).toArray, .agg (wc y).toArray] h K := by
  refine CallX.of_xf T_ok Hval.func256 rfl (by kernel_rfl) (Nat.le_of_ble_eq_true rfl) ?_; conv => whnf
  refine BoxX.mk fun n1 hn1 => ?_; conv => whnf
  refine BoxX.on fun n2 hn2 hbd2 => ?_; conv => whnf
  refine BoxX.on fun n3 hn3 hbd3 => ?_; conv => whnf
  refine LoadX.of _ (by (repeat (refine (ldV_ne (by omega)).trans ?_)); exact (ldV_same _ _ _ _ _ _ _).trans rfl) ?_; conv => whnf
  refine LoadX.of _ (by (repeat (refine (ldV_ne (by omega)).trans ?_)); exact (ldV_same _ _ _ _ _ _ _).trans rfl) ?_; conv => whnf
  refine divRem_ok (x := x) (y := y) hx0 hx hy0 hy fun a1 a2 a3 => ?_; conv => whnf
  repeat' (first
    | (refine Ob.mk (by first | decide | exact ⟨rfl, rfl⟩ | ((repeat (refine (ldV_ne (by omega)).trans ?_)); exact (ldV_same _ _ _ _ _ _ _).trans rfl)) ?_; conv => whnf)
    | (refine BoxX.on fun n hn hbd => ?_; conv => whnf)
    | (refine LoadX.of _ (by (repeat (refine (ldV_ne (by omega)).trans ?_)); exact (ldV_same _ _ _ _ _ _ _).trans rfl) ?_; conv => whnf)
    | (fail; conv => whnf)
    | (refine StoreX.same (Nat.le_of_ble_eq_true rfl) ?_; conv => whnf)
    | (refine StoreX.at (by (repeat (refine (hput_ne (by omega)).trans ?_)); exact hput_same ..) (Nat.le_of_ble_eq_true rfl) ?_; conv => whnf))
  refine RetX.drop (h' := h) (by intro b x hb; have hlt := hn1 b x hb; (repeat (rw [hput_ne (by omega)])); exact hb) ?_
  exact hk
set_option maxRecDepth 100000 in
set_option maxHeartbeats 4000000 in
theorem eMod_ok (hx0 : 0 ≤ x) (hx : x < W) (hy0 : 0 ≤ y) (hy : y < W) (hk : K (.agg (wc (modI x y)).toArray) h) : CallX Hval.prog 258 [.agg (wc x).toArray, .agg (wc y).toArray] h K := by
  refine CallX.of_xf T_ok Hval.func258 rfl (by kernel_rfl) (Nat.le_of_ble_eq_true rfl) ?_; conv => whnf
  refine BoxX.mk fun n1 hn1 => ?_; conv => whnf
  refine BoxX.on fun n2 hn2 hbd2 => ?_; conv => whnf
  refine BoxX.on fun n3 hn3 hbd3 => ?_; conv => whnf
  refine LoadX.of _ (by (repeat (refine (ldV_ne (by omega)).trans ?_)); exact (ldV_same _ _ _ _ _ _ _).trans rfl) ?_; conv => whnf
  refine LoadX.of _ (by (repeat (refine (ldV_ne (by omega)).trans ?_)); exact (ldV_same _ _ _ _ _ _ _).trans rfl) ?_; conv => whnf
  refine divRem_ok (x := x) (y := y) hx0 hx hy0 hy fun a1 a2 a3 => ?_; conv => whnf
  repeat' (first
    | (refine Ob.mk (by first | decide | exact ⟨rfl, rfl⟩ | ((repeat (refine (ldV_ne (by omega)).trans ?_)); exact (ldV_same _ _ _ _ _ _ _).trans rfl)) ?_; conv => whnf)
    | (refine BoxX.on fun n hn hbd => ?_; conv => whnf)
    | (refine LoadX.of _ (by (repeat (refine (ldV_ne (by omega)).trans ?_)); exact (ldV_same _ _ _ _ _ _ _).trans rfl) ?_; conv => whnf)
    | (fail; conv => whnf)
    | (refine StoreX.same (Nat.le_of_ble_eq_true rfl) ?_; conv => whnf)
    | (refine StoreX.at (by (repeat (refine (hput_ne (by omega)).trans ?_)); exact hput_same ..) (Nat.le_of_ble_eq_true rfl) ?_; conv => whnf))
  refine RetX.drop (h' := h) (by intro b x hb; have hlt := hn1 b x hb; (repeat (rw [hput_ne (by omega)])); exact hb) ?_
  exact hk
end
end Go.Proofs.YgvalwGreat.X
