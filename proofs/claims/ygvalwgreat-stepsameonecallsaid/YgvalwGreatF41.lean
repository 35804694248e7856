import Derived.Test.YgvalwGreatF40
set_option linter.unusedVariables false
set_option linter.unusedSimpArgs false
namespace Go.Proofs.YgvalwGreat.X
open Go

theorem LoopX.share {P : Program} {f : FuncId} {n : Nat} {K : Value → Hp → Prop} {G : Prop} (Inv : Env → Hp → Prop) {c : Code} {k : List Item} (hmain : ∀ ρ h', Inv ρ h' → LoopX P f n K c k ρ h')
    (hgo : (∀ ρ h', Inv ρ h' → LoopX P f n K c k ρ h') → G) : G := hgo hmain
theorem ne_get {H : Hp} {a b : Nat} {x} (h1 : H a = some x) (h2 : H b = none) : a ≠ b := by rintro rfl; rw [h1] at h2; cases h2
theorem join_put_ne {hi hm : Hp} {b m : Nat} {x} (hb : b ≠ m) : join hi (hput hm m x) b = join hi hm b := by
  unfold join; rw [hput_ne hb]
theorem hput_old {hm : Hp} {c m : Nat} {x y} (hc : hm c = some x) (hn : hm m = none) : hput hm m y c = some x := by
  have : c ≠ m := by rintro rfl; rw [hc] at hn; cases hn
  rw [hput_ne this]; exact hc

theorem StoreX.top {hi hm0 : Hp} {m o : Nat} {c : List Value} {t : TypeId} {vs : List Value} {KK : Hp → Prop} (hd : Dj hi (hput hm0 m (c, t))) (c' : List Value) (e : setSeg c o vs = c') (hl : o + vs.length ≤ c.length) (hk : Dj hi (hput hm0 m (c', t)) → KK (join hi (hput hm0 m (c', t)))) :
    StoreX (join hi (hput hm0 m (c, t))) m o vs KK := by
  subst e
  refine StoreX.jm hd (hput_same ..) hl ?_
  rw [hput_hput]
  refine hk fun b => ?_
  rcases hd b with h1 | h1
  · exact .inl h1
  · by_cases hb : b = m
    · subst hb; rw [hput_same] at h1; cases h1
    · rw [hput_ne hb] at h1 ⊢; exact .inr h1
theorem StoreX.under {hi hm0 : Hp} {m m' o : Nat} {c : List Value} {t : TypeId} {y} {vs : List Value} {KK : Hp → Prop} (hd : Dj hi (hput (hput hm0 m (c, t)) m' y)) (hne : m ≠ m') (c' : List Value) (e : setSeg c o vs = c') (hl : o + vs.length ≤ c.length)
    (hk : Dj hi (hput (hput hm0 m (c', t)) m' y) → KK (join hi (hput (hput hm0 m (c', t)) m' y))) : StoreX (join hi (hput (hput hm0 m (c, t)) m' y)) m o vs KK := by
  rw [hput_comm hne.symm] at hd ⊢
  refine StoreX.top hd c' e hl fun hd' => ?_
  rw [hput_comm hne] at hd' ⊢
  exact hk hd'
theorem StoreX.under' {hi hm0 : Hp} {m m' o : Nat} {c : List Value} {t : TypeId} {y} {vs : List Value} {KK : Hp → Prop} (hne : m ≠ m') (hd : Dj hi (hput (hput hm0 m (c, t)) m' y)) (c' : List Value) (e : setSeg c o vs = c') (hl : o + vs.length ≤ c.length)
    (hk : Dj hi (hput (hput hm0 m (c', t)) m' y) → KK (join hi (hput (hput hm0 m (c', t)) m' y))) : StoreX (join hi (hput (hput hm0 m (c, t)) m' y)) m o vs KK := StoreX.under hd hne c' e hl hk
/-- The mutable blocks of a clone: its result's, and the new world's. -/
abbrev cHB (hm : Hp) (m2 m3 : Nat) (W : List Value) : Hp := hput (hput hm m2 (z109, 109)) m3 (W, 109)
abbrev cW (sA sWA sWS sR sL sT sM sG : Sl) : List Value := [sl sA, sl sWA, sl sWS, sl sR, sl sL, sl sT, sl sM, sl sG]
theorem cHB_none {hm : Hp} {m2 m3 m : Nat} {W W' : List Value} (h3 : m3 ≠ m) (h : cHB hm m2 m3 W m = none) : cHB hm m2 m3 W' m = none := by
  unfold cHB at *
  rwa [hput_ne h3.symm] at h ⊢
/-- A list to be copied: its new block, if it is not nil. -/
def NewB (hi HB : Hp) (n : Nat) (z : List Value) (tt : TypeId) (s : Sl) (h' : Hp) : Prop :=
  (n = 0 ∧ s = nilS ∧ Dj hi HB ∧ h' = join hi HB) ∨ ∃ m, s = (some ⟨m, 0, none⟩, n, n) ∧ HB m = none ∧ Dj hi (hput HB m (zeros z n, tt)) ∧ h' = join hi (hput HB m (zeros z n, tt))
structure InvT (hm hi4 : Hp) (w : YW) (c o m2 m3 : Nat) (sR sL : Sl) (ρ : Env) (h' : Hp) : Prop where
  agr : agrees ρ [(0, .pointer (some ⟨c, o, none⟩)), (2, .pointer (some ⟨m2, 0, none⟩)), (3, .pointer (some ⟨m3, 0, none⟩)), (125, sl w.sT), (126, .int .i64 w.sT.2.1), (127, .int .i64 0)]
  ex : ∃ hi' sA acc sWA sM sG sT, Ext hi4 hi' ∧ AccL hi' sA acc ∧ acc.map YAcct.v = w.acc.map YAcct.v ∧ Arr hi' sWA 20 (w.wa.map bcells) ∧ Arr hi' sM 20 (w.made.map bcells) ∧ Arr hi' sG 20 (w.gone.map bcells) ∧
    NewB hi' (cHB hm m2 m3 (cW sA sWA nilS sR sL sT sM sG)) w.sT.2.1 z263 263 sT h'
structure InvM (hm hi4 : Hp) (w : YW) (c o m2 m3 : Nat) (sR sL : Sl) (ρ : Env) (h' : Hp) : Prop where
  agr : agrees ρ [(0, .pointer (some ⟨c, o, none⟩)), (2, .pointer (some ⟨m2, 0, none⟩)), (3, .pointer (some ⟨m3, 0, none⟩)), (161, sl w.sWS), (162, .int .i64 w.sWS.2.1), (163, .int .i64 0)]
  ex : ∃ hi' sA acc sWA sM sG sT tmp sWS, Ext hi4 hi' ∧ AccL hi' sA acc ∧ acc.map YAcct.v = w.acc.map YAcct.v ∧ Arr hi' sWA 20 (w.wa.map bcells) ∧ Arr hi' sM 20 (w.made.map bcells) ∧ Arr hi' sG 20 (w.gone.map bcells) ∧
    TempL hi' sT tmp ∧ tmp.map YTemp.v = w.temps.map YTemp.v ∧ NewB hi' (cHB hm m2 m3 (cW sA sWA sWS sR sL sT sM sG)) w.sWS.2.1 z190 190 sWS h'
theorem Dj.mono {hi hm hm' : Hp} (hd : Dj hi hm) (he : Ext hm' hm) : Dj hi hm' := fun b => by
  rcases hd b with h1 | h1
  · exact .inl h1
  · refine .inr ?_
    cases hx : hm' b with
    | none => rfl
    | some x => rw [he _ _ hx] at h1; cases h1
theorem Ext.jmono {hi hm hm' : Hp} (hd : Dj hi hm) (he : Ext hm' hm) : Ext (join hi hm') (join hi hm) := fun b x hb => by
  unfold join at hb ⊢
  split
  · rename_i q; rw [q] at hb; exact hb
  · rename_i q; rw [q] at hb; exact he _ _ hb
theorem Ext.freeze {hi hm : Hp} {m : Nat} {x} (hin : hi m = none) : Ext (join (hput hi m x) hm) (join hi (hput hm m x)) := fun b z hb => by
  by_cases hbm : b = m
  · subst hbm; rw [join_l (hput_same ..)] at hb; rw [join_r hin, hput_same]; exact hb
  · unfold join at hb ⊢
    rw [hput_ne hbm] at hb ⊢; exact hb
theorem Dj.freeze {hi hm : Hp} {m : Nat} {x y} (hd : Dj hi (hput hm m x)) (hn : hm m = none) : Dj (hput hi m y) hm := fun b => by
  by_cases hbm : b = m
  · subst hbm; exact .inr hn
  · have := hd b
    rw [hput_ne hbm] at this ⊢; exact this
theorem Dj.lft {hi hm : Hp} (hd : Dj hi hm) {m : Nat} {x} (hb : hm m = some x) : hi m = none := by
  rcases hd m with h1 | h1
  · exact h1
  · rw [hb] at h1; cases h1

section
variable {hi hm : Hp} {K : Value → Hp → Prop}





set_option maxRecDepth 100000 in
set_option maxHeartbeats 4000000 in
theorem clone_ok (hd : Dj hi hm) {c o : Nat} {cells : List Value} {t : TypeId} {w : YW} (hc : hm c = some (cells, t)) (hW : ∀ j, j < 8 → cells[o + j]? = w.cells[j]?) (hok : w.ok hi (join hi hm)) (hr : w.room)
    (hk : ∀ hi' w', Ext hi hi' → Dj hi' hm → w'.okC hi' → w.same w' → K (.agg w'.cells.toArray) (join hi' hm)) :
    CallX Hval.prog 101 [.pointer (some ⟨c, o, none⟩)] (join hi hm) K := by
  refine CallX.of_xf T_ok Hval.func101 rfl (by kernel_rfl) (Nat.le_of_ble_eq_true rfl) ?_; conv => whnf
  refine BoxX.jm hd fun m2 hi2 hm2 hd2 => ?_; conv => whnf
  have hc2 : hput hm m2 (z109, 109) c = some (cells, t) := hput_old hc hm2
  refine DrawX.go T_ok hM Hval.func101 (tb := dr101) rfl (by kernel_rfl) ?_; conv => whnf
  refine LoadX.blk (join_hm hd2 hc2) (sl w.sR) (hW 3 (by decide)) ?_; conv => whnf
  refine LoadX.blk (join_hm hd2 hc2) (sl w.sL) (hW 4 (by decide)) ?_; conv => whnf
  refine CallX.fj hd2 (natOf_ok hok.ref fun sR hi3 f3 g3 hd3 => ?_); conv => whnf
  refine Ob.mk (ldV_blk (join_hm hd3 hc2) (hW 4 (by decide))) ?_; conv => whnf
  refine logsOf_ok hd3 (hok.logs.ext (Ext.j2 f3 hd3 (Ext.new hm2))) (fun x hx => (hok.logsE x hx).ext f3) hr.logs fun sL yl hi4 f4 hd4 g4 l4 cl4 => ?_; conv => whnf
  refine BoxW.jm hd4 fun m3 hi5 hm3 hd5 => ?_; conv => whnf
  refine Ob.mk ⟨rfl, rfl⟩ ?_; conv => whnf
  refine StoreX.top hd5 [sl nilS, sl nilS, sl nilS, sl sR, sl sL, sl nilS, sl nilS, sl nilS] rfl (Nat.le_of_ble_eq_true rfl) fun hd6 => ?_; conv => whnf
  have hEx4 : Ext hi hi4 := f3.trans f4
  have hok4 := hok.up hEx4
  have hc3 : ∀ x, hput (hput hm m2 (z109, 109)) m3 x c = some (cells, t) := fun x => hput_old hc2 hm3
  have hm23 : m2 ≠ m3 := ne_get (hput_same ..) hm3
  apply LoopX.share (P := Hval.prog) (f := 101) (n := Hval.f101.ntmps) (K := K) (InvM hm hi4 w c o m2 m3 sR sL)
  rotate_left
  intro mainM
  apply LoopX.share (P := Hval.prog) (f := 101) (n := Hval.f101.ntmps) (K := K) (InvT hm hi4 w c o m2 m3 sR sL)
  rotate_left
  intro mainT
  refine LoadX.blk (join_hm hd6 (hc3 _)) (sl w.sA) (hW 0 (by decide)) ?_; conv => whnf
  have nA := hok.acc.n
  have hrA := hr.acc
  cases hsA : w.sA.1 with
  | none =>
    repeat (first | (refine CondX.tt ?_; conv => whnf) | (refine CondX.ff ?_; conv => whnf))
    have hA0 : w.sA.2.1 = 0 := by have := hok.acc.arr.nil hsA; have := hok.acc.arr.le; omega
    refine LoadX.blk (join_hm hd6 (hc3 _)) (sl w.sA) (hW 0 (by decide)) ?_; conv => whnf
    refine LoopX.st T_ok Hval.func101 (σ := Unit) (fun _ => [(0, .pointer (some ⟨c, o, none⟩)), (2, .pointer (some ⟨m2, 0, none⟩)), (3, .pointer (some ⟨m3, 0, none⟩)), (40, .int .i64 w.sA.2.1), (41, .int .i64 0)])
      (fun _ h' => h' = join hi4 (hput (hput hm m2 (z109, 109)) m3 ([sl nilS, sl nilS, sl nilS, sl sR, sl sL, sl nilS, sl nilS, sl nilS], 109))) (fun _ => 0) () ⟨rfl, rfl, rfl, rfl, rfl, trivial⟩ rfl ?_
    rintro _ ρ h' rfl ih
    conv => whnf
    refine CondX.dF (by omega) ?_; conv => whnf
    have hcX : hput (hput hm m2 (z109, 109)) m3 ([sl nilS, sl nilS, sl nilS, sl sR, sl sL, sl nilS, sl nilS, sl nilS], 109) c = some (cells, t) := hc3 _
    have hcX' : ∀ {x}, hput (hput hm m2 (z109, 109)) m3 x c = some (cells, t) := fun {x} => hc3 x
    have hokX := hok4
    refine LoadX.blk (join_hm hd6 hcX) (sl w.sWA) (hW 1 (by decide)) ?_; conv => whnf
    refine CallX.fj hd6 (addrsOf_ok hokX.wa.arr hr.wa fun sWA hi7 f7 g7 hd7 => ?_); conv => whnf
    refine StoreX.top hd7 [sl nilS, sl sWA, sl nilS, sl sR, sl sL, sl nilS, sl nilS, sl nilS] rfl (Nat.le_of_ble_eq_true rfl) fun hd8 => ?_; conv => whnf
    refine LoadX.blk (join_hm hd8 hcX') (sl w.sM) (hW 6 (by decide)) ?_; conv => whnf
    refine CallX.fj hd8 (addrsOf_ok (hokX.made.arr.ext f7) hr.made fun sM hi8 f8 g8 hd9 => ?_); conv => whnf
    refine StoreX.top hd9 [sl nilS, sl sWA, sl nilS, sl sR, sl sL, sl nilS, sl sM, sl nilS] rfl (Nat.le_of_ble_eq_true rfl) fun hd10 => ?_; conv => whnf
    refine LoadX.blk (join_hm hd10 hcX') (sl w.sG) (hW 7 (by decide)) ?_; conv => whnf
    refine CallX.fj hd10 (addrsOf_ok ((hokX.gone.arr.ext f7).ext f8) hr.gone fun sG hi9 f9 g9 hd11 => ?_); conv => whnf
    refine StoreX.top hd11 [sl nilS, sl sWA, sl nilS, sl sR, sl sL, sl nilS, sl sM, sl sG] rfl (Nat.le_of_ble_eq_true rfl) fun hd12 => ?_; conv => whnf
    refine LoadX.blk (join_hm hd12 hcX') (sl w.sT) (hW 5 (by decide)) ?_; conv => whnf
    have eF : Ext hi4 hi9 := (f7.trans f8).trans f9
    have eH : Ext hi9 hi9 := Ext.refl _
    have hdF : Dj hi9 (cHB hm m2 m3 (cW nilS sWA nilS sR sL nilS sM sG)) := hd12
    have hxF : Ext (join hi9 (cHB hm m2 m3 (cW nilS sWA nilS sR sL nilS sM sG))) (join hi9 (cHB hm m2 m3 (cW nilS sWA nilS sR sL nilS sM sG))) := Ext.refl _
    have hac : w.acc = [] := List.eq_nil_of_length_eq_zero (by omega)
    have hAcc : AccL hi9 nilS [] := ⟨Arr_nil _ 24, fun q hq => by cases hq⟩
    have hAccv : ([] : List YAcct).map YAcct.v = w.acc.map YAcct.v := by rw [hac]
    have hget3 : cHB hm m2 m3 (cW nilS sWA nilS sR sL nilS sM sG) m3 = some (cW nilS sWA nilS sR sL nilS sM sG, 109) := hput_same ..
    have hput_c : ∀ mT, cHB hm m2 m3 (cW nilS sWA nilS sR sL nilS sM sG) mT = none → ∀ x, hput (hput (cHB hm m2 m3 (cW nilS sWA nilS sR sL nilS sM sG)) mT (zeros z263 w.sT.2.1, 263)) m3 x c = some (cells, t) := fun mT hmT x => by
      have q1 : c ≠ m3 := ne_get hc2 hm3
      rw [hput_ne q1]
      exact hput_old (hc3 _) hmT
    have hFinT : ∀ mT, m3 ≠ mT → cHB hm m2 m3 (cW nilS sWA nilS sR sL nilS sM sG) mT = none → Dj hi9 (hput (hput (cHB hm m2 m3 (cW nilS sWA nilS sR sL nilS sM sG)) mT (zeros z263 w.sT.2.1, 263)) m3 (cW nilS sWA nilS sR sL (some ⟨mT, 0, none⟩, w.sT.2.1, w.sT.2.1) sM sG, 109)) →
        Ext (join hi9 (hput (cHB hm m2 m3 (cW nilS sWA nilS sR sL (some ⟨mT, 0, none⟩, w.sT.2.1, w.sT.2.1) sM sG)) mT (zeros z263 w.sT.2.1, 263))) (join hi9 (hput (hput (cHB hm m2 m3 (cW nilS sWA nilS sR sL nilS sM sG)) mT (zeros z263 w.sT.2.1, 263)) m3 (cW nilS sWA nilS sR sL (some ⟨mT, 0, none⟩, w.sT.2.1, w.sT.2.1) sM sG, 109))) ∧
        Dj hi9 (hput (cHB hm m2 m3 (cW nilS sWA nilS sR sL (some ⟨mT, 0, none⟩, w.sT.2.1, w.sT.2.1) sM sG)) mT (zeros z263 w.sT.2.1, 263)) ∧ cHB hm m2 m3 (cW nilS sWA nilS sR sL (some ⟨mT, 0, none⟩, w.sT.2.1, w.sT.2.1) sM sG) mT = none := fun mT h3 hn hdd => by
      rw [hput_comm h3, hput_hput] at hdd ⊢
      exact ⟨Ext.refl _, hdd, cHB_none h3 hn⟩
    have hT0 := hok.temps.arr
    cases hsT : w.sT.1 with
    | none =>
      repeat (first | (refine CondX.tt ?_; conv => whnf) | (refine CondX.ff ?_; conv => whnf))
      have hTz : w.sT.2.1 = 0 := by have := hT0.nil hsT; have := hT0.le; omega
      refine LoadX.blk (join_hm hd12 hcX') (sl w.sT) (hW 5 (by decide)) ?_; conv => whnf
      refine LoopX.drop (h0 := join hi9 (cHB hm m2 m3 (cW nilS sWA nilS sR sL nilS sM sG))) hxF (mainT _ _ ⟨⟨rfl, rfl, rfl, rfl, rfl, rfl, trivial⟩, hi9, nilS, ([] : List YAcct), sWA, sM, sG, nilS, eF, hAcc, hAccv, (((g7.ext f8).ext f9).ext eH), ((g8.ext f9).ext eH), g9.ext eH, .inl ⟨hTz, rfl, hdF, rfl⟩⟩)
    | some bT =>
      repeat (first | (refine CondX.tt ?_; conv => whnf) | (refine CondX.ff ?_; conv => whnf))
      refine LoadX.blk (join_hm hd12 hcX') (sl w.sT) (hW 5 (by decide)) ?_; conv => whnf
      refine MakeX.jm hd12 w.sT.2.1 rfl rfl (by decide) (show ((w.sT.2.1 : Nat) : Int) * 72 ≤ 2 ^ 47 by have := hr.temps; omega) fun mT hiT hmT hdT => ?_; conv => whnf
      have hm3T : m3 ≠ mT := ne_get hget3 hmT
      refine StoreX.jm hdT (by rw [hput_ne hm3T]; exact hget3) (Nat.le_of_ble_eq_true rfl) ?_; conv => whnf
      have hdT2 := hdT.put (y := (cW nilS sWA nilS sR sL (some ⟨mT, 0, none⟩, w.sT.2.1, w.sT.2.1) sM sG, 109)) (show _ = some _ by rw [hput_ne hm3T]; exact hget3)
      have hcT : ∀ x, hput (hput _ mT (zeros z263 w.sT.2.1, 263)) m3 x c = some (cells, t) := fun x => hput_c mT hmT x
      refine LoadX.blk (join_hm hdT2 (hcT _)) (sl w.sT) (hW 5 (by decide)) ?_; conv => whnf
      obtain ⟨q1, q2, q3⟩ := hFinT mT hm3T hmT hdT2
      refine LoopX.drop (h0 := join hi9 (hput (cHB hm m2 m3 (cW nilS sWA nilS sR sL (some ⟨mT, 0, none⟩, w.sT.2.1, w.sT.2.1) sM sG)) mT (zeros z263 w.sT.2.1, 263))) q1 (mainT _ _ ⟨⟨rfl, rfl, rfl, rfl, rfl, rfl, trivial⟩, hi9, nilS, ([] : List YAcct), sWA, sM, sG, (some ⟨mT, 0, none⟩, w.sT.2.1, w.sT.2.1), eF, hAcc, hAccv, (((g7.ext f8).ext f9).ext eH), ((g8.ext f9).ext eH), g9.ext eH, .inr ⟨mT, rfl, q3, q2, rfl⟩⟩)
  | some bA =>
    repeat (first | (refine CondX.tt ?_; conv => whnf) | (refine CondX.ff ?_; conv => whnf))
    refine LoadX.blk (join_hm hd6 (hc3 _)) (sl w.sA) (hW 0 (by decide)) ?_; conv => whnf
    refine MakeX.jm hd6 w.sA.2.1 rfl rfl (by decide) (show ((w.sA.2.1 : Nat) : Int) * 120 ≤ 2 ^ 47 by have := hr.acc; omega) fun mA hiA hmA hdA => ?_; conv => whnf
    have hm3A : m3 ≠ mA := ne_get (hput_same ..) hmA
    refine StoreX.under hdA hm3A [sl (some ⟨mA, 0, none⟩, w.sA.2.1, w.sA.2.1), sl nilS, sl nilS, sl sR, sl sL, sl nilS, sl nilS, sl nilS] rfl (Nat.le_of_ble_eq_true rfl) fun hdA2 => ?_; conv => whnf
    have hcA : ∀ x y, hput (hput (hput hm m2 (z109, 109)) m3 x) mA y c = some (cells, t) := fun x y => by
      have : c ≠ mA := ne_get (hc3 _) hmA
      rw [hput_ne this]; exact hc3 x
    refine LoadX.blk (join_hm hdA2 (hcA _ _)) (sl w.sA) (hW 0 (by decide)) ?_; conv => whnf
    obtain ⟨HB, hHB⟩ : ∃ HB : Hp, HB = hput (hput hm m2 (z109, 109)) m3 ([sl (some ⟨mA, 0, none⟩, w.sA.2.1, w.sA.2.1), sl nilS, sl nilS, sl sR, sl sL, sl nilS, sl nilS, sl nilS], 109) := ⟨_, rfl⟩
    have hB3 : HB m3 = some ([sl (some ⟨mA, 0, none⟩, w.sA.2.1, w.sA.2.1), sl nilS, sl nilS, sl sR, sl sL, sl nilS, sl nilS, sl nilS], 109) := by rw [hHB]; exact hput_same ..
    have hBA : HB mA = none := by
      rw [hHB, hput_ne hm3A.symm]
      have : hput (hput hm m2 (z109, 109)) m3 ([sl nilS, sl nilS, sl nilS, sl sR, sl sL, sl nilS, sl nilS, sl nilS], 109) mA = none := hmA
      rwa [hput_ne hm3A.symm] at this
    have hBc : HB c = some (cells, t) := by rw [hHB]; exact hc3 _
    have hBne : ∀ b x, HB b = some x → b ≠ mA := fun b x hb => ne_get hb hBA
    refine LoopX.st T_ok Hval.func101 (σ := List YAcct × Hp × List Value) (fun s0 => [(0, .pointer (some ⟨c, o, none⟩)), (2, .pointer (some ⟨m2, 0, none⟩)), (3, .pointer (some ⟨m3, 0, none⟩)), (39, sl w.sA), (40, .int .i64 w.sA.2.1), (41, .int .i64 s0.1.length)])
      (fun s0 h' => h' = join s0.2.1 (hput HB mA (s0.2.2, 118)) ∧ Dj s0.2.1 (hput HB mA (s0.2.2, 118)) ∧ Ext hi4 s0.2.1 ∧ Cop acCells (fun h y => YAcct.ok h y) s0.2.1 z118 w.sA.2.1 s0.1 s0.2.2 ∧ s0.1.map YAcct.v = (w.acc.take s0.1.length).map YAcct.v) (fun s0 => w.sA.2.1 - s0.1.length) ([], hi4, zeros z118 w.sA.2.1)
      ⟨rfl, rfl, rfl, rfl, rfl, rfl, trivial⟩ ⟨by rw [hHB]; rfl, by rw [hHB]; exact hdA2, Ext.refl _, ⟨by simp, Nat.zero_le _, fun y hy => (by cases hy)⟩, by simp⟩ ?_
    rintro ⟨bz, hi1, cA⟩ ρ h' ⟨rfl, hd1, e1, cop, hv⟩ ih
    simp only at hd1 e1 cop hv ⊢
    conv => whnf
    have hEA : Ext HB (hput HB mA (cA, 118)) := Ext.new hBA
    have hok1 := hok4.up e1
    refine CondX.decI (fun hci => ?_) (fun hci => ?_) <;> conv => whnf
    · have hci : bz.length < w.sA.2.1 := by omega
      have hAj := hok1.acc.arr.ext (Ext.jl hi1 (hput HB mA (cA, 118)))
      refine IdxX.arr hAj (by omega) (by omega) (by omega) fun b off e => ?_; conv => whnf
      refine LoadX.elt hAj e bz.length rfl hci ?_; conv => whnf
      rw [getD_map (by omega)]
      have hmemy := List.getElem_mem (show bz.length < w.acc.length by omega)
      have hyo := hok1.acc.each _ hmemy
      have hyr := hr.each _ hmemy
      generalize hy : w.acc[bz.length]'(by omega) = y at *
      have ylen := acCells_len hyo.addr
      have yone := acCells_one y
      refine BoxX.jm hd1 fun m5 hi5 hm5 hd5 => ?_; conv => whnf
      refine Ob.mk ⟨by rw [List.size_toArray, ylen]; rfl, yone⟩ ?_; conv => whnf
      refine StoreX.top hd5 (acCells y) (setSeg_all (by rw [List.toList_toArray, ylen]; rfl)) (by rw [List.toList_toArray, ylen]; decide) fun hd51 => ?_; conv => whnf
      have hl5 : ∀ {h : Hp} (_ : Dj h (hput (hput HB mA (cA, 118)) m5 (acCells y, 118))), join h (hput (hput HB mA (cA, 118)) m5 (acCells y, 118)) m5 = some (bcells y.addr ++ acRest y, 118) := fun hdd => join_hm hdd (hput_same ..)
      refine DrawX.go T_ok hM Hval.func101 (tb := dr101) rfl (by kernel_rfl) ?_; conv => whnf
      refine LoadX.adr (hl5 hd51) hyo.addr ?_; conv => whnf
      refine LoadX.fld (hl5 hd51) hyo.addr 0 rfl (v := sl y.ns) rfl ?_; conv => whnf
      refine LoadX.fld (hl5 hd51) hyo.addr 1 rfl (v := sl y.bs) rfl ?_; conv => whnf
      refine LoadX.fld (hl5 hd51) hyo.addr 2 rfl (v := sl y.cs) rfl ?_; conv => whnf
      refine CallX.fj hd51 (natOf_ok hyo.nonce fun s1 hi6 f6 g6 hd61 => ?_); conv => whnf
      refine Ob.mk (ldV_fld (hl5 hd61) hyo.addr 2 rfl rfl) ?_; conv => whnf
      refine Ob.mk (ldV_fld (hl5 hd61) hyo.addr 1 rfl rfl) ?_; conv => whnf
      refine Ob.mk (ldV_adr (hl5 hd61) hyo.addr) ?_; conv => whnf
      refine CallX.fj hd61 (natOf_ok (hyo.bal.ext f6) fun s2 hi7 f7 g7 hd71 => ?_); conv => whnf
      refine Ob.mk (ldV_fld (hl5 hd71) hyo.addr 2 rfl rfl) ?_; conv => whnf
      refine Ob.mk (ldV_adr (hl5 hd71) hyo.addr) ?_; conv => whnf
      refine CallX.fj hd71 (bytesOf_any ((hyo.code.ext f6).ext f7) fun bb cc hi8 f8 g8 hd81 => ?_); conv => whnf
      refine Ob.mk (ldV_adr (hl5 hd81) hyo.addr) ?_; conv => whnf
      have alen : (bcells y.addr).length = 20 := by rw [bcells_length, hyo.addr]
      erw [fillL_head (n := 20) rfl alen (by decide), fillL_fld (n := 20) (k := 0) (v := sl s1) alen rfl rfl (by decide), fillL_fld (n := 20) (k := 1) (v := sl s2) alen rfl rfl (Nat.le_of_ble_eq_true rfl), fillL_fld (n := 20) (k := 2) (v := sl (bb, y.cs.2.1, cc)) alen rfl rfl (Nat.le_of_ble_eq_true rfl), fillL_done]
      refine forceL_of (l := acCells (YAcct.mk y.addr s1 s2 (bb, y.cs.2.1, cc) nilS y.nonce y.bal y.code [])) (fok_app fok_bcells (fok_acRest _)) ?_; conv => whnf
      have hxok : (YAcct.mk y.addr s1 s2 (bb, y.cs.2.1, cc) nilS y.nonce y.bal y.code []).ok hi8 := ⟨hyo.addr, (g6.ext f7).ext f8, g7.ext f8, g8, Arr_nil _ 2, fun q hq => by cases hq⟩
      have hxv : ∀ SS YS, YS.map YSlot.v = y.slots.map YSlot.v → (withSlots (YAcct.mk y.addr s1 s2 (bb, y.cs.2.1, cc) nilS y.nonce y.bal y.code []) SS YS).v = y.v := fun SS YS he => by simp [YAcct.v, withSlots, he]
      have hxnil : withSlots (YAcct.mk y.addr s1 s2 (bb, y.cs.2.1, cc) nilS y.nonce y.bal y.code []) nilS [] = YAcct.mk y.addr s1 s2 (bb, y.cs.2.1, cc) nilS y.nonce y.bal y.code [] := rfl
      generalize YAcct.mk y.addr s1 s2 (bb, y.cs.2.1, cc) nilS y.nonce y.bal y.code [] = x at *
      have xlen := acCells_len hxok.addr
      have xone := acCells_one x
      refine BoxW.jm hd81 fun m6 hi6' hm6 hd82 => ?_; conv => whnf
      refine Ob.mk ⟨by rw [List.size_toArray, xlen]; rfl, xone⟩ ?_; conv => whnf
      refine StoreX.top hd82 (acCells x) (setSeg_all (by rw [List.toList_toArray, xlen]; rfl)) (by rw [List.toList_toArray, xlen]; decide) fun hd83 => ?_; conv => whnf
      have hm56 : m5 ≠ m6 := ne_get (hput_same ..) hm6
      have e8 : Ext hi1 hi8 := (f6.trans f7).trans f8
      have hyo8 := hyo.ext e8
      have hEH : ∀ x', Ext HB (hput (hput (hput HB mA (cA, 118)) m5 (acCells y, 118)) m6 x') := fun x' => (hEA.trans (Ext.new hm5)).trans (Ext.new hm6)
      have hl56 : ∀ x', hput (hput (hput HB mA (cA, 118)) m5 (acCells y, 118)) m6 x' m5 = some (bcells y.addr ++ acRest y, 118) := fun x' => by rw [hput_ne hm56]; exact hput_same ..
      have hlA : ∀ x', hput (hput (hput HB mA (cA, 118)) m5 (acCells y, 118)) m6 x' mA = some (cA, 118) := fun x' => by
        have q1 : mA ≠ m5 := ne_get (hput_same ..) hm5
        have q2 : mA ≠ m6 := ne_get (hput_old (hput_same HB mA (cA, 118)) hm5) hm6
        rw [hput_ne q2, hput_ne q1]; exact hput_same ..
      have nS : y.slots.length = y.ss.2.1 := by have := hyo.slots.len; simpa using this
      have cl := cop.len (fun q hq => acCells_len hq.addr)
      have ez : z118.length = 24 := rfl
      refine LoadX.fld (join_hm hd83 (hl56 _)) hyo.addr 3 rfl (v := sl y.ss) rfl ?_; conv => whnf
      cases hsS : y.ss.1 with
      | none =>
        repeat (first | (refine CondX.tt ?_; conv => whnf) | (refine CondX.ff ?_; conv => whnf))
        have hS0 : y.ss.2.1 = 0 := by have := hyo.slots.nil hsS; have := hyo.slots.le; omega
        refine LoadX.fld (join_hm hd83 (hl56 _)) hyo.addr 3 rfl (v := sl y.ss) rfl ?_; conv => whnf
        refine LoopX.st T_ok Hval.func101 (σ := Unit) (fun _ => [(0, .pointer (some ⟨c, o, none⟩)), (2, .pointer (some ⟨m2, 0, none⟩)), (3, .pointer (some ⟨m3, 0, none⟩)), (4, .int .i64 bz.length), (6, .pointer (some ⟨m6, 0, none⟩)), (39, sl w.sA), (40, .int .i64 w.sA.2.1), (41, .int .i64 bz.length), (68, .int .i64 y.ss.2.1), (69, .int .i64 0)])
          (fun _ h' => h' = join hi8 (hput (hput (hput HB mA (cA, 118)) m5 (acCells y, 118)) m6 (acCells x, 118))) (fun _ => 0) () ⟨rfl, rfl, rfl, rfl, rfl, rfl, rfl, rfl, rfl, rfl, trivial⟩ rfl ?_
        rintro _ ρ h' rfl ih2
        conv => whnf
        refine CondX.dF (by omega) ?_; conv => whnf
        have hys : y.slots = [] := List.eq_nil_of_length_eq_zero (by omega)
        have hxv0 := hxv nilS [] (by rw [hys])
        rw [hxnil] at hxv0
        have hdE := hd83
        have hokE := hxok
        have hE3 := join_hm hdE (hEH _ _ _ hB3)
        have hE6 := join_hm hdE (hput_same (hput (hput HB mA (cA, 118)) m5 (acCells y, 118)) m6 (acCells x, 118))
        have hEAA := hlA (acCells x, 118)
        have hEB := hEH (acCells x, 118)
        have hEhi := e8
        refine LoadX.blk hE3 (sl (some ⟨mA, 0, none⟩, w.sA.2.1, w.sA.2.1)) rfl ?_; conv => whnf
        have xlen' := acCells_len hokE.addr
        refine LoadX.all (c := acCells x) hE6 (by rw [xlen']; rfl) ?_; conv => whnf
        refine IdxX.at (by omega) (by omega) ?_; conv => whnf
        refine Ob.mk ⟨by rw [List.size_toArray, xlen']; rfl, acCells_one x⟩ ?_; conv => whnf
        have hidx : 0 + ((bz.length : Nat) : Int).toNat * 24 = bz.length * z118.length := by rw [Int.toNat_natCast, ez]; omega
        refine StoreX.jm hdE hEAA ?_ ?_
        · show 0 + ((bz.length : Nat) : Int).toNat * 24 + (acCells x).length ≤ _
          rw [xlen', Int.toNat_natCast, cl, ez]
          have : (bz.length + 1) * 24 ≤ w.sA.2.1 * 24 := Nat.mul_le_mul_right _ hci
          omega
        conv => whnf
        have cop' := cop.step (y := x) hEhi (fun q hq => YAcct.ok.ext hEhi hq) (fun q hq => acCells_len hq.addr) hokE hci
        rw [← hidx] at cop'
        refine LoopX.drop (h0 := join hi8 (hput HB mA (setSeg cA (0 + ((bz.length : Nat) : Int).toNat * 24) (acCells x), 118))) ?_
          (ih (bz ++ [x], hi8, setSeg cA (0 + ((bz.length : Nat) : Int).toNat * 24) (acCells x)) _ _ ⟨rfl, ?_, e1.trans hEhi, cop', ?_⟩ (by simp; omega) ⟨rfl, rfl, rfl, rfl, rfl, ?_, trivial⟩)
        · exact Ext.jmono (hdE.put hEAA) hEB.both
        · exact (hdE.put hEAA).mono hEB.both
        · have : (bz ++ [x]).length = bz.length + 1 := by simp
          rw [this, List.take_add_one, List.getElem?_eq_getElem (by omega), hy]
          simp [hv, hxv0]
        · have : (bz ++ [x]).length = bz.length + 1 := by simp
          rw [this]
          exact congrArg (Value.int .i64) (wsucc (by omega))
      | some bS =>
        repeat (first | (refine CondX.tt ?_; conv => whnf) | (refine CondX.ff ?_; conv => whnf))
        refine LoadX.fld (join_hm hd83 (hl56 _)) hyo.addr 3 rfl (v := sl y.ss) rfl ?_; conv => whnf
        refine MakeX.jm hd83 y.ss.2.1 rfl rfl (by decide) (show ((y.ss.2.1 : Nat) : Int) * 48 ≤ 2 ^ 47 by omega) fun mS hiS hmS hdS => ?_; conv => whnf
        have hm6S : m6 ≠ mS := ne_get (hput_same ..) hmS
        have hm5S : m5 ≠ mS := ne_get (hl56 _) hmS
        have hmAS : mA ≠ mS := ne_get (hlA _) hmS
        have hm3S : ∀ b x', HB b = some x' → b ≠ mS := fun b x' hb => ne_get (hEH _ _ _ hb) hmS
        refine StoreX.under hdS hm6S (acCells (withSlots x (some ⟨mS, 0, none⟩, y.ss.2.1, y.ss.2.1) [])) (withSlots_cells (s := (some ⟨mS, 0, none⟩, y.ss.2.1, y.ss.2.1)) (n := []) hxok.addr) (by rw [xlen]; exact Nat.le_of_ble_eq_true rfl) fun hdS2 => ?_; conv => whnf
        have hwsc : ∀ YS, acCells (withSlots x (some ⟨mS, 0, none⟩, y.ss.2.1, y.ss.2.1) []) = acCells (withSlots x (some ⟨mS, 0, none⟩, y.ss.2.1, y.ss.2.1) YS) := fun YS => rfl
        obtain ⟨H6, hH6⟩ : ∃ H6 : Hp, H6 = hput (hput (hput HB mA (cA, 118)) m5 (acCells y, 118)) m6 (acCells (withSlots x (some ⟨mS, 0, none⟩, y.ss.2.1, y.ss.2.1) []), 118) := ⟨_, rfl⟩
        have hH6S : H6 mS = none := by
          rw [hH6, hput_ne hm6S.symm]
          have := hmS
          rwa [hput_ne hm6S.symm] at this
        have hH65 : ∀ x', hput H6 mS x' m5 = some (bcells y.addr ++ acRest y, 118) := fun x' => by rw [hput_ne hm5S, hH6]; exact hl56 _
        have hH6A : ∀ x', hput H6 mS x' mA = some (cA, 118) := fun x' => by rw [hput_ne hmAS, hH6]; exact hlA _
        have hH66 : ∀ x', hput H6 mS x' m6 = some (bcells x.addr ++ acRest (withSlots x (some ⟨mS, 0, none⟩, y.ss.2.1, y.ss.2.1) []), 118) := fun x' => by rw [hput_ne hm6S, hH6]; exact hput_same ..
        have hEH6 : Ext HB H6 := by rw [hH6]; exact hEH _
        refine LoadX.fld (join_hm hdS2 (by rw [hput_ne hm5S]; exact hl56 _)) hyo.addr 3 rfl (v := sl y.ss) rfl ?_; conv => whnf
        refine LoopX.st T_ok Hval.func101 (σ := List YSlot × Hp × List Value) (fun s0 => [(0, .pointer (some ⟨c, o, none⟩)), (2, .pointer (some ⟨m2, 0, none⟩)), (3, .pointer (some ⟨m3, 0, none⟩)), (4, .int .i64 bz.length), (6, .pointer (some ⟨m6, 0, none⟩)), (39, sl w.sA), (40, .int .i64 w.sA.2.1), (41, .int .i64 bz.length), (67, sl y.ss), (68, .int .i64 y.ss.2.1), (69, .int .i64 s0.1.length)])
          (fun s0 h' => h' = join s0.2.1 (hput H6 mS (s0.2.2, 125)) ∧ Dj s0.2.1 (hput H6 mS (s0.2.2, 125)) ∧ Ext hi8 s0.2.1 ∧ Cop slotCells (fun h q => YSlot.ok h q) s0.2.1 z125 y.ss.2.1 s0.1 s0.2.2 ∧ s0.1.map YSlot.v = (y.slots.take s0.1.length).map YSlot.v) (fun s0 => y.ss.2.1 - s0.1.length) ([], hi8, zeros z125 y.ss.2.1)
          ⟨rfl, rfl, rfl, rfl, rfl, rfl, rfl, rfl, rfl, rfl, rfl, trivial⟩ ⟨by rw [hH6]; rfl, by rw [hH6]; exact hdS2, Ext.refl _, ⟨by simp, Nat.zero_le _, fun q hq => (by cases hq)⟩, by simp⟩ ?_
        rintro ⟨zs, hi2', cS⟩ ρ h' ⟨rfl, hd2', e2', copS, hvS⟩ ih2
        simp only at hd2' e2' copS hvS ⊢
        conv => whnf
        have clS := copS.len (fun q hq => slotCells_len q)
        have ezS : z125.length = 2 := rfl
        refine CondX.decI (fun hcs => ?_) (fun hcs => ?_) <;> conv => whnf
        · have hcs : zs.length < y.ss.2.1 := by omega
          have hSj := (hyo8.slots.ext e2').ext (Ext.jl hi2' (hput H6 mS (cS, 125)))
          refine IdxX.arr hSj (by omega) (by omega) (by omega) fun b off e => ?_; conv => whnf
          refine LoadX.elt hSj e zs.length rfl hcs ?_; conv => whnf
          rw [getD_map (by omega)]
          have hqo := (hyo8.each _ (List.getElem_mem (show zs.length < y.slots.length by omega))).ext e2'
          generalize hq : y.slots[zs.length]'(by omega) = q at *
          refine BoxX.jm hd2' fun m8 hi8' hm8 hd8' => ?_; conv => whnf
          refine Ob.mk ⟨rfl, rfl⟩ ?_; conv => whnf
          refine StoreX.top hd8' (slotCells q) rfl (Nat.le_of_ble_eq_true rfl) fun hd88 => ?_; conv => whnf
          have hm6_8 : m6 ≠ m8 := ne_get (hH66 _) hm8
          have hmS_8 : mS ≠ m8 := ne_get (hput_same ..) hm8
          have hl8 : hput (hput H6 mS (cS, 125)) m8 (slotCells q, 125) m8 = some (slotCells q, 125) := hput_same ..
          have hl86 : hput (hput H6 mS (cS, 125)) m8 (slotCells q, 125) m6 = some (bcells x.addr ++ acRest (withSlots x (some ⟨mS, 0, none⟩, y.ss.2.1, y.ss.2.1) []), 118) := by rw [hput_ne hm6_8]; exact hH66 _
          refine DrawX.go T_ok hM Hval.func101 (tb := dr101) rfl (by kernel_rfl) ?_; conv => whnf
          refine LoadX.fld (join_hm hd88 hl86) hxok.addr 3 rfl (v := sl (some ⟨mS, 0, none⟩, y.ss.2.1, y.ss.2.1)) rfl ?_; conv => whnf
          refine LoadX.blk (join_hm hd88 hl8) (sl q.ks) rfl ?_; conv => whnf
          refine LoadX.blk (join_hm hd88 hl8) (sl q.vs) rfl ?_; conv => whnf
          refine CallX.fj hd88 (natOf_ok hqo.key fun t1 hi9 f9 g9 hd91 => ?_); conv => whnf
          refine Ob.mk (ldV_blk (join_hm hd91 hl8) rfl) ?_; conv => whnf
          refine Ob.mk (ldV_fld (join_hm hd91 hl86) hxok.addr 3 rfl rfl) ?_; conv => whnf
          refine CallX.fj hd91 (natOf_ok (hqo.val.ext f9) fun t2 hi10 f10 g10 hd101 => ?_); conv => whnf
          refine Ob.mk (ldV_fld (join_hm hd101 hl86) hxok.addr 3 rfl rfl) ?_; conv => whnf
          refine IdxX.at (by omega) (by omega) ?_; conv => whnf
          refine Ob.mk ⟨rfl, rfl⟩ ?_; conv => whnf
          have hidx : 0 + ((zs.length : Nat) : Int).toNat * 2 = zs.length * z125.length := by rw [Int.toNat_natCast, ezS]; omega
          refine StoreX.under hd101 hmS_8 (setSeg cS (0 + ((zs.length : Nat) : Int).toNat * 2) (slotCells (YSlot.mk t1 t2 q.key q.val))) rfl ?_ fun hd102 => ?_
          · show 0 + ((zs.length : Nat) : Int).toNat * 2 + 2 ≤ _
            rw [Int.toNat_natCast, clS, ezS]
            have : (zs.length + 1) * 2 ≤ y.ss.2.1 * 2 := Nat.mul_le_mul_right _ hcs
            omega
          conv => whnf
          have e10 := f9.trans f10
          have cop' := copS.step (y := YSlot.mk t1 t2 q.key q.val) e10 (fun q hq => YSlot.ok.ext e10 hq) (fun q hq => slotCells_len q) ⟨g9.ext f10, g10⟩ hcs
          rw [← hidx] at cop'
          have hmS8 : hput H6 mS (setSeg cS (0 + ((zs.length : Nat) : Int).toNat * 2) (slotCells (YSlot.mk t1 t2 q.key q.val)), 125) m8 = none := by
            rw [hput_ne hmS_8.symm]; rwa [hput_ne hmS_8.symm] at hm8
          refine LoopX.drop (h0 := join hi10 (hput H6 mS (setSeg cS (0 + ((zs.length : Nat) : Int).toNat * 2) (slotCells (YSlot.mk t1 t2 q.key q.val)), 125))) (Ext.jmono hd102 (Ext.new hmS8))
            (ih2 (zs ++ [YSlot.mk t1 t2 q.key q.val], hi10, setSeg cS (0 + ((zs.length : Nat) : Int).toNat * 2) (slotCells (YSlot.mk t1 t2 q.key q.val))) _ _ ⟨rfl, hd102.mono (Ext.new hmS8), e2'.trans e10, cop', ?_⟩ (by simp; omega) ⟨rfl, rfl, rfl, rfl, rfl, rfl, rfl, rfl, rfl, rfl, ?_, trivial⟩)
          · have : (zs ++ [YSlot.mk t1 t2 q.key q.val]).length = zs.length + 1 := by simp
            rw [this, List.take_add_one, List.getElem?_eq_getElem (by omega), hq]
            simp [hvS, YSlot.v]
          · have : (zs ++ [YSlot.mk t1 t2 q.key q.val]).length = zs.length + 1 := by simp
            rw [this]
            exact congrArg (Value.int .i64) (wsucc (by omega))
        · have hcs : zs.length = y.ss.2.1 := by have := copS.le; omega
          have hdE := hd2'
          have hSin := hdE.lft (hput_same H6 mS (cS, 125))
          have hE3 := join_hm hdE (show hput H6 mS (cS, 125) m3 = _ by rw [hput_ne (hm3S _ _ hB3)]; exact hEH6 _ _ hB3)
          have hE6 := join_hm hdE (show hput H6 mS (cS, 125) m6 = some (acCells (withSlots x (some ⟨mS, 0, none⟩, y.ss.2.1, y.ss.2.1) zs), 118) from hH66 _)
          have hEAA := hH6A (cS, 125)
          have hxv0 := hxv (some ⟨mS, 0, none⟩, y.ss.2.1, y.ss.2.1) zs (by rw [hvS, List.take_of_length_le (by omega)])
          have hEf : Ext hi2' (hput hi2' mS (cS, 125)) := Ext.new hSin
          have hEhi : Ext hi1 (hput hi2' mS (cS, 125)) := (e8.trans e2').trans hEf
          have hEB8 : Ext hi8 (hput hi2' mS (cS, 125)) := e2'.trans hEf
          have hokE : (withSlots x (some ⟨mS, 0, none⟩, y.ss.2.1, y.ss.2.1) zs).ok (hput hi2' mS (cS, 125)) := ⟨hxok.addr, hxok.nonce.ext hEB8, hxok.bal.ext hEB8, hxok.code.ext hEB8, copS.arr (fun q hq => slotCells_len q) (fun q => slotCells_one q) hcs (hput_same ..), fun q hq => (copS.ok q hq).ext hEf⟩
          refine LoadX.blk hE3 (sl (some ⟨mA, 0, none⟩, w.sA.2.1, w.sA.2.1)) rfl ?_; conv => whnf
          have xlen' := acCells_len hokE.addr
          refine LoadX.all (c := acCells (withSlots x (some ⟨mS, 0, none⟩, y.ss.2.1, y.ss.2.1) zs)) hE6 (by rw [xlen']; rfl) ?_; conv => whnf
          refine IdxX.at (by omega) (by omega) ?_; conv => whnf
          refine Ob.mk ⟨by rw [List.size_toArray, xlen']; rfl, acCells_one (withSlots x (some ⟨mS, 0, none⟩, y.ss.2.1, y.ss.2.1) zs)⟩ ?_; conv => whnf
          have hidx : 0 + ((bz.length : Nat) : Int).toNat * 24 = bz.length * z118.length := by rw [Int.toNat_natCast, ez]; omega
          refine StoreX.jm hdE hEAA ?_ ?_
          · show 0 + ((bz.length : Nat) : Int).toNat * 24 + (acCells (withSlots x (some ⟨mS, 0, none⟩, y.ss.2.1, y.ss.2.1) zs)).length ≤ _
            rw [xlen', Int.toNat_natCast, cl, ez]
            have : (bz.length + 1) * 24 ≤ w.sA.2.1 * 24 := Nat.mul_le_mul_right _ hci
            omega
          conv => whnf
          have hdFz : Dj (hput hi2' mS (cS, 125)) (hput H6 mA (setSeg cA (0 + ((bz.length : Nat) : Int).toNat * 24) (acCells (withSlots x (some ⟨mS, 0, none⟩, y.ss.2.1, y.ss.2.1) zs)), 118)) := by
            refine Dj.freeze (x := (cS, 125)) ?_ (by rw [hput_ne hmAS.symm]; exact hH6S)
            rw [← hput_comm hmAS]
            exact hdE.put hEAA
          have cop' := cop.step (y := (withSlots x (some ⟨mS, 0, none⟩, y.ss.2.1, y.ss.2.1) zs)) hEhi (fun q hq => YAcct.ok.ext hEhi hq) (fun q hq => acCells_len hq.addr) hokE hci
          rw [← hidx] at cop'
          refine LoopX.drop (h0 := join (hput hi2' mS (cS, 125)) (hput HB mA (setSeg cA (0 + ((bz.length : Nat) : Int).toNat * 24) (acCells (withSlots x (some ⟨mS, 0, none⟩, y.ss.2.1, y.ss.2.1) zs)), 118))) ?_
            (ih (bz ++ [(withSlots x (some ⟨mS, 0, none⟩, y.ss.2.1, y.ss.2.1) zs)], (hput hi2' mS (cS, 125)), setSeg cA (0 + ((bz.length : Nat) : Int).toNat * 24) (acCells (withSlots x (some ⟨mS, 0, none⟩, y.ss.2.1, y.ss.2.1) zs))) _ _ ⟨rfl, ?_, e1.trans hEhi, cop', ?_⟩ (by simp; omega) ⟨rfl, rfl, rfl, rfl, rfl, ?_, trivial⟩)
          · refine Ext.trans ?_ (Ext.trans (Ext.freeze (x := (cS, 125)) hSin) ?_) (h' := join (hput hi2' mS (cS, 125)) (hput H6 mA (setSeg cA (0 + ((bz.length : Nat) : Int).toNat * 24) (acCells (withSlots x (some ⟨mS, 0, none⟩, y.ss.2.1, y.ss.2.1) zs)), 118)))
            · exact Ext.jmono (hdFz) hEH6.both
            · rw [hput_comm hmAS]; exact Ext.refl _
          · exact hdFz.mono hEH6.both
          · have : (bz ++ [(withSlots x (some ⟨mS, 0, none⟩, y.ss.2.1, y.ss.2.1) zs)]).length = bz.length + 1 := by simp
            rw [this, List.take_add_one, List.getElem?_eq_getElem (by omega), hy]
            simp [hv, hxv0]
          · have : (bz ++ [(withSlots x (some ⟨mS, 0, none⟩, y.ss.2.1, y.ss.2.1) zs)]).length = bz.length + 1 := by simp
            rw [this]
            exact congrArg (Value.int .i64) (wsucc (by omega))
    · have hce : bz.length = w.sA.2.1 := by have := cop.le; omega
      subst hHB
      have hcX : hput (cHB hm m2 m3 (cW (some ⟨mA, 0, none⟩, w.sA.2.1, w.sA.2.1) nilS nilS sR sL nilS nilS nilS)) mA (cA, 118) c = some (cells, t) := hcA _ _
      have hcX' : ∀ {x}, hput (hput (hput hm m2 (z109, 109)) m3 x) mA (cA, 118) c = some (cells, t) := fun {x} => hcA x _
      have hokX := hok1
      refine LoadX.blk (join_hm hd1 hcX) (sl w.sWA) (hW 1 (by decide)) ?_; conv => whnf
      refine CallX.fj hd1 (addrsOf_ok hokX.wa.arr hr.wa fun sWA hi7 f7 g7 hd7 => ?_); conv => whnf
      refine StoreX.under' hm3A hd7 [sl (some ⟨mA, 0, none⟩, w.sA.2.1, w.sA.2.1), sl sWA, sl nilS, sl sR, sl sL, sl nilS, sl nilS, sl nilS] rfl (Nat.le_of_ble_eq_true rfl) fun hd8 => ?_; conv => whnf
      refine LoadX.blk (join_hm hd8 hcX') (sl w.sM) (hW 6 (by decide)) ?_; conv => whnf
      refine CallX.fj hd8 (addrsOf_ok (hokX.made.arr.ext f7) hr.made fun sM hi8 f8 g8 hd9 => ?_); conv => whnf
      refine StoreX.under' hm3A hd9 [sl (some ⟨mA, 0, none⟩, w.sA.2.1, w.sA.2.1), sl sWA, sl nilS, sl sR, sl sL, sl nilS, sl sM, sl nilS] rfl (Nat.le_of_ble_eq_true rfl) fun hd10 => ?_; conv => whnf
      refine LoadX.blk (join_hm hd10 hcX') (sl w.sG) (hW 7 (by decide)) ?_; conv => whnf
      refine CallX.fj hd10 (addrsOf_ok ((hokX.gone.arr.ext f7).ext f8) hr.gone fun sG hi9 f9 g9 hd11 => ?_); conv => whnf
      refine StoreX.under' hm3A hd11 [sl (some ⟨mA, 0, none⟩, w.sA.2.1, w.sA.2.1), sl sWA, sl nilS, sl sR, sl sL, sl nilS, sl sM, sl sG] rfl (Nat.le_of_ble_eq_true rfl) fun hd12 => ?_; conv => whnf
      refine LoadX.blk (join_hm hd12 hcX') (sl w.sT) (hW 5 (by decide)) ?_; conv => whnf
      have hin9 : hi9 mA = none := hd12.lft (hput_same _ mA (cA, 118))
      have eH : Ext hi9 (hput hi9 mA (cA, 118)) := Ext.new hin9
      have eF : Ext hi4 (hput hi9 mA (cA, 118)) := (((e1.trans f7).trans f8).trans f9).trans eH
      have hBAn : ∀ W, cHB hm m2 m3 W mA = none := fun W => cHB_none hm3A hBA
      have hdF : Dj (hput hi9 mA (cA, 118)) (cHB hm m2 m3 (cW (some ⟨mA, 0, none⟩, w.sA.2.1, w.sA.2.1) sWA nilS sR sL nilS sM sG)) := Dj.freeze hd12 (hBAn _)
      have hxF : Ext (join (hput hi9 mA (cA, 118)) (cHB hm m2 m3 (cW (some ⟨mA, 0, none⟩, w.sA.2.1, w.sA.2.1) sWA nilS sR sL nilS sM sG))) (join hi9 (hput (cHB hm m2 m3 (cW (some ⟨mA, 0, none⟩, w.sA.2.1, w.sA.2.1) sWA nilS sR sL nilS sM sG)) mA (cA, 118))) := Ext.freeze hin9
      have hAcc : AccL (hput hi9 mA (cA, 118)) (some ⟨mA, 0, none⟩, w.sA.2.1, w.sA.2.1) bz := ⟨cop.arr (fun q hq => acCells_len hq.addr) (fun q => acCells_one q) hce (hput_same ..), fun q hq => (cop.ok q hq).ext (((f7.trans f8).trans f9).trans eH)⟩
      have hAccv : bz.map YAcct.v = w.acc.map YAcct.v := by rw [hv, List.take_of_length_le (by omega)]
      have hget3 : hput (cHB hm m2 m3 (cW (some ⟨mA, 0, none⟩, w.sA.2.1, w.sA.2.1) sWA nilS sR sL nilS sM sG)) mA (cA, 118) m3 = some (cW (some ⟨mA, 0, none⟩, w.sA.2.1, w.sA.2.1) sWA nilS sR sL nilS sM sG, 109) := by rw [hput_ne hm3A]; exact hput_same ..
      have hput_c : ∀ mT, hput (cHB hm m2 m3 (cW (some ⟨mA, 0, none⟩, w.sA.2.1, w.sA.2.1) sWA nilS sR sL nilS sM sG)) mA (cA, 118) mT = none → ∀ x, hput (hput (hput (cHB hm m2 m3 (cW (some ⟨mA, 0, none⟩, w.sA.2.1, w.sA.2.1) sWA nilS sR sL nilS sM sG)) mA (cA, 118)) mT (zeros z263 w.sT.2.1, 263)) m3 x c = some (cells, t) := fun mT hmT x => by
        have q1 : c ≠ m3 := ne_get hc2 hm3
        rw [hput_ne q1]
        exact hput_old (hcA _ _) hmT
      have hFinT : ∀ mT, m3 ≠ mT → hput (cHB hm m2 m3 (cW (some ⟨mA, 0, none⟩, w.sA.2.1, w.sA.2.1) sWA nilS sR sL nilS sM sG)) mA (cA, 118) mT = none → Dj hi9 (hput (hput (hput (cHB hm m2 m3 (cW (some ⟨mA, 0, none⟩, w.sA.2.1, w.sA.2.1) sWA nilS sR sL nilS sM sG)) mA (cA, 118)) mT (zeros z263 w.sT.2.1, 263)) m3 (cW (some ⟨mA, 0, none⟩, w.sA.2.1, w.sA.2.1) sWA nilS sR sL (some ⟨mT, 0, none⟩, w.sT.2.1, w.sT.2.1) sM sG, 109)) →
          Ext (join (hput hi9 mA (cA, 118)) (hput (cHB hm m2 m3 (cW (some ⟨mA, 0, none⟩, w.sA.2.1, w.sA.2.1) sWA nilS sR sL (some ⟨mT, 0, none⟩, w.sT.2.1, w.sT.2.1) sM sG)) mT (zeros z263 w.sT.2.1, 263))) (join hi9 (hput (hput (hput (cHB hm m2 m3 (cW (some ⟨mA, 0, none⟩, w.sA.2.1, w.sA.2.1) sWA nilS sR sL nilS sM sG)) mA (cA, 118)) mT (zeros z263 w.sT.2.1, 263)) m3 (cW (some ⟨mA, 0, none⟩, w.sA.2.1, w.sA.2.1) sWA nilS sR sL (some ⟨mT, 0, none⟩, w.sT.2.1, w.sT.2.1) sM sG, 109))) ∧
          Dj (hput hi9 mA (cA, 118)) (hput (cHB hm m2 m3 (cW (some ⟨mA, 0, none⟩, w.sA.2.1, w.sA.2.1) sWA nilS sR sL (some ⟨mT, 0, none⟩, w.sT.2.1, w.sT.2.1) sM sG)) mT (zeros z263 w.sT.2.1, 263)) ∧ cHB hm m2 m3 (cW (some ⟨mA, 0, none⟩, w.sA.2.1, w.sA.2.1) sWA nilS sR sL (some ⟨mT, 0, none⟩, w.sT.2.1, w.sT.2.1) sM sG) mT = none := fun mT h3 hn hdd => by
        have hAT : mT ≠ mA := (ne_get (hput_same ..) hn).symm
        rw [hput_comm h3, hput_comm hm3A, hput_hput, hput_comm hAT] at hdd ⊢
        refine ⟨Ext.freeze hin9, Dj.freeze hdd (by rw [hput_ne hAT.symm]; exact hBAn _), ?_⟩
        rw [hput_ne hAT] at hn
        exact cHB_none h3 hn
      have hT0 := hok.temps.arr
      cases hsT : w.sT.1 with
      | none =>
        repeat (first | (refine CondX.tt ?_; conv => whnf) | (refine CondX.ff ?_; conv => whnf))
        have hTz : w.sT.2.1 = 0 := by have := hT0.nil hsT; have := hT0.le; omega
        refine LoadX.blk (join_hm hd12 hcX') (sl w.sT) (hW 5 (by decide)) ?_; conv => whnf
        refine LoopX.drop (h0 := join (hput hi9 mA (cA, 118)) (cHB hm m2 m3 (cW (some ⟨mA, 0, none⟩, w.sA.2.1, w.sA.2.1) sWA nilS sR sL nilS sM sG))) hxF (mainT _ _ ⟨⟨rfl, rfl, rfl, rfl, rfl, rfl, trivial⟩, (hput hi9 mA (cA, 118)), (some ⟨mA, 0, none⟩, w.sA.2.1, w.sA.2.1), bz, sWA, sM, sG, nilS, eF, hAcc, hAccv, (((g7.ext f8).ext f9).ext eH), ((g8.ext f9).ext eH), g9.ext eH, .inl ⟨hTz, rfl, hdF, rfl⟩⟩)
      | some bT =>
        repeat (first | (refine CondX.tt ?_; conv => whnf) | (refine CondX.ff ?_; conv => whnf))
        refine LoadX.blk (join_hm hd12 hcX') (sl w.sT) (hW 5 (by decide)) ?_; conv => whnf
        refine MakeX.jm hd12 w.sT.2.1 rfl rfl (by decide) (show ((w.sT.2.1 : Nat) : Int) * 72 ≤ 2 ^ 47 by have := hr.temps; omega) fun mT hiT hmT hdT => ?_; conv => whnf
        have hm3T : m3 ≠ mT := ne_get hget3 hmT
        refine StoreX.jm hdT (by rw [hput_ne hm3T]; exact hget3) (Nat.le_of_ble_eq_true rfl) ?_; conv => whnf
        have hdT2 := hdT.put (y := (cW (some ⟨mA, 0, none⟩, w.sA.2.1, w.sA.2.1) sWA nilS sR sL (some ⟨mT, 0, none⟩, w.sT.2.1, w.sT.2.1) sM sG, 109)) (show _ = some _ by rw [hput_ne hm3T]; exact hget3)
        have hcT : ∀ x, hput (hput _ mT (zeros z263 w.sT.2.1, 263)) m3 x c = some (cells, t) := fun x => hput_c mT hmT x
        refine LoadX.blk (join_hm hdT2 (hcT _)) (sl w.sT) (hW 5 (by decide)) ?_; conv => whnf
        obtain ⟨q1, q2, q3⟩ := hFinT mT hm3T hmT hdT2
        refine LoopX.drop (h0 := join (hput hi9 mA (cA, 118)) (hput (cHB hm m2 m3 (cW (some ⟨mA, 0, none⟩, w.sA.2.1, w.sA.2.1) sWA nilS sR sL (some ⟨mT, 0, none⟩, w.sT.2.1, w.sT.2.1) sM sG)) mT (zeros z263 w.sT.2.1, 263))) q1 (mainT _ _ ⟨⟨rfl, rfl, rfl, rfl, rfl, rfl, trivial⟩, (hput hi9 mA (cA, 118)), (some ⟨mA, 0, none⟩, w.sA.2.1, w.sA.2.1), bz, sWA, sM, sG, (some ⟨mT, 0, none⟩, w.sT.2.1, w.sT.2.1), eF, hAcc, hAccv, (((g7.ext f8).ext f9).ext eH), ((g8.ext f9).ext eH), g9.ext eH, .inr ⟨mT, rfl, q3, q2, rfl⟩⟩)
  case hgo.hmain =>
    rintro ρ h' ⟨agr, hi', sA, acc, sWA, sM, sG, sT, eF, hAcc, hAccv, gWA, gM, gG, hN⟩
    have hcm3 : c ≠ m3 := ne_get hc2 hm3
    have hokT := hok4.up eF
    have nT := hok.temps.n
    have hrT := hr.temps
    rcases hN with ⟨hT0, rfl, hdN, rfl⟩ | ⟨mT, rfl, hmT, hdN, rfl⟩
    · refine LoopX.st T_ok Hval.func101 (σ := Unit) (fun _ => [(0, .pointer (some ⟨c, o, none⟩)), (2, .pointer (some ⟨m2, 0, none⟩)), (3, .pointer (some ⟨m3, 0, none⟩)), (125, sl w.sT), (126, .int .i64 w.sT.2.1), (127, .int .i64 0)])
        (fun _ h' => h' = join hi' (cHB hm m2 m3 (cW sA sWA nilS sR sL nilS sM sG))) (fun _ => 0) () agr rfl ?_
      rintro _ ρ h' rfl ih
      conv => whnf
      refine CondX.dF (by omega) ?_; conv => whnf
      have hdM := hdN
      have hcM' : ∀ {x}, hput (hput hm m2 (z109, 109)) m3 x c = some (cells, t) := fun {x} => hc3 x
      have eH : Ext hi' hi' := Ext.refl _
      have eG := eF
      have hdF : Dj hi' (cHB hm m2 m3 (cW sA sWA nilS sR sL nilS sM sG)) := hdM
      have hxF : Ext (join hi' (cHB hm m2 m3 (cW sA sWA nilS sR sL nilS sM sG))) (join hi' (cHB hm m2 m3 (cW sA sWA nilS sR sL nilS sM sG))) := Ext.refl _
      have hte : w.temps = [] := List.eq_nil_of_length_eq_zero (by omega)
      have hTmp : TempL hi' nilS [] := ⟨Arr_nil _ 22, fun q hq => by cases hq⟩
      have hTmpv : ([] : List YTemp).map YTemp.v = w.temps.map YTemp.v := by rw [hte]
      have hget3 : cHB hm m2 m3 (cW sA sWA nilS sR sL nilS sM sG) m3 = some (cW sA sWA nilS sR sL nilS sM sG, 109) := hput_same ..
      have hput_c : ∀ mT, cHB hm m2 m3 (cW sA sWA nilS sR sL nilS sM sG) mT = none → ∀ x, hput (hput (cHB hm m2 m3 (cW sA sWA nilS sR sL nilS sM sG)) mT (zeros z190 w.sWS.2.1, 190)) m3 x c = some (cells, t) := fun mT hmT x => by
        rw [hput_ne hcm3]
        exact hput_old (hc3 _) hmT
      have hFinM : ∀ mT, m3 ≠ mT → cHB hm m2 m3 (cW sA sWA nilS sR sL nilS sM sG) mT = none → Dj hi' (hput (hput (cHB hm m2 m3 (cW sA sWA nilS sR sL nilS sM sG)) mT (zeros z190 w.sWS.2.1, 190)) m3 (cW sA sWA (some ⟨mT, 0, none⟩, w.sWS.2.1, w.sWS.2.1) sR sL nilS sM sG, 109)) →
          Ext (join hi' (hput (cHB hm m2 m3 (cW sA sWA (some ⟨mT, 0, none⟩, w.sWS.2.1, w.sWS.2.1) sR sL nilS sM sG)) mT (zeros z190 w.sWS.2.1, 190))) (join hi' (hput (hput (cHB hm m2 m3 (cW sA sWA nilS sR sL nilS sM sG)) mT (zeros z190 w.sWS.2.1, 190)) m3 (cW sA sWA (some ⟨mT, 0, none⟩, w.sWS.2.1, w.sWS.2.1) sR sL nilS sM sG, 109))) ∧
          Dj hi' (hput (cHB hm m2 m3 (cW sA sWA (some ⟨mT, 0, none⟩, w.sWS.2.1, w.sWS.2.1) sR sL nilS sM sG)) mT (zeros z190 w.sWS.2.1, 190)) ∧ cHB hm m2 m3 (cW sA sWA (some ⟨mT, 0, none⟩, w.sWS.2.1, w.sWS.2.1) sR sL nilS sM sG) mT = none := fun mT h3 hn hdd => by
        rw [hput_comm h3, hput_hput] at hdd ⊢
        exact ⟨Ext.refl _, hdd, cHB_none h3 hn⟩
      refine LoadX.blk (join_hm hdM hcM') (sl w.sWS) (hW 2 (by decide)) ?_; conv => whnf
      have hT0 := hok.ws.arr
      cases hsT : w.sWS.1 with
      | none =>
        repeat (first | (refine CondX.tt ?_; conv => whnf) | (refine CondX.ff ?_; conv => whnf))
        have hTz : w.sWS.2.1 = 0 := by have := hT0.nil hsT; have := hT0.le; omega
        refine LoadX.blk (join_hm hdM hcM') (sl w.sWS) (hW 2 (by decide)) ?_; conv => whnf
        refine LoopX.drop (h0 := join hi' (cHB hm m2 m3 (cW sA sWA nilS sR sL nilS sM sG))) hxF (mainM _ _ ⟨⟨rfl, rfl, rfl, rfl, rfl, rfl, trivial⟩, hi', sA, acc, sWA, sM, sG, nilS, ([] : List YTemp), nilS, eG, hAcc.ext eH, hAccv, gWA.ext eH, gM.ext eH, gG.ext eH, hTmp, hTmpv, .inl ⟨hTz, rfl, hdF, rfl⟩⟩)
      | some bT =>
        repeat (first | (refine CondX.tt ?_; conv => whnf) | (refine CondX.ff ?_; conv => whnf))
        refine LoadX.blk (join_hm hdM hcM') (sl w.sWS) (hW 2 (by decide)) ?_; conv => whnf
        refine MakeX.jm hdM w.sWS.2.1 rfl rfl (by decide) (show ((w.sWS.2.1 : Nat) : Int) * 48 ≤ 2 ^ 47 by have := hr.ws; omega) fun mK hiT hmT hdT => ?_; conv => whnf
        have hm3T : m3 ≠ mK := ne_get hget3 hmT
        refine StoreX.jm hdT (by rw [hput_ne hm3T]; exact hget3) (Nat.le_of_ble_eq_true rfl) ?_; conv => whnf
        have hdT2 := hdT.put (y := (cW sA sWA (some ⟨mK, 0, none⟩, w.sWS.2.1, w.sWS.2.1) sR sL nilS sM sG, 109)) (show _ = some _ by rw [hput_ne hm3T]; exact hget3)
        have hcT : ∀ x, hput (hput _ mK (zeros z190 w.sWS.2.1, 190)) m3 x c = some (cells, t) := fun x => hput_c mK hmT x
        refine LoadX.blk (join_hm hdT2 (hcT _)) (sl w.sWS) (hW 2 (by decide)) ?_; conv => whnf
        obtain ⟨q1, q2, q3⟩ := hFinM mK hm3T hmT hdT2
        refine LoopX.drop (h0 := join hi' (hput (cHB hm m2 m3 (cW sA sWA (some ⟨mK, 0, none⟩, w.sWS.2.1, w.sWS.2.1) sR sL nilS sM sG)) mK (zeros z190 w.sWS.2.1, 190))) q1 (mainM _ _ ⟨⟨rfl, rfl, rfl, rfl, rfl, rfl, trivial⟩, hi', sA, acc, sWA, sM, sG, nilS, ([] : List YTemp), (some ⟨mK, 0, none⟩, w.sWS.2.1, w.sWS.2.1), eG, hAcc.ext eH, hAccv, gWA.ext eH, gM.ext eH, gG.ext eH, hTmp, hTmpv, .inr ⟨mK, rfl, q3, q2, rfl⟩⟩)
    · obtain ⟨HB, hHB⟩ : ∃ HB : Hp, HB = cHB hm m2 m3 (cW sA sWA nilS sR sL (some ⟨mT, 0, none⟩, w.sT.2.1, w.sT.2.1) sM sG) := ⟨_, rfl⟩
      rw [← hHB] at hmT hdN ⊢
      have hB3 : HB m3 = some (cW sA sWA nilS sR sL (some ⟨mT, 0, none⟩, w.sT.2.1, w.sT.2.1) sM sG, 109) := by rw [hHB]; exact hput_same ..
      have hBc : HB c = some (cells, t) := by rw [hHB]; exact hc3 _
      refine LoopX.st T_ok Hval.func101 (σ := List YTemp × Hp × List Value) (fun s0 => [(0, .pointer (some ⟨c, o, none⟩)), (2, .pointer (some ⟨m2, 0, none⟩)), (3, .pointer (some ⟨m3, 0, none⟩)), (125, sl w.sT), (126, .int .i64 w.sT.2.1), (127, .int .i64 s0.1.length)])
        (fun s0 h' => h' = join s0.2.1 (hput HB mT (s0.2.2, 263)) ∧ Dj s0.2.1 (hput HB mT (s0.2.2, 263)) ∧ Ext hi' s0.2.1 ∧ Cop tempCells (fun h y => YTemp.ok h y) s0.2.1 z263 w.sT.2.1 s0.1 s0.2.2 ∧ s0.1.map YTemp.v = (w.temps.take s0.1.length).map YTemp.v) (fun s0 => w.sT.2.1 - s0.1.length) ([], hi', zeros z263 w.sT.2.1)
        agr ⟨rfl, hdN, Ext.refl _, ⟨by simp, Nat.zero_le _, fun y hy => (by cases hy)⟩, by simp⟩ ?_
      rintro ⟨bz, hi1, cA⟩ ρ h' ⟨rfl, hd1, e1, cop, hv⟩ ih
      simp only at hd1 e1 cop hv ⊢
      conv => whnf
      have hok1 := hokT.up e1
      have cl := cop.len (fun q hq => tempCells_len hq.addr)
      have ez : z263.length = 22 := rfl
      refine CondX.decI (fun hci => ?_) (fun hci => ?_) <;> conv => whnf
      · have hci : bz.length < w.sT.2.1 := by omega
        have hAj := hok1.temps.arr.ext (Ext.jl hi1 (hput HB mT (cA, 263)))
        refine IdxX.arr hAj (by omega) (by omega) (by omega) fun b off e => ?_; conv => whnf
        refine LoadX.elt hAj e bz.length rfl hci ?_; conv => whnf
        rw [getD_map (by omega)]
        have hyo := hok1.temps.each _ (List.getElem_mem (show bz.length < w.temps.length by omega))
        generalize hy : w.temps[bz.length]'(by omega) = y at *
        have ylen := tempCells_len hyo.addr
        have yone := tempCells_one y
        refine BoxX.jm hd1 fun m5 hi5' hm5 hd5' => ?_; conv => whnf
        refine Ob.mk ⟨by rw [List.size_toArray, ylen]; rfl, yone⟩ ?_; conv => whnf
        refine StoreX.top hd5' (tempCells y) (setSeg_all (by rw [List.toList_toArray, ylen]; rfl)) (by rw [List.toList_toArray, ylen]; decide) fun hd51 => ?_; conv => whnf
        have hmT5 : mT ≠ m5 := ne_get (hput_same ..) hm5
        have hl5 : hput (hput HB mT (cA, 263)) m5 (tempCells y, 263) m5 = some (bcells y.addr ++ [sl y.ks, sl y.vs], 263) := hput_same ..
        have hl3 : hput (hput HB mT (cA, 263)) m5 (tempCells y, 263) m3 = some (cW sA sWA nilS sR sL (some ⟨mT, 0, none⟩, w.sT.2.1, w.sT.2.1) sM sG, 109) := hput_old (hput_old hB3 hmT) hm5
        refine DrawX.go T_ok hM Hval.func101 (tb := dr101) rfl (by kernel_rfl) ?_; conv => whnf
        refine LoadX.blk (join_hm hd51 hl3) (sl (some ⟨mT, 0, none⟩, w.sT.2.1, w.sT.2.1)) rfl ?_; conv => whnf
        refine LoadX.adr (join_hm hd51 hl5) hyo.addr ?_; conv => whnf
        refine LoadX.fld (join_hm hd51 hl5) hyo.addr 0 rfl (v := sl y.ks) rfl ?_; conv => whnf
        refine LoadX.fld (join_hm hd51 hl5) hyo.addr 1 rfl (v := sl y.vs) rfl ?_; conv => whnf
        refine CallX.fj hd51 (natOf_ok hyo.key fun s1 hi6 f6 g6 hd61 => ?_); conv => whnf
        refine Ob.mk (ldV_fld (join_hm hd61 hl5) hyo.addr 1 rfl rfl) ?_; conv => whnf
        refine Ob.mk (ldV_adr (join_hm hd61 hl5) hyo.addr) ?_; conv => whnf
        refine Ob.mk (ldV_blk (join_hm hd61 hl3) rfl) ?_; conv => whnf
        refine CallX.fj hd61 (natOf_ok (hyo.val.ext f6) fun s2 hi7 f7 g7 hd71 => ?_); conv => whnf
        refine Ob.mk (ldV_adr (join_hm hd71 hl5) hyo.addr) ?_; conv => whnf
        refine Ob.mk (ldV_blk (join_hm hd71 hl3) rfl) ?_; conv => whnf
        have alen : (bcells y.addr).length = 20 := by rw [bcells_length, hyo.addr]
        erw [fillL_head (n := 20) rfl alen (by decide), fillL_fld (n := 20) (k := 0) (v := sl s1) alen rfl rfl (by decide), fillL_fld (n := 20) (k := 1) (v := sl s2) alen rfl rfl (Nat.le_of_ble_eq_true rfl), fillL_done]
        refine forceL_of (l := tempCells (YTemp.mk y.addr s1 s2 y.key y.val)) (fok_app fok_bcells (fok_two _ _)) ?_; conv => whnf
        have x2len := tempCells_len (x := (YTemp.mk y.addr s1 s2 y.key y.val)) hyo.addr
        refine IdxX.at (by omega) (by omega) ?_; conv => whnf
        refine Ob.mk ⟨by rw [List.size_toArray, x2len]; rfl, tempCells_one (YTemp.mk y.addr s1 s2 y.key y.val)⟩ ?_; conv => whnf
        have hidx : 0 + ((bz.length : Nat) : Int).toNat * 22 = bz.length * z263.length := by rw [Int.toNat_natCast, ez]; omega
        refine StoreX.under hd71 hmT5 (setSeg cA (0 + ((bz.length : Nat) : Int).toNat * 22) (tempCells (YTemp.mk y.addr s1 s2 y.key y.val))) rfl ?_ fun hdE => ?_
        · show 0 + ((bz.length : Nat) : Int).toNat * 22 + (tempCells (YTemp.mk y.addr s1 s2 y.key y.val)).length ≤ _
          rw [x2len, Int.toNat_natCast, cl, ez]
          have : (bz.length + 1) * 22 ≤ w.sT.2.1 * 22 := Nat.mul_le_mul_right _ hci
          omega
        conv => whnf
        have cop' := cop.step (y := (YTemp.mk y.addr s1 s2 y.key y.val)) (f6.trans f7) (fun q hq => YTemp.ok.ext (f6.trans f7) hq) (fun q hq => tempCells_len hq.addr) ⟨hyo.addr, g6.ext f7, g7⟩ hci
        rw [← hidx] at cop'
        have hmT6 : hput HB mT (setSeg cA (0 + ((bz.length : Nat) : Int).toNat * 22) (tempCells (YTemp.mk y.addr s1 s2 y.key y.val)), 263) m5 = none := by
          rw [hput_ne hmT5.symm]; rwa [hput_ne hmT5.symm] at hm5
        refine LoopX.drop (h0 := join hi7 (hput HB mT (setSeg cA (0 + ((bz.length : Nat) : Int).toNat * 22) (tempCells (YTemp.mk y.addr s1 s2 y.key y.val)), 263))) (Ext.jmono hdE (Ext.new hmT6))
          (ih (bz ++ [(YTemp.mk y.addr s1 s2 y.key y.val)], hi7, setSeg cA (0 + ((bz.length : Nat) : Int).toNat * 22) (tempCells (YTemp.mk y.addr s1 s2 y.key y.val))) _ _ ⟨rfl, hdE.mono (Ext.new hmT6), e1.trans (f6.trans f7), cop', ?_⟩ (by simp; omega) ⟨rfl, rfl, rfl, rfl, rfl, ?_, trivial⟩)
        · have : (bz ++ [(YTemp.mk y.addr s1 s2 y.key y.val)]).length = bz.length + 1 := by simp
          rw [this, List.take_add_one, List.getElem?_eq_getElem (by omega), hy]
          simp [hv, YTemp.v]
        · have : (bz ++ [(YTemp.mk y.addr s1 s2 y.key y.val)]).length = bz.length + 1 := by simp
          rw [this]
          exact congrArg (Value.int .i64) (wsucc (by omega))
      · have hce : bz.length = w.sT.2.1 := by have := cop.le; omega
        subst hHB
        have hdM := hd1
        have hm3T : m3 ≠ mT := ne_get hB3 hmT
        have hcM' : ∀ {x}, hput (hput (hput hm m2 (z109, 109)) m3 x) mT (cA, 263) c = some (cells, t) := fun {x} => hput_old (hc3 x) (by have := hmT; unfold cHB at this; rw [hput_ne hm3T.symm] at this ⊢; exact this)
        have hin9 : hi1 mT = none := hd1.lft (hput_same _ mT (cA, 263))
        have eH1 : Ext hi1 (hput hi1 mT (cA, 263)) := Ext.new hin9
        have eH : Ext hi' (hput hi1 mT (cA, 263)) := e1.trans eH1
        have eG := eF.trans eH
        have hdF : Dj (hput hi1 mT (cA, 263)) (cHB hm m2 m3 (cW sA sWA nilS sR sL (some ⟨mT, 0, none⟩, w.sT.2.1, w.sT.2.1) sM sG)) := Dj.freeze hdM hmT
        have hxF : Ext (join (hput hi1 mT (cA, 263)) (cHB hm m2 m3 (cW sA sWA nilS sR sL (some ⟨mT, 0, none⟩, w.sT.2.1, w.sT.2.1) sM sG))) (join hi1 (hput (cHB hm m2 m3 (cW sA sWA nilS sR sL (some ⟨mT, 0, none⟩, w.sT.2.1, w.sT.2.1) sM sG)) mT (cA, 263))) := Ext.freeze hin9
        have hTmp : TempL (hput hi1 mT (cA, 263)) (some ⟨mT, 0, none⟩, w.sT.2.1, w.sT.2.1) bz := ⟨cop.arr (fun q hq => tempCells_len hq.addr) (fun q => tempCells_one q) hce (hput_same ..), fun q hq => (cop.ok q hq).ext eH1⟩
        have hTmpv : bz.map YTemp.v = w.temps.map YTemp.v := by rw [hv, List.take_of_length_le (by omega)]
        obtain ⟨sT, hsTe⟩ : ∃ s : Sl, s = (some ⟨mT, 0, none⟩, w.sT.2.1, w.sT.2.1) := ⟨_, rfl⟩
        rw [← hsTe] at hdF hxF hTmp hdM hmT ⊢
        have hget3 : hput (cHB hm m2 m3 (cW sA sWA nilS sR sL sT sM sG)) mT (cA, 263) m3 = some (cW sA sWA nilS sR sL sT sM sG, 109) := by rw [hput_ne hm3T]; exact hput_same ..
        have hput_c : ∀ mK, hput (cHB hm m2 m3 (cW sA sWA nilS sR sL sT sM sG)) mT (cA, 263) mK = none → ∀ x, hput (hput (hput (cHB hm m2 m3 (cW sA sWA nilS sR sL sT sM sG)) mT (cA, 263)) mK (zeros z190 w.sWS.2.1, 190)) m3 x c = some (cells, t) := fun mK hmK x => by
          rw [hput_ne hcm3]
          exact hput_old hcM' hmK
        have hFinM : ∀ mK, m3 ≠ mK → hput (cHB hm m2 m3 (cW sA sWA nilS sR sL sT sM sG)) mT (cA, 263) mK = none → Dj hi1 (hput (hput (hput (cHB hm m2 m3 (cW sA sWA nilS sR sL sT sM sG)) mT (cA, 263)) mK (zeros z190 w.sWS.2.1, 190)) m3 (cW sA sWA (some ⟨mK, 0, none⟩, w.sWS.2.1, w.sWS.2.1) sR sL sT sM sG, 109)) →
            Ext (join (hput hi1 mT (cA, 263)) (hput (cHB hm m2 m3 (cW sA sWA (some ⟨mK, 0, none⟩, w.sWS.2.1, w.sWS.2.1) sR sL sT sM sG)) mK (zeros z190 w.sWS.2.1, 190))) (join hi1 (hput (hput (hput (cHB hm m2 m3 (cW sA sWA nilS sR sL sT sM sG)) mT (cA, 263)) mK (zeros z190 w.sWS.2.1, 190)) m3 (cW sA sWA (some ⟨mK, 0, none⟩, w.sWS.2.1, w.sWS.2.1) sR sL sT sM sG, 109))) ∧
            Dj (hput hi1 mT (cA, 263)) (hput (cHB hm m2 m3 (cW sA sWA (some ⟨mK, 0, none⟩, w.sWS.2.1, w.sWS.2.1) sR sL sT sM sG)) mK (zeros z190 w.sWS.2.1, 190)) ∧ cHB hm m2 m3 (cW sA sWA (some ⟨mK, 0, none⟩, w.sWS.2.1, w.sWS.2.1) sR sL sT sM sG) mK = none := fun mK h3 hn hdd => by
          have hAT : mK ≠ mT := (ne_get (hput_same ..) hn).symm
          rw [hput_comm h3, hput_comm hm3T, hput_hput, hput_comm hAT] at hdd ⊢
          refine ⟨Ext.freeze hin9, Dj.freeze hdd (by rw [hput_ne hAT.symm]; exact cHB_none hm3T hmT), ?_⟩
          rw [hput_ne hAT] at hn
          exact cHB_none h3 hn
        refine LoadX.blk (join_hm hdM hcM') (sl w.sWS) (hW 2 (by decide)) ?_; conv => whnf
        clear hmT
        have hT0 := hok.ws.arr
        cases hsT : w.sWS.1 with
        | none =>
          repeat (first | (refine CondX.tt ?_; conv => whnf) | (refine CondX.ff ?_; conv => whnf))
          have hTz : w.sWS.2.1 = 0 := by have := hT0.nil hsT; have := hT0.le; omega
          refine LoadX.blk (join_hm hdM hcM') (sl w.sWS) (hW 2 (by decide)) ?_; conv => whnf
          refine LoopX.drop (h0 := join (hput hi1 mT (cA, 263)) (cHB hm m2 m3 (cW sA sWA nilS sR sL sT sM sG))) hxF (mainM _ _ ⟨⟨rfl, rfl, rfl, rfl, rfl, rfl, trivial⟩, (hput hi1 mT (cA, 263)), sA, acc, sWA, sM, sG, sT, bz, nilS, eG, hAcc.ext eH, hAccv, gWA.ext eH, gM.ext eH, gG.ext eH, hTmp, hTmpv, .inl ⟨hTz, rfl, hdF, rfl⟩⟩)
        | some bT =>
          repeat (first | (refine CondX.tt ?_; conv => whnf) | (refine CondX.ff ?_; conv => whnf))
          refine LoadX.blk (join_hm hdM hcM') (sl w.sWS) (hW 2 (by decide)) ?_; conv => whnf
          refine MakeX.jm hdM w.sWS.2.1 rfl rfl (by decide) (show ((w.sWS.2.1 : Nat) : Int) * 48 ≤ 2 ^ 47 by have := hr.ws; omega) fun mK hiT hmT hdT => ?_; conv => whnf
          have hm3T : m3 ≠ mK := ne_get hget3 hmT
          refine StoreX.jm hdT (by rw [hput_ne hm3T]; exact hget3) (Nat.le_of_ble_eq_true rfl) ?_; conv => whnf
          have hdT2 := hdT.put (y := (cW sA sWA (some ⟨mK, 0, none⟩, w.sWS.2.1, w.sWS.2.1) sR sL sT sM sG, 109)) (show _ = some _ by rw [hput_ne hm3T]; exact hget3)
          have hcT : ∀ x, hput (hput _ mK (zeros z190 w.sWS.2.1, 190)) m3 x c = some (cells, t) := fun x => hput_c mK hmT x
          refine LoadX.blk (join_hm hdT2 (hcT _)) (sl w.sWS) (hW 2 (by decide)) ?_; conv => whnf
          obtain ⟨q1, q2, q3⟩ := hFinM mK hm3T hmT hdT2
          refine LoopX.drop (h0 := join (hput hi1 mT (cA, 263)) (hput (cHB hm m2 m3 (cW sA sWA (some ⟨mK, 0, none⟩, w.sWS.2.1, w.sWS.2.1) sR sL sT sM sG)) mK (zeros z190 w.sWS.2.1, 190))) q1 (mainM _ _ ⟨⟨rfl, rfl, rfl, rfl, rfl, rfl, trivial⟩, (hput hi1 mT (cA, 263)), sA, acc, sWA, sM, sG, sT, bz, (some ⟨mK, 0, none⟩, w.sWS.2.1, w.sWS.2.1), eG, hAcc.ext eH, hAccv, gWA.ext eH, gM.ext eH, gG.ext eH, hTmp, hTmpv, .inr ⟨mK, rfl, q3, q2, rfl⟩⟩)
  case hmain =>
    rintro ρ h' ⟨agr, hi', sA, acc, sWA, sM, sG, sT, tmp, sWS, eF, hAcc, hAccv, gWA, gM, gG, hTmp, hTmpv, hN⟩
    have hokT := hok4.up eF
    have nT := hok.ws.n
    have hrT := hr.ws
    have hLg : LogL hi' sL yl := g4.ext eF
    have hRf : NtS hi' sR w.ref := (g3.ext f4).ext eF
    have hE4' : Ext hi hi' := hEx4.trans eF
    rcases hN with ⟨hT0, rfl, hdN, rfl⟩ | ⟨mT, rfl, hmT, hdN, rfl⟩
    · refine LoopX.st T_ok Hval.func101 (σ := Unit) (fun _ => [(0, .pointer (some ⟨c, o, none⟩)), (2, .pointer (some ⟨m2, 0, none⟩)), (3, .pointer (some ⟨m3, 0, none⟩)), (161, sl w.sWS), (162, .int .i64 w.sWS.2.1), (163, .int .i64 0)])
        (fun _ h' => h' = join hi' (cHB hm m2 m3 (cW sA sWA nilS sR sL sT sM sG))) (fun _ => 0) () agr rfl ?_
      rintro _ ρ h' rfl ih
      conv => whnf
      refine CondX.dF (by omega) ?_; conv => whnf
      have hte : w.ws = [] := List.eq_nil_of_length_eq_zero (by omega)
      have hget3 : cHB hm m2 m3 (cW sA sWA nilS sR sL sT sM sG) m3 = some (cW sA sWA nilS sR sL sT sM sG, 109) := hput_same ..
      have hget2 : cHB hm m2 m3 (cW sA sWA nilS sR sL sT sM sG) m2 = some (z109, 109) := by unfold cHB; rw [hput_ne hm23]; exact hput_same ..
      have hEm : Ext (join hi' hm) (join hi' (cHB hm m2 m3 (cW sA sWA nilS sR sL sT sM sG))) := Ext.jmono hdN ((Ext.new hm2).trans (Ext.new hm3))
      have hdm : Dj hi' hm := hdN.mono ((Ext.new hm2).trans (Ext.new hm3))
      have hMk : MarkL hi' nilS [] := ⟨Arr_nil _ 21, fun q hq => by cases hq⟩
      have hMkv : ([] : List YMark).map YMark.id = w.ws.map YMark.id := by rw [hte]
      have eG : Ext hi' hi' := Ext.refl _
      have hq2 := hdN.lft hget2
      refine LoadX.all (join_hm hdN hget3) rfl ?_; conv => whnf
      refine Ob.mk ⟨rfl, rfl⟩ ?_; conv => whnf
      refine StoreX.jm hdN hget2 (Nat.le_of_ble_eq_true rfl) ?_; conv => whnf
      have hdL := hdN.put (y := (cW sA sWA nilS sR sL sT sM sG, 109)) hget2
      refine LoadX.all (c := cW sA sWA nilS sR sL sT sM sG) (t := 109) (join_hm hdL (hput_same ..)) rfl ?_; conv => whnf
      refine RetX.drop (h' := join hi' hm) (fun b z hb => ?_) (hk hi' (YW.mk sA sWA nilS sR sL sT sM sG acc w.wa ([] : List YMark) w.ref yl tmp w.made w.gone) (hE4'.trans eG) hdm ⟨⟨hAcc.ext eG, ⟨gWA.ext eG, hok.wa.len⟩, hMk, hRf.ext eG, (hLg.ext eG).arr, (hLg.ext eG).each, hTmp.ext eG, ⟨gM.ext eG, hok.made.len⟩, ⟨gG.ext eG, hok.gone.len⟩⟩, cl4⟩ ⟨hAccv, rfl, hMkv, rfl, l4, hTmpv, rfl, rfl⟩)
      have hb2 : b ≠ m2 := by
        intro e
        rw [e] at hb
        unfold join at hb
        have q1 : hi' m2 = none := hq2
        rw [q1] at hb
        simp only at hb
        rw [hm2] at hb
        cases hb
      rw [join_put_ne hb2]
      exact hEm _ _ hb
    · obtain ⟨HB, hHB⟩ : ∃ HB : Hp, HB = cHB hm m2 m3 (cW sA sWA (some ⟨mT, 0, none⟩, w.sWS.2.1, w.sWS.2.1) sR sL sT sM sG) := ⟨_, rfl⟩
      rw [← hHB] at hmT hdN ⊢
      have hB3 : HB m3 = some (cW sA sWA (some ⟨mT, 0, none⟩, w.sWS.2.1, w.sWS.2.1) sR sL sT sM sG, 109) := by rw [hHB]; exact hput_same ..
      have hBc : HB c = some (cells, t) := by rw [hHB]; exact hc3 _
      refine LoopX.st T_ok Hval.func101 (σ := List YMark × Hp × List Value) (fun s0 => [(0, .pointer (some ⟨c, o, none⟩)), (2, .pointer (some ⟨m2, 0, none⟩)), (3, .pointer (some ⟨m3, 0, none⟩)), (161, sl w.sWS), (162, .int .i64 w.sWS.2.1), (163, .int .i64 s0.1.length)])
        (fun s0 h' => h' = join s0.2.1 (hput HB mT (s0.2.2, 190)) ∧ Dj s0.2.1 (hput HB mT (s0.2.2, 190)) ∧ Ext hi' s0.2.1 ∧ Cop markCells (fun h y => YMark.ok h y) s0.2.1 z190 w.sWS.2.1 s0.1 s0.2.2 ∧ s0.1.map YMark.id = (w.ws.take s0.1.length).map YMark.id) (fun s0 => w.sWS.2.1 - s0.1.length) ([], hi', zeros z190 w.sWS.2.1)
        agr ⟨rfl, hdN, Ext.refl _, ⟨by simp, Nat.zero_le _, fun y hy => (by cases hy)⟩, by simp⟩ ?_
      rintro ⟨bz, hi1, cA⟩ ρ h' ⟨rfl, hd1, e1, cop, hv⟩ ih
      simp only at hd1 e1 cop hv ⊢
      conv => whnf
      have hok1 := hokT.up e1
      have cl := cop.len (fun q hq => markCells_len hq.addr)
      have ez : z190.length = 21 := rfl
      refine CondX.decI (fun hci => ?_) (fun hci => ?_) <;> conv => whnf
      · have hci : bz.length < w.sWS.2.1 := by omega
        have hAj := hok1.ws.arr.ext (Ext.jl hi1 (hput HB mT (cA, 190)))
        refine IdxX.arr hAj (by omega) (by omega) (by omega) fun b off e => ?_; conv => whnf
        refine LoadX.elt hAj e bz.length rfl hci ?_; conv => whnf
        rw [getD_map (by omega)]
        have hyo := hok1.ws.each _ (List.getElem_mem (show bz.length < w.ws.length by omega))
        generalize hy : w.ws[bz.length]'(by omega) = y at *
        have ylen := markCells_len hyo.addr
        have yone := markCells_one y
        refine BoxX.jm hd1 fun m5 hi5' hm5 hd5' => ?_; conv => whnf
        refine Ob.mk ⟨by rw [List.size_toArray, ylen]; rfl, yone⟩ ?_; conv => whnf
        refine StoreX.top hd5' (markCells y) (setSeg_all (by rw [List.toList_toArray, ylen]; rfl)) (by rw [List.toList_toArray, ylen]; decide) fun hd51 => ?_; conv => whnf
        have hmT5 : mT ≠ m5 := ne_get (hput_same ..) hm5
        have hl5 : hput (hput HB mT (cA, 190)) m5 (markCells y, 190) m5 = some (bcells y.addr ++ [sl y.ks], 190) := hput_same ..
        have hl3 : hput (hput HB mT (cA, 190)) m5 (markCells y, 190) m3 = some (cW sA sWA (some ⟨mT, 0, none⟩, w.sWS.2.1, w.sWS.2.1) sR sL sT sM sG, 109) := hput_old (hput_old hB3 hmT) hm5
        refine DrawX.go T_ok hM Hval.func101 (tb := dr101) rfl (by kernel_rfl) ?_; conv => whnf
        refine LoadX.blk (join_hm hd51 hl3) (sl (some ⟨mT, 0, none⟩, w.sWS.2.1, w.sWS.2.1)) rfl ?_; conv => whnf
        refine LoadX.adr (join_hm hd51 hl5) hyo.addr ?_; conv => whnf
        refine LoadX.fld (join_hm hd51 hl5) hyo.addr 0 rfl (v := sl y.ks) rfl ?_; conv => whnf
        refine CallX.fj hd51 (natOf_ok hyo.key fun s1 hi6 f6 g6 hd61 => ?_); conv => whnf
        refine Ob.mk (ldV_adr (join_hm hd61 hl5) hyo.addr) ?_; conv => whnf
        refine Ob.mk (ldV_blk (join_hm hd61 hl3) rfl) ?_; conv => whnf
        have alen : (bcells y.addr).length = 20 := by rw [bcells_length, hyo.addr]
        erw [fillL_head (n := 20) rfl alen (by decide), fillL_fld (n := 20) (k := 0) (v := sl s1) alen rfl rfl (by decide), fillL_done]
        refine forceL_of (l := markCells (YMark.mk y.addr s1 y.key)) (fok_app fok_bcells (fok_one _)) ?_; conv => whnf
        have x2len := markCells_len (x := (YMark.mk y.addr s1 y.key)) hyo.addr
        refine IdxX.at (by omega) (by omega) ?_; conv => whnf
        refine Ob.mk ⟨by rw [List.size_toArray, x2len]; rfl, markCells_one (YMark.mk y.addr s1 y.key)⟩ ?_; conv => whnf
        have hidx : 0 + ((bz.length : Nat) : Int).toNat * 21 = bz.length * z190.length := by rw [Int.toNat_natCast, ez]; omega
        refine StoreX.under hd61 hmT5 (setSeg cA (0 + ((bz.length : Nat) : Int).toNat * 21) (markCells (YMark.mk y.addr s1 y.key))) rfl ?_ fun hdE => ?_
        · show 0 + ((bz.length : Nat) : Int).toNat * 21 + (markCells (YMark.mk y.addr s1 y.key)).length ≤ _
          rw [x2len, Int.toNat_natCast, cl, ez]
          have : (bz.length + 1) * 21 ≤ w.sWS.2.1 * 21 := Nat.mul_le_mul_right _ hci
          omega
        conv => whnf
        have cop' := cop.step (y := (YMark.mk y.addr s1 y.key)) f6 (fun q hq => YMark.ok.ext f6 hq) (fun q hq => markCells_len hq.addr) ⟨hyo.addr, g6⟩ hci
        rw [← hidx] at cop'
        have hmT6 : hput HB mT (setSeg cA (0 + ((bz.length : Nat) : Int).toNat * 21) (markCells (YMark.mk y.addr s1 y.key)), 190) m5 = none := by
          rw [hput_ne hmT5.symm]; rwa [hput_ne hmT5.symm] at hm5
        refine LoopX.drop (h0 := join hi6 (hput HB mT (setSeg cA (0 + ((bz.length : Nat) : Int).toNat * 21) (markCells (YMark.mk y.addr s1 y.key)), 190))) (Ext.jmono hdE (Ext.new hmT6))
          (ih (bz ++ [(YMark.mk y.addr s1 y.key)], hi6, setSeg cA (0 + ((bz.length : Nat) : Int).toNat * 21) (markCells (YMark.mk y.addr s1 y.key))) _ _ ⟨rfl, hdE.mono (Ext.new hmT6), e1.trans f6, cop', ?_⟩ (by simp; omega) ⟨rfl, rfl, rfl, rfl, rfl, ?_, trivial⟩)
        · have : (bz ++ [(YMark.mk y.addr s1 y.key)]).length = bz.length + 1 := by simp
          rw [this, List.take_add_one, List.getElem?_eq_getElem (by omega), hy]
          simp [hv, YMark.id]
        · have : (bz ++ [(YMark.mk y.addr s1 y.key)]).length = bz.length + 1 := by simp
          rw [this]
          exact congrArg (Value.int .i64) (wsucc (by omega))
      · have hce : bz.length = w.sWS.2.1 := by have := cop.le; omega
        subst hHB
        have hm3T : m3 ≠ mT := ne_get hB3 hmT
        have hin9 : hi1 mT = none := hd1.lft (hput_same _ mT (cA, 190))
        have eH1 : Ext hi1 (hput hi1 mT (cA, 190)) := Ext.new hin9
        have hMk : MarkL (hput hi1 mT (cA, 190)) (some ⟨mT, 0, none⟩, w.sWS.2.1, w.sWS.2.1) bz := ⟨cop.arr (fun q hq => markCells_len hq.addr) (fun q => markCells_one q) hce (hput_same ..), fun q hq => (cop.ok q hq).ext eH1⟩
        have hMkv : bz.map YMark.id = w.ws.map YMark.id := by rw [hv, List.take_of_length_le (by omega)]
        have eG : Ext hi' (hput hi1 mT (cA, 190)) := e1.trans eH1
        have hget3 : hput (cHB hm m2 m3 (cW sA sWA (some ⟨mT, 0, none⟩, w.sWS.2.1, w.sWS.2.1) sR sL sT sM sG)) mT (cA, 190) m3 = some (cW sA sWA (some ⟨mT, 0, none⟩, w.sWS.2.1, w.sWS.2.1) sR sL sT sM sG, 109) := by rw [hput_ne hm3T]; exact hput_same ..
        have hget2' : cHB hm m2 m3 (cW sA sWA (some ⟨mT, 0, none⟩, w.sWS.2.1, w.sWS.2.1) sR sL sT sM sG) m2 = some (z109, 109) := by unfold cHB; rw [hput_ne hm23]; exact hput_same ..
        have hget2 := hput_old (y := (cA, 190)) hget2' hmT
        have hdZ : Dj (hput hi1 mT (cA, 190)) (cHB hm m2 m3 (cW sA sWA (some ⟨mT, 0, none⟩, w.sWS.2.1, w.sWS.2.1) sR sL sT sM sG)) := Dj.freeze hd1 hmT
        have hdm : Dj (hput hi1 mT (cA, 190)) hm := hdZ.mono ((Ext.new hm2).trans (Ext.new hm3))
        have hEm : Ext (join (hput hi1 mT (cA, 190)) hm) (join hi1 (hput (cHB hm m2 m3 (cW sA sWA (some ⟨mT, 0, none⟩, w.sWS.2.1, w.sWS.2.1) sR sL sT sM sG)) mT (cA, 190))) := (Ext.jmono hdZ ((Ext.new hm2).trans (Ext.new hm3))).trans (Ext.freeze hin9)
        have hq2 := hdZ.lft hget2'
        refine LoadX.all (join_hm hd1 hget3) rfl ?_; conv => whnf
        refine Ob.mk ⟨rfl, rfl⟩ ?_; conv => whnf
        refine StoreX.jm hd1 hget2 (Nat.le_of_ble_eq_true rfl) ?_; conv => whnf
        have hdL := hd1.put (y := (cW sA sWA (some ⟨mT, 0, none⟩, w.sWS.2.1, w.sWS.2.1) sR sL sT sM sG, 109)) hget2
        refine LoadX.all (c := cW sA sWA (some ⟨mT, 0, none⟩, w.sWS.2.1, w.sWS.2.1) sR sL sT sM sG) (t := 109) (join_hm hdL (hput_same ..)) rfl ?_; conv => whnf
        refine RetX.drop (h' := join (hput hi1 mT (cA, 190)) hm) (fun b z hb => ?_) (hk (hput hi1 mT (cA, 190)) (YW.mk sA sWA (some ⟨mT, 0, none⟩, w.sWS.2.1, w.sWS.2.1) sR sL sT sM sG acc w.wa bz w.ref yl tmp w.made w.gone) (hE4'.trans eG) hdm ⟨⟨hAcc.ext eG, ⟨gWA.ext eG, hok.wa.len⟩, hMk, hRf.ext eG, (hLg.ext eG).arr, (hLg.ext eG).each, hTmp.ext eG, ⟨gM.ext eG, hok.made.len⟩, ⟨gG.ext eG, hok.gone.len⟩⟩, cl4⟩ ⟨hAccv, rfl, hMkv, rfl, l4, hTmpv, rfl, rfl⟩)
        have hb2 : b ≠ m2 := by
          intro e
          rw [e] at hb
          unfold join at hb
          have q1 : (hput hi1 mT (cA, 190)) m2 = none := hq2
          rw [q1] at hb
          simp only at hb
          rw [hm2] at hb
          cases hb
        rw [join_put_ne hb2]
        exact hEm _ _ hb
end
end Go.Proofs.YgvalwGreat.X
