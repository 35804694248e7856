import Derived.Test.YgvalwGreatG1
set_option linter.unusedVariables false
set_option linter.unusedSimpArgs false
namespace Go.Proofs.YgvalwGreat.X
open Go

/-! ### The permutation on single bits: bit x, y, z at 320x+64y+z -/
def colP (g : Nat → Bool) (x z : Nat) : Nat → Bool
  | 0 => false
  | n + 1 => (colP g x z n != g (320 * x + 64 * n + z))
def thetaB (g : Nat → Bool) : Nat → Bool := fun i => (g i != (colP g ((i / 320 + 4) % 5) (i % 64) 5 != colP g ((i / 320 + 1) % 5) ((i % 64 + 63) % 64) 5))
def cntC (x y z j : Nat) : Nat := if j / 64 < x then 5 else if j / 64 = x then (if j % 64 < z then y + 1 else y) else 0
def colI (g C : Nat → Bool) (x y z : Nat) : Prop := ∀ j, j < 320 → C j = colP g (j / 64) (j % 64) (cntC x y z j)
theorem colI.next {g C : Nat → Bool} {x y z : Nat} (h : colI g C x y z) (hx : x < 5) (hz : z < 64) : colI g (updB C (64 * x + z) (C (64 * x + z) != g (320 * x + 64 * y + z))) x y (z + 1) := fun j hj => by
  unfold updB
  have e1 : (64 * x + z) / 64 = x := by omega
  have e2 : (64 * x + z) % 64 = z := by omega
  by_cases e : j = 64 * x + z
  · subst e
    rw [if_pos rfl, h _ hj]
    unfold cntC
    rw [e1, e2, if_neg (by omega), if_pos rfl, if_neg (by omega), if_neg (by omega), if_pos rfl, if_pos (by omega)]
    rfl
  · rw [if_neg e, h _ hj]
    congr 1
    unfold cntC
    have : ¬ (j / 64 = x ∧ j % 64 = z) := by omega
    split
    · rfl
    split
    · have h3 : j % 64 < z + 1 ↔ j % 64 < z := by omega
      simp only [h3]
    · rfl
theorem colI.row {g C : Nat → Bool} {x y : Nat} (h : colI g C x y 64) : colI g C x (y + 1) 0 := fun j hj => by
  rw [h j hj]
  congr 1
  unfold cntC
  have : j % 64 < 64 := Nat.mod_lt _ (by decide)
  simp [this]
theorem colI.col {g C : Nat → Bool} {x : Nat} (h : colI g C x 5 0) : colI g C (x + 1) 0 0 := fun j hj => by
  rw [h j hj]
  congr 1
  unfold cntC
  simp only [Nat.not_lt_zero, if_false]
  by_cases h1 : j / 64 < x
  · rw [if_pos h1, if_pos (by omega)]
  · rw [if_neg h1]
    by_cases h2 : j / 64 = x
    · rw [if_pos h2, if_pos (by omega)]
    · rw [if_neg h2, if_neg (by omega)]
      split <;> rfl

theorem z367_fn : z367 = fnb 64 fun _ => false := zeros_one (.bool false) 64
theorem z368_fn : z368 = fnb 320 fun _ => false := by
  show zeros z367 5 = _
  rw [z367_fn]; exact zeros_fnv (.bool false) 64 5
theorem z370_fn : z370 = fnb 1600 fun _ => false := by
  show zeros z368 5 = _
  rw [z368_fn]; exact zeros_fnv (.bool false) 320 5
theorem tm5 (a : Nat) : Int.tmod (a : Int) 5 = ((a % 5 : Nat) : Int) := tmodN a 5
theorem tm64 (a : Nat) : Int.tmod (a : Int) 64 = ((a % 64 : Nat) : Int) := tmodN a 64
theorem sz4 : y4.size = 1 := rfl
theorem sz367 : y367.size = 64 := rfl
theorem sz368 : y368.size = 320 := rfl
theorem ptr_eq {m o o' : Nat} (h : o = o') : Value.pointer (some ⟨m, o, none⟩) = Value.pointer (some ⟨m, o', none⟩) := by rw [h]
theorem Bd.at {h : Hp} {c : Nat} (hc : Bd h c) : h c = Option.none := hc.none (Nat.le_refl _)
theorem Kp.none {m b : Nat} {h h' : Hp} (k : Kp m h h') (hm : ∃ y, h' m = some y) (hb : h' b = none) : h b = none := by
  cases e : h b with
  | none => rfl
  | some x =>
    have hne : b ≠ m := fun q => by obtain ⟨y, hy⟩ := hm; rw [← q, hb] at hy; cases hy
    rw [k b x hne e] at hb; cases hb

section
variable {h : Hp} {K : Value → Hp → Prop}
set_option maxRecDepth 100000 in
set_option maxHeartbeats 4000000 in
theorem theta_ok {m : Nat} {g : Nat → Bool} {t : TypeId} (hb : h m = some (fnb 1600 g, t)) (hk : K (.tuple #[]) (hput h m (fnb 1600 (thetaB g), t))) : CallX Hval.prog 330 [.pointer (some ⟨m, 0, none⟩)] h K := by
  refine CallX.of_xf T_ok Hval.func330 rfl (by kernel_rfl) (Nat.le_of_ble_eq_true rfl) ?_; conv => whnf
  refine BoxX.ext fun c hc ec => ?_; conv => whnf
  have hc0 : h c = none := hc.at
  have hcm : c ≠ m := fun e => by rw [e, hb] at hc0; cases hc0
  refine LoopX.st T_ok Hval.func330 (σ := Nat) (fun s => [(0, .pointer (some ⟨m, 0, none⟩)), (2, .pointer (some ⟨c, 0, none⟩)), (16, .int .i64 s)])
    (fun s h' => s ≤ 5 ∧ ∃ C, h' c = some (fnb 320 C, 368) ∧ h' m = some (fnb 1600 g, t) ∧ Kp m h h' ∧ colI g C s 0 0) (fun s => 5 - s) 0 ⟨rfl, rfl, rfl, trivial⟩ ⟨by omega, fun _ => false, ?_, ?_, (Kp.refl m h).new hc0, ?_⟩ ?_
  · rw [hput_same]; exact congrArg (fun z => some (z, 368)) z368_fn
  · rw [hput_ne hcm.symm]; exact hb
  · intro j hj
    unfold cntC
    simp [colP]
  rintro x ρ h' ⟨hx, C, hC, hA, kp, hI⟩ ih
  conv => whnf
  refine CondX.decI (fun hx5 => ?_) (fun hx5 => ?_) <;> conv => whnf
  · have hx5 : x < 5 := by omega
    refine LoopX.st T_ok Hval.func330 (σ := Nat) (fun s => [(0, .pointer (some ⟨m, 0, none⟩)), (2, .pointer (some ⟨c, 0, none⟩)), (16, .int .i64 x), (3, .int .i64 x), (19, .int .i64 s)])
      (fun s h' => s ≤ 5 ∧ ∃ C, h' c = some (fnb 320 C, 368) ∧ h' m = some (fnb 1600 g, t) ∧ Kp m h h' ∧ colI g C x s 0) (fun s => 5 - s) 0 ⟨rfl, rfl, rfl, rfl, rfl, trivial⟩ ⟨by omega, C, hC, hA, kp, hI⟩ ?_
    clear hI kp hA hC C h'
    rintro y ρ h' ⟨hy, C, hC, hA, kp, hI⟩ ih2
    conv => whnf
    refine CondX.decI (fun hy5 => ?_) (fun hy5 => ?_) <;> conv => whnf
    · have hy5 : y < 5 := by omega
      refine Ob.mk (by first | decide | omega) ?_; conv => whnf
      refine Ob.mk (by first | decide | omega) ?_; conv => whnf
      refine LoopX.st T_ok Hval.func330 (σ := Nat) (fun s => [(0, .pointer (some ⟨m, 0, none⟩)), (2, .pointer (some ⟨c, 0, none⟩)), (16, .int .i64 x), (3, .int .i64 x), (19, .int .i64 y), (27, .pointer (some ⟨m, 320 * x + 64 * y, none⟩)), (28, .int .i64 s)])
        (fun s h' => s ≤ 64 ∧ ∃ C, h' c = some (fnb 320 C, 368) ∧ h' m = some (fnb 1600 g, t) ∧ Kp m h h' ∧ colI g C x y s) (fun s => 64 - s) 0 ⟨rfl, rfl, rfl, rfl, rfl, ptr_eq (by simp only [sz367, sz368, sz4]; omega), rfl, trivial⟩ ⟨by omega, C, hC, hA, kp, hI⟩ ?_
      clear hI kp hA hC C h'
      rintro z ρ h' ⟨hz, C, hC, hA, kp, hI⟩ ih3
      conv => whnf
      refine CondX.decI (fun hz5 => ?_) (fun hz5 => ?_) <;> conv => whnf
      · have hz5 : z < 64 := by omega
        refine DrawX.go T_ok hM Hval.func330 (tb := dr330) rfl (by kernel_rfl) ?_; conv => whnf
        refine Ob.mk (by first | decide | omega) ?_; conv => whnf
        refine LoadX.fb hA (320 * x + 64 * y + z) (by simp only [sz367, sz368, sz4]; omega) (by omega) ?_; conv => whnf
        refine DrawX.go T_ok hM Hval.func330 (tb := dr330) rfl (by kernel_rfl) ?_; conv => whnf
        refine Ob.mk (by first | decide | omega) ?_; conv => whnf
        refine Ob.mk (by first | decide | omega) ?_; conv => whnf
        refine LoadX.fb hC (64 * x + z) (by simp only [sz367, sz368, sz4]; omega) (by omega) ?_; conv => whnf
        refine Ob.mk (by first | decide | omega) ?_; conv => whnf
        refine Ob.mk (by first | decide | omega) ?_; conv => whnf
        refine StoreX.fb hC (64 * x + z) (by simp only [sz367, sz368, sz4]; omega) (by omega) ?_; conv => whnf
        refine ih3 (z + 1) _ _ ⟨by omega, _, hput_same .., by rw [hput_ne hcm.symm]; exact hA, kp.new hc0, hI.next hx5 hz5⟩ (by omega) ⟨rfl, rfl, rfl, rfl, rfl, rfl, congrArg (Value.int .i64) (wsucc (by omega)), trivial⟩
      · have : z = 64 := by omega
        subst this
        exact ih2 (y + 1) _ _ ⟨by omega, C, hC, hA, kp, hI.row⟩ (by omega) ⟨rfl, rfl, rfl, rfl, congrArg (Value.int .i64) (wsucc (by omega)), trivial⟩
    · have : y = 5 := by omega
      subst this
      exact ih (x + 1) _ _ ⟨by omega, C, hC, hA, kp, hI.col⟩ (by omega) ⟨rfl, rfl, congrArg (Value.int .i64) (wsucc (by omega)), trivial⟩
  · have : x = 5 := by omega
    subst this
    have hCol : ∀ j, j < 320 → C j = colP g (j / 64) (j % 64) 5 := fun j hj => by
      rw [hI j hj]; congr 1; unfold cntC; rw [if_pos (by omega)]
    clear hI ih
    refine LoopX.st T_ok Hval.func330 (σ := Nat) (fun s => [(0, .pointer (some ⟨m, 0, none⟩)), (2, .pointer (some ⟨c, 0, none⟩)), (48, .int .i64 s)])
      (fun s h' => s ≤ 5 ∧ ∃ A, h' c = some (fnb 320 C, 368) ∧ h' m = some (fnb 1600 A, t) ∧ Kp m h h' ∧ ∀ i, i < 1600 → A i = if i < 320 * s then thetaB g i else g i) (fun s => 5 - s) 0 ⟨rfl, rfl, rfl, trivial⟩ ⟨by omega, g, hC, hA, kp, fun i hi => by rw [if_neg (by omega)]⟩ ?_
    clear kp hA hC h'
    rintro x ρ h' ⟨hx, A, hC, hA, kp, hI⟩ ih
    conv => whnf
    refine CondX.decI (fun hx5 => ?_) (fun hx5 => ?_) <;> conv => whnf
    · have hx5 : x < 5 := by omega
      rw [show ((x : Int) + 4) = ((x + 4 : Nat) : Int) by omega, wrap_i64 (x := ((x + 4 : Nat) : Int)) (by omega) (by omega)]
      refine Ob.mk (by first | decide | omega) ?_; conv => whnf
      rw [tm5]
      refine Ob.mk (by first | decide | omega) ?_; conv => whnf
      rw [wsucc (show x < 2 ^ 41 by omega)]
      refine Ob.mk (by first | decide | omega) ?_; conv => whnf
      rw [tm5]
      refine Ob.mk (by first | decide | omega) ?_; conv => whnf
      refine BoxX.ext fun d hd ed => ?_; conv => whnf
      have hd0 := hd.at
      have hdm : d ≠ m := fun e => by rw [e, hA] at hd0; cases hd0
      have hdc : d ≠ c := fun e => by rw [e, hC] at hd0; cases hd0
      have hd00 : h d = Option.none := kp.none ⟨_, hA⟩ hd0
      refine LoopX.st T_ok Hval.func330 (σ := Nat) (fun s => [(0, .pointer (some ⟨m, 0, none⟩)), (2, .pointer (some ⟨c, 0, none⟩)), (48, .int .i64 x), (7, .int .i64 x), (8, .pointer (some ⟨c, (x + 4) % 5 * 64, none⟩)), (9, .pointer (some ⟨c, (x + 1) % 5 * 64, none⟩)), (10, .pointer (some ⟨d, 0, none⟩)), (59, .int .i64 s)])
        (fun s h' => s ≤ 64 ∧ ∃ D, h' d = some (fnb 64 D, 367) ∧ h' c = some (fnb 320 C, 368) ∧ h' m = some (fnb 1600 A, t) ∧ Kp m h h' ∧ ∀ i, i < s → D i = (colP g ((x + 4) % 5) i 5 != colP g ((x + 1) % 5) ((i + 63) % 64) 5)) (fun s => 64 - s) 0
        ⟨rfl, rfl, rfl, rfl, ptr_eq (by simp only [sz367, sz368, sz4]; omega), ptr_eq (by simp only [sz367, sz368, sz4]; omega), rfl, rfl, trivial⟩ ⟨by omega, fun _ => false, by rw [hput_same]; exact congrArg (fun z => some (z, 367)) z367_fn, by rw [hput_ne hdc.symm]; exact hC, by rw [hput_ne hdm.symm]; exact hA, kp.new hd00, fun i hi => by omega⟩ ?_
      clear kp hA hC hd hd0 ed h'
      rintro z ρ h' ⟨hz, D, hD, hC, hA, kp, hDI⟩ ih2
      conv => whnf
      refine CondX.decI (fun hz5 => ?_) (fun hz5 => ?_) <;> conv => whnf
      · have hz5 : z < 64 := by omega
        refine DrawX.go T_ok hM Hval.func330 (tb := dr330) rfl (by kernel_rfl) ?_; conv => whnf
        refine Ob.mk (by first | decide | omega) ?_; conv => whnf
        refine LoadX.fb hC ((x + 4) % 5 * 64 + z) (by simp only [sz367, sz368, sz4]; omega) (by omega) ?_; conv => whnf
        rw [show ((z : Int) + 63) = ((z + 63 : Nat) : Int) by omega, wrap_i64 (x := ((z + 63 : Nat) : Int)) (by omega) (by omega)]
        refine Ob.mk (by first | decide | omega) ?_; conv => whnf
        rw [tm64]
        refine Ob.mk (by first | decide | omega) ?_; conv => whnf
        refine LoadX.fb hC ((x + 1) % 5 * 64 + (z + 63) % 64) (by simp only [sz367, sz368, sz4]; omega) (by omega) ?_; conv => whnf
        refine Ob.mk (by first | decide | omega) ?_; conv => whnf
        refine StoreX.fb hD z (by simp only [sz367, sz368, sz4]; omega) (by omega) ?_; conv => whnf
        refine ih2 (z + 1) _ _ ⟨by omega, _, hput_same .., by rw [hput_ne hdc.symm]; exact hC, by rw [hput_ne hdm.symm]; exact hA, kp.new hd00, fun i hi => ?_⟩ (by omega) ⟨rfl, rfl, rfl, rfl, rfl, rfl, rfl, congrArg (Value.int .i64) (wsucc (by omega)), trivial⟩
        unfold updB
        by_cases e : i = z
        · subst e
          rw [if_pos rfl, hCol _ (by omega), hCol _ (by omega), show ((x + 4) % 5 * 64 + i) / 64 = (x + 4) % 5 by omega, show ((x + 4) % 5 * 64 + i) % 64 = i by omega, show ((x + 1) % 5 * 64 + (i + 63) % 64) / 64 = (x + 1) % 5 by omega, show ((x + 1) % 5 * 64 + (i + 63) % 64) % 64 = (i + 63) % 64 by omega]
          rfl
        · rw [if_neg e]; exact hDI i (by omega)
      · have : z = 64 := by omega
        subst this
        clear ih2
        refine LoopX.st T_ok Hval.func330 (σ := Nat) (fun s => [(0, .pointer (some ⟨m, 0, none⟩)), (2, .pointer (some ⟨c, 0, none⟩)), (48, .int .i64 x), (7, .int .i64 x), (10, .pointer (some ⟨d, 0, none⟩)), (78, .int .i64 s)])
          (fun s h' => s ≤ 5 ∧ ∃ A, h' d = some (fnb 64 D, 367) ∧ h' c = some (fnb 320 C, 368) ∧ h' m = some (fnb 1600 A, t) ∧ Kp m h h' ∧ ∀ i, i < 1600 → A i = if i < 320 * x + 64 * s then thetaB g i else g i) (fun s => 5 - s) 0
          ⟨rfl, rfl, rfl, rfl, rfl, rfl, trivial⟩ ⟨by omega, A, hD, hC, hA, kp, hI⟩ ?_
        clear kp hA hC hD hI A h'
        rintro y ρ h' ⟨hy, A, hD, hC, hA, kp, hI⟩ ih2
        conv => whnf
        refine CondX.decI (fun hy5 => ?_) (fun hy5 => ?_) <;> conv => whnf
        · have hy5 : y < 5 := by omega
          refine Ob.mk (by first | decide | omega) ?_; conv => whnf
          refine Ob.mk (by first | decide | omega) ?_; conv => whnf
          refine LoopX.st T_ok Hval.func330 (σ := Nat) (fun s => [(0, .pointer (some ⟨m, 0, none⟩)), (2, .pointer (some ⟨c, 0, none⟩)), (48, .int .i64 x), (7, .int .i64 x), (10, .pointer (some ⟨d, 0, none⟩)), (78, .int .i64 y), (13, .pointer (some ⟨m, 320 * x + 64 * y, none⟩)), (87, .int .i64 s)])
            (fun s h' => s ≤ 64 ∧ ∃ A, h' d = some (fnb 64 D, 367) ∧ h' c = some (fnb 320 C, 368) ∧ h' m = some (fnb 1600 A, t) ∧ Kp m h h' ∧ ∀ i, i < 1600 → A i = if i < 320 * x + 64 * y + s then thetaB g i else g i) (fun s => 64 - s) 0
            ⟨rfl, rfl, rfl, rfl, rfl, rfl, ptr_eq (by simp only [sz367, sz368, sz4]; omega), rfl, trivial⟩ ⟨by omega, A, hD, hC, hA, kp, hI⟩ ?_
          clear kp hA hC hD hI A h'
          rintro z ρ h' ⟨hz, A, hD, hC, hA, kp, hI⟩ ih3
          conv => whnf
          refine CondX.decI (fun hz5 => ?_) (fun hz5 => ?_) <;> conv => whnf
          · have hz5 : z < 64 := by omega
            refine DrawX.go T_ok hM Hval.func330 (tb := dr330) rfl (by kernel_rfl) ?_; conv => whnf
            refine Ob.mk (by first | decide | omega) ?_; conv => whnf
            refine LoadX.fb hD z (by simp only [sz367, sz368, sz4]; omega) (by omega) ?_; conv => whnf
            refine DrawX.go T_ok hM Hval.func330 (tb := dr330) rfl (by kernel_rfl) ?_; conv => whnf
            refine Ob.mk (by first | decide | omega) ?_; conv => whnf
            refine LoadX.fb hA (320 * x + 64 * y + z) (by simp only [sz367, sz368, sz4]; omega) (by omega) ?_; conv => whnf
            refine Ob.mk (by first | decide | omega) ?_; conv => whnf
            refine StoreX.fb hA (320 * x + 64 * y + z) (by simp only [sz367, sz368, sz4]; omega) (by omega) ?_; conv => whnf
            refine ih3 (z + 1) _ _ ⟨by omega, _, by rw [hput_ne hdm]; exact hD, by rw [hput_ne hcm]; exact hC, hput_same .., kp.same, fun i hi => ?_⟩ (by omega) ⟨rfl, rfl, rfl, rfl, rfl, rfl, rfl, congrArg (Value.int .i64) (wsucc (by omega)), trivial⟩
            unfold updB
            by_cases e : i = 320 * x + 64 * y + z
            · subst e
              rw [if_pos rfl, if_pos (by omega), hI _ (by omega), if_neg (by omega), hDI z hz5]
              unfold thetaB
              rw [show (320 * x + 64 * y + z) / 320 = x by omega, show (320 * x + 64 * y + z) % 64 = z by omega]
              rfl
            · rw [if_neg e, hI i hi]
              by_cases q : i < 320 * x + 64 * y + z
              · rw [if_pos q, if_pos (by omega)]
              · rw [if_neg q, if_neg (by omega)]
          · have : z = 64 := by omega
            subst this
            exact ih2 (y + 1) _ _ ⟨by omega, A, hD, hC, hA, kp, fun i hi => by rw [hI i hi]; congr 1⟩ (by omega) ⟨rfl, rfl, rfl, rfl, rfl, congrArg (Value.int .i64) (wsucc (by omega)), trivial⟩
        · have : y = 5 := by omega
          subst this
          exact ih (x + 1) _ _ ⟨by omega, A, hC, hA, kp, fun i hi => by rw [hI i hi]; congr 1⟩ (by omega) ⟨rfl, rfl, congrArg (Value.int .i64) (wsucc (by omega)), trivial⟩
    · have : x = 5 := by omega
      subst this
      rw [fnb_ext (g' := A) fun i hi => by rw [hI i hi, if_pos (by omega)]] at hk
      exact RetX.drop (kp.ret hA) hk
end
end Go.Proofs.YgvalwGreat.X
