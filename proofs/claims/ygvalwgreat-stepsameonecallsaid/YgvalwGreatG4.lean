import Derived.Test.YgvalwGreatG3
set_option linter.unusedVariables false
set_option linter.unusedSimpArgs false
namespace Go.Proofs.YgvalwGreat.X
open Go

def roundB (i : Nat) (g : Nat → Bool) : Nat → Bool := iotaB (constN i) (chiB (piB (rhoB (thetaB g))))
def permB : Nat → (Nat → Bool) → (Nat → Bool)
  | 0, g => g
  | n + 1, g => roundB n (permB n g)
def layB (s : Nat → Bool) : Nat → Bool := fun j => s (64 * (5 * (j / 64 % 5) + j / 320) + j % 64)
def kF (s : Nat → Bool) : Nat → Bool := fun i => permB 24 (layB s) (320 * (i / 64 % 5) + 64 * (i / 320) + i % 64)
theorem d320 (i : Nat) : i / 320 = i / 64 / 5 := by rw [Nat.div_div_eq_div_mul]
theorem lay_ix {j : Nat} (hj : j < 1600) : 320 * ((64 * (5 * (j / 64 % 5) + j / 320) + j % 64) / 64 % 5) + 64 * ((64 * (5 * (j / 64 % 5) + j / 320) + j % 64) / 320) + (64 * (5 * (j / 64 % 5) + j / 320) + j % 64) % 64 = j := by
  have h1 := d320 j
  have e1 : (64 * (5 * (j / 64 % 5) + j / 320) + j % 64) / 64 = 5 * (j / 64 % 5) + j / 320 := by omega
  have e2 : (64 * (5 * (j / 64 % 5) + j / 320) + j % 64) % 64 = j % 64 := by omega
  rw [d320 (64 * (5 * (j / 64 % 5) + j / 320) + j % 64), e1, e2]
  omega
theorem lay_lt {j : Nat} (hj : j < 1600) : 64 * (5 * (j / 64 % 5) + j / 320) + j % 64 < 1600 := by
  have h1 := d320 j
  omega
theorem lay_inj {i n : Nat} (hi : i < 1600) (hn : n < 1600) (h : 320 * (i / 64 % 5) + 64 * (i / 320) + i % 64 = 320 * (n / 64 % 5) + 64 * (n / 320) + n % 64) : i = n := by
  have h1 := d320 i
  have h2 := d320 n
  have a1 : i / 320 < 5 := by omega
  have a2 : n / 320 < 5 := by omega
  omega
theorem td64 (a : Nat) : Int.tdiv (a : Int) 64 = ((a / 64 : Nat) : Int) := tdivN a 64
theorem td320 (a : Nat) : Int.tdiv (a : Int) 320 = ((a / 320 : Nat) : Int) := tdivN a 320
theorem wrapI {a : Nat} (h : a < 2 ^ 41) : IntKind.i64.wrap (a : Int) = (a : Int) := wrap_i64 (by omega) (by omega)
section
variable {h : Hp} {K : Value → Hp → Prop}
set_option maxRecDepth 100000 in
set_option maxHeartbeats 4000000 in
theorem kF_ok {m : Nat} {g : Nat → Bool} {t : TypeId} (hb : h m = some (fnb 1600 g, t)) (hk : K (.tuple #[]) (hput h m (fnb 1600 (kF g), t))) : CallX Hval.prog 233 [.pointer (some ⟨m, 0, none⟩)] h K := by
  refine CallX.of_xf T_ok Hval.func233 rfl (by kernel_rfl) (Nat.le_of_ble_eq_true rfl) ?_; conv => whnf
  repeat (first | (refine CondX.tt ?_; conv => whnf) | (refine CondX.ff ?_; conv => whnf))
  refine BoxX.ext fun c hc ec => ?_; conv => whnf
  have hc0 : h c = Option.none := hc.at
  have hcm : c ≠ m := fun e => by rw [e, hb] at hc0; cases hc0
  refine LoopX.st T_ok Hval.func233 (σ := Nat) (fun s => [(0, .pointer (some ⟨m, 0, none⟩)), (11, .pointer (some ⟨m, 0, none⟩)), (2, .pointer (some ⟨c, 0, none⟩)), (12, .int .i64 s)])
    (fun s h' => s ≤ 1600 ∧ ∃ A, h' c = some (fnb 1600 A, 370) ∧ Ext h h' ∧ ∀ i, i < s → A (320 * (i / 64 % 5) + 64 * (i / 320) + i % 64) = g i) (fun s => 1600 - s) 0 ⟨rfl, rfl, rfl, rfl, trivial⟩ ⟨by omega, fun _ => false, by rw [hput_same]; exact congrArg (fun z => some (z, 370)) z370_fn, ec, fun i hi => by omega⟩ ?_
  rintro n ρ h' ⟨hn, A, hA, e1, hI⟩ ih
  conv => whnf
  refine CondX.decI (fun hc => ?_) (fun hc => ?_) <;> conv => whnf
  · have hn5 : n < 1600 := by omega
    refine DrawX.go T_ok hM Hval.func233 (tb := dr233) rfl (by kernel_rfl) ?_; conv => whnf
    repeat (refine Ob.mk (by first | decide | omega) ?_; conv => whnf)
    refine LoadX.fb (e1 _ _ hb) n (by (try simp only [sz367, sz368, sz4]); omega) (by omega) ?_; conv => whnf
    repeat (refine Ob.mk (by first | decide | omega) ?_; conv => whnf)
    rw [td64, wrapI (show n / 64 < 2 ^ 41 by omega)]
    repeat (refine Ob.mk (by first | decide | omega) ?_; conv => whnf)
    rw [tm5]
    repeat (refine Ob.mk (by first | decide | omega) ?_; conv => whnf)
    rw [td320, wrapI (show n / 320 < 2 ^ 41 by omega)]
    repeat (refine Ob.mk (by first | decide | omega) ?_; conv => whnf)
    rw [tm64]
    repeat (refine Ob.mk (by first | decide | omega) ?_; conv => whnf)
    refine StoreX.fb hA (320 * (n / 64 % 5) + 64 * (n / 320) + n % 64) (by (try simp only [sz367, sz368, sz4]); omega) (by omega) ?_; conv => whnf
    refine ih (n + 1) _ _ ⟨by omega, _, hput_same .., Ext.keep e1 hc0, fun i hi => ?_⟩ (by omega) ⟨rfl, rfl, rfl, congrArg (Value.int .i64) (wsucc (by omega)), trivial⟩
    unfold updB
    by_cases e : i = n
    · subst e; rw [if_pos rfl]
    · rw [if_neg (fun q => e (lay_inj (by omega) hn5 q))]; exact hI i (by omega)
  · have : n = 1600 := by omega
    subst this
    have hA1 : fnb 1600 A = fnb 1600 (layB g) := fnb_ext fun j hj => by
      have := hI (64 * (5 * (j / 64 % 5) + j / 320) + j % 64) (lay_lt hj)
      rw [lay_ix hj] at this
      exact this
    rw [hA1] at hA
    clear ih hI
    refine LoopX.st T_ok Hval.func233 (σ := Nat) (fun s => [(0, .pointer (some ⟨m, 0, none⟩)), (2, .pointer (some ⟨c, 0, none⟩)), (5, .int .u8 s)])
      (fun s h' => s ≤ 24 ∧ h' c = some (fnb 1600 (permB s (layB g)), 370) ∧ Ext h h') (fun s => 24 - s) 0 ⟨rfl, rfl, rfl, trivial⟩ ⟨by omega, hA, e1⟩ ?_
    clear hA e1 hA1 A h'
    rintro n ρ h' ⟨hn, hA, e1⟩ ih
    conv => whnf
    refine CondX.decI (fun hc => ?_) (fun hc => ?_) <;> conv => whnf
    · have hn5 : n < 24 := by omega
      refine theta_ok hA ?_; conv => whnf
      have hA := hput_same (h := h') (b := c) (x := (fnb 1600 (thetaB (permB n (layB g))), 370))
      have e2 := Ext.keep (x := (fnb 1600 (thetaB (permB n (layB g))), 370)) e1 hc0
      generalize hput h' c (fnb 1600 (thetaB (permB n (layB g))), 370) = h2 at hA e2 ⊢
      refine rho_ok hA ?_; conv => whnf
      refine BoxX.ext fun c6 hc6 e6 => ?_; conv => whnf
      refine Ob.mk obA ?_; conv => whnf
      refine StoreX.at (hput_same ..) (by rw [List.toList_toArray, fnb_len]; exact Nat.le_of_ble_eq_true rfl) ?_; conv => whnf
      rw [List.toList_toArray, setSeg_all (by rw [fnb_len]; rfl), hput_hput]
      have hc60 := hc6.at
      have hA6 := hput_same (h := h2) (b := c6) (x := (fnb 1600 (rhoB (thetaB (permB n (layB g)))), 370))
      have e7 := Ext.new (x := (fnb 1600 (rhoB (thetaB (permB n (layB g)))), 370)) hc60
      generalize hput h2 c6 (fnb 1600 (rhoB (thetaB (permB n (layB g)))), 370) = h3 at hA6 e7 ⊢
      refine pi_ok hA6 ?_; conv => whnf
      refine BoxX.ext fun c8 hc8 e8 => ?_; conv => whnf
      refine Ob.mk obA ?_; conv => whnf
      refine StoreX.at (hput_same ..) (by rw [List.toList_toArray, fnb_len]; exact Nat.le_of_ble_eq_true rfl) ?_; conv => whnf
      rw [List.toList_toArray, setSeg_all (by rw [fnb_len]; rfl), hput_hput]
      have hA8 := hput_same (h := h3) (b := c8) (x := (fnb 1600 (piB (rhoB (thetaB (permB n (layB g))))), 370))
      have e9 := Ext.new (x := (fnb 1600 (piB (rhoB (thetaB (permB n (layB g))))), 370)) hc8.at
      generalize hput h3 c8 (fnb 1600 (piB (rhoB (thetaB (permB n (layB g))))), 370) = h4 at hA8 e9 ⊢
      refine chi_ok hA8 ?_; conv => whnf
      refine Ob.mk obA ?_; conv => whnf
      refine StoreX.at (e9 _ _ (e7 _ _ hA)) (by rw [List.toList_toArray, fnb_len, fnb_len]; exact Nat.le_of_ble_eq_true rfl) ?_; conv => whnf
      rw [List.toList_toArray, setSeg_all (by rw [fnb_len, fnb_len])]
      refine iota_ok hn5 (hput_same ..) ?_; conv => whnf
      rw [hput_hput]
      refine ih (n + 1) _ _ ⟨by omega, hput_same .., Ext.keep ((e2.trans e7).trans e9) hc0⟩ (by omega) ⟨rfl, rfl, ?_, trivial⟩
      exact congrArg (Value.int .u8) (by rw [wrap_u8]; omega)
    · have : n = 24 := by omega
      subst this
      clear ih
      refine LoopX.st T_ok Hval.func233 (σ := Nat) (fun s => [(0, .pointer (some ⟨m, 0, none⟩)), (2, .pointer (some ⟨c, 0, none⟩)), (40, .int .i64 s)])
        (fun s h' => s ≤ 1600 ∧ ∃ A, h' c = some (fnb 1600 (permB 24 (layB g)), 370) ∧ h' m = some (fnb 1600 A, t) ∧ Kp m h h' ∧ ∀ i, i < s → A i = kF g i) (fun s => 1600 - s) 0 ⟨rfl, rfl, rfl, trivial⟩ ⟨by omega, g, hA, e1 _ _ hb, fun b x _ hb => e1 b x hb, fun i hi => by omega⟩ ?_
      clear hA e1 h'
      rintro n ρ h' ⟨hn, A, hA, hB, kp, hI⟩ ih
      conv => whnf
      refine CondX.decI (fun hc => ?_) (fun hc => ?_) <;> conv => whnf
      · have hn5 : n < 1600 := by omega
        refine DrawX.go T_ok hM Hval.func233 (tb := dr233) rfl (by kernel_rfl) ?_; conv => whnf
        repeat (refine Ob.mk (by first | decide | omega) ?_; conv => whnf)
        rw [td64, wrapI (show n / 64 < 2 ^ 41 by omega)]
        repeat (refine Ob.mk (by first | decide | omega) ?_; conv => whnf)
        rw [tm5]
        repeat (refine Ob.mk (by first | decide | omega) ?_; conv => whnf)
        rw [td320, wrapI (show n / 320 < 2 ^ 41 by omega)]
        repeat (refine Ob.mk (by first | decide | omega) ?_; conv => whnf)
        rw [tm64]
        repeat (refine Ob.mk (by first | decide | omega) ?_; conv => whnf)
        refine LoadX.fb hA (320 * (n / 64 % 5) + 64 * (n / 320) + n % 64) (by (try simp only [sz367, sz368, sz4]); omega) (by omega) ?_; conv => whnf
        repeat (refine Ob.mk (by first | decide | omega) ?_; conv => whnf)
        refine StoreX.fb hB n (by (try simp only [sz367, sz368, sz4]); omega) (by omega) ?_; conv => whnf
        refine ih (n + 1) _ _ ⟨by omega, _, by rw [hput_ne hcm]; exact hA, hput_same .., kp.same, fun i hi => ?_⟩ (by omega) ⟨rfl, rfl, congrArg (Value.int .i64) (wsucc (by omega)), trivial⟩
        unfold updB
        by_cases e : i = n
        · subst e; rw [if_pos rfl]; rfl
        · rw [if_neg e]; exact hI i (by omega)
      · have : n = 1600 := by omega
        subst this
        rw [show fnb 1600 (kF g) = fnb 1600 A from fnb_ext fun j hj => (hI j hj).symm] at hk
        exact RetX.drop (kp.ret hB) hk
end
end Go.Proofs.YgvalwGreat.X
