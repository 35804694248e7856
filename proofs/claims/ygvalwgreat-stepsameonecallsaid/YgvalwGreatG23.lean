import Derived.Test.YgvalwGreatG22
set_option linter.unusedVariables false
set_option linter.unusedSimpArgs false
namespace Go.Proofs.YgvalwGreat.X
open Go

theorem memCost_le {x : Int} (h0 : 0 ≤ x) (h : memCost x ≤ 1048576) : x ≤ 22415 := by
  refine Int.not_lt.1 fun hx => ?_
  have h1 : 22416 * 22416 ≤ x * x := Int.mul_le_mul (by omega) (by omega) (by omega) (by omega)
  unfold memCost at h
  generalize x * x = t at *
  omega
theorem memCost_nonneg {x : Int} (h0 : 0 ≤ x) : 0 ≤ memCost x := by
  have h1 : 0 ≤ x * x := Int.mul_nonneg h0 h0
  unfold memCost
  generalize x * x = t at *
  omega
theorem nbI_nonneg (x : Int) : 0 ≤ nbI x := by unfold nbI; omega
theorem accA_bd (w : AW) (a : List Int) : 100 ≤ accA w a := by unfold accA; split <;> omega
theorem sstoreC_bd (v n : Int) (b : Bool) : 100 ≤ sstoreC v n b := by unfold sstoreC; split <;> split <;> omega
theorem enterCA_bd {w : AW} {o : Int} {A : Nat → Int} (hA : ∀ i, 0 ≤ A i) : 100 ≤ enterCA w o A := by
  have := accA_bd w (addrI (A 1)); have := hA 2
  unfold enterCA
  split
  · omega
  · split
    · omega
    · split
      · split <;> omega
      · omega
theorem bareA_nonneg {w : AW} {self : List Int} {o : Int} {A : Nat → Int} (hA : ∀ i, 0 ≤ A i) : 0 ≤ bareA w self o A := by
  have a0 := hA 0; have a1 := hA 1; have a2 := hA 2; have a3 := hA 3
  have b1 := accA_bd w (addrI (A 0))
  have b2 := enterCA_bd (w := w) (o := o) hA
  have b3 := sstoreC_bd ((w.acct self).slot (A 0)) (A 1) (!w.warmS self (A 0))
  have b4 := nbI_nonneg (A 1)
  unfold bareA
  by_cases h : 160 ≤ o ∧ o ≤ 164
  · rw [if_pos h]
    repeat (first | omega | split)
  · rw [if_neg h]
    unfold destroyCA
    repeat (first | omega | split)
theorem needI_ok {w : AW} {self : List Int} {o : Int} {A : Nat → Int} {words gas : Int} (hA : ∀ i, 0 ≤ A i) (hw : 0 ≤ words) (hr : 0 ≤ reachI o A) (hg : gas + memCost words ≤ 1048576) (hc : costA w self o A words ≤ gas) : 0 ≤ needI o A ∧ needI o A ≤ 22415 ∧ memCost (max (needI o A) words) - memCost words ≤ costA w self o A words - bareA w self o A := by
  have h0 : 0 ≤ needI o A := by unfold needI; omega
  have hb := bareA_nonneg (w := w) (self := self) (o := o) hA
  unfold costA at hc ⊢
  by_cases h : needI o A ≤ words
  · rw [if_pos h] at hc ⊢
    have hm : memCost words ≤ 1048576 := by omega
    have := memCost_le hw hm
    refine ⟨h0, by omega, ?_⟩
    rw [Int.max_eq_right h]; omega
  · rw [if_neg h] at hc ⊢
    rw [Int.max_eq_left (by omega)]
    have hl : memCost (needI o A) - memCost words ≤ lessI (memCost (needI o A)) (memCost words) := by unfold lessI; split <;> omega
    exact ⟨h0, memCost_le h0 (by omega), by omega⟩
theorem endI_le {x y : Int} (h0 : 0 ≤ x) : y ≤ endI x y := by unfold endI; split <;> omega
theorem reach_1 {o : Int} {A : Nat → Int} (hA : ∀ i, 0 ≤ A i) (h : o = 32 ∨ o = 243 ∨ o = 253 ∨ (160 ≤ o ∧ o ≤ 164)) : A 1 ≤ reachI o A := by
  unfold reachI; rw [if_pos h]; exact endI_le (hA 0)
theorem reach_2 {o : Int} {A : Nat → Int} (hA : ∀ i, 0 ≤ A i) (h : o = 55 ∨ o = 57 ∨ o = 62 ∨ o = 94) : A 2 ≤ reachI o A := by
  have := endI_le (y := A 2) (hA 0)
  unfold reachI
  rw [if_neg (by omega)]
  split
  · exact this
  · rw [if_neg (by omega), if_neg (by omega), if_neg (by omega), if_pos (by omega)]; omega
theorem reach_3 {A : Nat → Int} (hA : ∀ i, 0 ≤ A i) : A 3 ≤ reachI 60 A := by
  show A 3 ≤ endI (A 1) (A 3); exact endI_le (hA 1)
theorem reach_e {o : Int} {A : Nat → Int} (hA : ∀ i, 0 ≤ A i) (h : o = 240 ∨ o = 245 ∨ o = 241 ∨ o = 242 ∨ o = 244 ∨ o = 250) : A (entI o) ≤ reachI o A := by
  have e1 := endI_le (y := A 2) (hA 1)
  have e2 := endI_le (y := A 4) (hA 3)
  have e3 := endI_le (y := A 3) (hA 2)
  rcases h with rfl | rfl | rfl | rfl | rfl | rfl
  · exact e1
  · exact e1
  · show A 4 ≤ max (endI (A 3) (A 4)) (endI (A 5) (A 6)); omega
  · show A 4 ≤ max (endI (A 3) (A 4)) (endI (A 5) (A 6)); omega
  · show A 3 ≤ max (endI (A 2) (A 3)) (endI (A 4) (A 5)); omega
  · show A 3 ≤ max (endI (A 2) (A 3)) (endI (A 4) (A 5)); omega
/-- What a step asks of the state. -/
structure StepP (w : AW) (base : List AF) (f : AF) : Prop where
  bn : base.length ≤ 6
  gas : f.gas + memCost (f.mem.length / 32 : Nat) ≤ 1048576
  par : ∀ q ∈ base, q.gas ≤ 1048576 ∧ q.st.length < 64 ∧ q.pc < 2 ^ 40 ∧ q.ol < 2 ^ 40
  pc : f.pc < 2 ^ 40
  mod : f.mem.length % 32 = 0
  self : isB f.self
  caller : isB f.caller
  val : f.val = 0
  bal : f.code ≠ [] → (w.acct f.self).bal = 0
  ref : w.ref < 2 ^ 60
end Go.Proofs.YgvalwGreat.X
