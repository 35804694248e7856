import Derived.Test.YgvalwGreatM28
set_option linter.unusedVariables false
set_option linter.unusedSimpArgs false
namespace Go.Proofs.YgvalwGreat.X
open Go

/-- The fixed part of the costs. -/
def bareC (o : Int) : Int :=
  if (96 ≤ o ∧ o ≤ 159) ∨ (16 ≤ o ∧ o ≤ 29) ∨ o = 1 ∨ o = 3 ∨ o = 53 ∨ (81 ≤ o ∧ o ≤ 83) then 3
  else if o = 2 ∨ (4 ≤ o ∧ o ≤ 7) ∨ o = 11 ∨ o = 71 then 5
  else if o = 8 ∨ o = 9 ∨ o = 86 then 8
  else if o = 87 then 10 else if o = 91 then 1 else if o = 64 then 20 else if o = 0 ∨ o = 243 ∨ o = 253 then 0
  else if o = 92 ∨ o = 93 then 100 else 2
def dynL : List Int := [10, 32, 49, 55, 57, 59, 60, 62, 63, 84, 85, 94, 160, 161, 162, 163, 164, 240, 241, 242, 244, 245, 250, 255]
def noDyn (o : Int) : Prop := o ≠ 10 ∧ o ≠ 32 ∧ o ≠ 49 ∧ o ≠ 55 ∧ o ≠ 57 ∧ o ≠ 59 ∧ o ≠ 60 ∧ o ≠ 62 ∧ o ≠ 63 ∧ o ≠ 84 ∧ o ≠ 85 ∧ o ≠ 94 ∧ o ≠ 160 ∧ o ≠ 161 ∧ o ≠ 162 ∧ o ≠ 163 ∧ o ≠ 164 ∧ o ≠ 240 ∧ o ≠ 241 ∧ o ≠ 242 ∧ o ≠ 244 ∧ o ≠ 245 ∧ o ≠ 250 ∧ o ≠ 255
theorem bareA_no {w : AW} {self : List Int} {o : Int} {A : Nat → Int} (h : noDyn o) : bareA w self o A = bareC o := by
  unfold noDyn at h
  have hf : famI o ≠ 16 := by
    unfold famI
    repeat' split
    all_goals omega
  unfold bareA bareC
  simp only [if_neg (show ¬ o = 10 by omega), if_neg (show ¬ o = 32 by omega), if_neg (show ¬ (o = 55 ∨ o = 57 ∨ o = 62 ∨ o = 94) by omega), if_neg (show ¬ (o = 49 ∨ o = 59 ∨ o = 63) by omega), if_neg (show ¬ o = 60 by omega), if_neg (show ¬ (160 ≤ o ∧ o ≤ 164) by omega), if_neg (show ¬ o = 84 by omega), if_neg (show ¬ o = 85 by omega), if_neg (show ¬ o = 255 by omega), if_neg hf]
theorem row_all : (List.range 256).all (fun n => decide ((rowI n).tk = (arI n).1) && decide ((rowI n).gv = (arI n).2.1) && ((rowI n).kn == (arI n).2.2) && (decide (0 ≤ (rowI n).sg) && decide ((rowI n).sg ≤ 40000)) && (!(rowI n).kn || dynL.any (fun x => decide (x = (n : Int))) || decide ((rowI n).sg = bareC n))) = true := by decide +kernel
theorem rowE {o : Int} (h0 : 0 ≤ o) (h1 : o < 256) : (rowI o).tk = (arI o).1 ∧ (rowI o).gv = (arI o).2.1 ∧ (rowI o).kn = (arI o).2.2 ∧ (0 ≤ (rowI o).sg ∧ (rowI o).sg ≤ 40000) ∧ ((rowI o).kn = true → noDyn o → (rowI o).sg = bareC o) := by
  obtain ⟨n, rfl⟩ : ∃ n : Nat, o = n := ⟨o.toNat, by omega⟩
  have := List.all_eq_true.1 row_all n (List.mem_range.2 (by omega))
  simp only [Bool.and_eq_true, decide_eq_true_eq, beq_iff_eq, Bool.or_eq_true, Bool.not_eq_true'] at this
  obtain ⟨⟨⟨⟨a1, a2⟩, a3⟩, a4⟩, a5⟩ := this
  refine ⟨a1, a2, a3, a4, fun hk hn => ?_⟩
  rcases a5 with (a5 | a5) | a5
  · rw [hk] at a5; cases a5
  · exfalso
    unfold noDyn at hn
    simp only [dynL, List.any_cons, List.any_nil, Bool.or_eq_true, decide_eq_true_eq, Bool.or_false] at a5
    omega
  · exact a5
theorem flat_no {o : Int} {A : Nat → Int} (h : flatB o = true) : noDyn o ∧ reachI o A = 0 := by
  have h := of_decide_eq_true h
  refine ⟨by unfold noDyn; omega, ?_⟩
  unfold reachI
  simp only [if_neg (show ¬ (o = 32 ∨ o = 243 ∨ o = 253 ∨ (160 ≤ o ∧ o ≤ 164)) by omega), if_neg (show ¬ (o = 55 ∨ o = 57 ∨ o = 62) by omega), if_neg (show ¬ o = 60 by omega), if_neg (show ¬ (o = 81 ∨ o = 82) by omega), if_neg (show ¬ o = 83 by omega), if_neg (show ¬ o = 94 by omega), if_neg (show ¬ (o = 240 ∨ o = 245) by omega), if_neg (show ¬ (o = 241 ∨ o = 242) by omega), if_neg (show ¬ (o = 244 ∨ o = 250) by omega)]
section
variable {hi hm h : Hp} {K : Value → Hp → Prop} {v : VS} {eb : Nat} {w : AW} {sn : List AW} {m : MS} {t : Nat} {A : Nat → Nat}
set_option maxRecDepth 100000 in
set_option maxHeartbeats 4000000 in
theorem dynamic_ok {o : Int} (h0 : 0 ≤ o) (h1 : o < 256) (hkn : (rowI o).kn = true) (M : MA hi hm eb m t w sn v) (he : Ext (join hi hm) h) (hA : ∀ i, argM m t i = A i) (hr : reachI o (fun i => (A i : Int)) ≤ 717280)
    (hk : ∀ x, (rowI o).sg + x = bareA w (m.fr t).self o (fun i => (A i : Int)) → 0 ≤ x → x ≤ 10000000 → K (.int .u64 x) h) : CallX Hval.prog 252 [.pointer (some ⟨eb, 0, none⟩), .pointer (some ⟨eb, 1803 + t * 65, none⟩), .int .u8 o] h K := by
  have q : ∀ i, (A i : Int) < W := fun i => hA i ▸ (argM_W M i).2
  have hp : ∀ i, 0 ≤ ((fun i => (A i : Int)) i) := fun i => Int.natCast_nonneg _
  have ac0 := accA_bd2 w (addrI (A 0))
  have ac1 := accA_bd2 w (addrI (A 1))
  have nb := nbI_bd (q 1)
  by_cases g10 : o = 10
  · subst g10
    exact dyn_10 M he hA (hk _ (by simp [bareA, rowI, destroyCA, enterCA, famI]; try omega) (by omega) (by omega))
  by_cases g32 : o = 32
  · subst g32
    have hl : (A 1 : Int) ≤ 717280 := Int.le_trans (reach_1 hp (.inl rfl)) hr
    exact dyn_32 M he hA (by omega) (hk _ (by simp [bareA, rowI, destroyCA, enterCA, famI]; try omega) (by omega) (by omega))
  by_cases g240 : o = 240
  · subst g240
    have hl : (A 2 : Int) ≤ 717280 := Int.le_trans (reach_e hp (by omega)) hr
    exact dyn_240 M he hA (by omega) (hk _ (by simp [bareA, rowI, destroyCA, enterCA, famI]; try omega) (by omega) (by omega))
  by_cases g245 : o = 245
  · subst g245
    have hl : (A 2 : Int) ≤ 717280 := Int.le_trans (reach_e hp (by omega)) hr
    exact dyn_245 M he hA (by omega) (hk _ (by simp [bareA, rowI, destroyCA, enterCA, famI]; try omega) (by omega) (by omega))
  by_cases g55 : o = 55
  · subst g55
    have hl : (A 2 : Int) ≤ 717280 := Int.le_trans (reach_2 hp (by omega)) hr
    exact dyn_55 M he hA (by omega) (hk _ (by simp [bareA, rowI, destroyCA, enterCA, famI]; try omega) (by omega) (by omega))
  by_cases g57 : o = 57
  · subst g57
    have hl : (A 2 : Int) ≤ 717280 := Int.le_trans (reach_2 hp (by omega)) hr
    exact dyn_57 M he hA (by omega) (hk _ (by simp [bareA, rowI, destroyCA, enterCA, famI]; try omega) (by omega) (by omega))
  by_cases g62 : o = 62
  · subst g62
    have hl : (A 2 : Int) ≤ 717280 := Int.le_trans (reach_2 hp (by omega)) hr
    exact dyn_62 M he hA (by omega) (hk _ (by simp [bareA, rowI, destroyCA, enterCA, famI]; try omega) (by omega) (by omega))
  by_cases g94 : o = 94
  · subst g94
    have hl : (A 2 : Int) ≤ 717280 := Int.le_trans (reach_2 hp (by omega)) hr
    exact dyn_94 M he hA (by omega) (hk _ (by simp [bareA, rowI, destroyCA, enterCA, famI]; try omega) (by omega) (by omega))
  by_cases g49 : o = 49
  · subst g49
    exact dyn_49 M he hA (hk _ (by simp [bareA, rowI, destroyCA, enterCA, famI]; try omega) (by omega) (by omega))
  by_cases g59 : o = 59
  · subst g59
    exact dyn_59 M he hA (hk _ (by simp [bareA, rowI, destroyCA, enterCA, famI]; try omega) (by omega) (by omega))
  by_cases g63 : o = 63
  · subst g63
    exact dyn_63 M he hA (hk _ (by simp [bareA, rowI, destroyCA, enterCA, famI]; try omega) (by omega) (by omega))
  by_cases g244 : o = 244
  · subst g244
    exact dyn_244 M he hA (hk _ (by simp [bareA, rowI, destroyCA, enterCA, famI]; try omega) (by omega) (by omega))
  by_cases g250 : o = 250
  · subst g250
    exact dyn_250 M he hA (hk _ (by simp [bareA, rowI, destroyCA, enterCA, famI]; try omega) (by omega) (by omega))
  by_cases g60 : o = 60
  · subst g60
    have hl : (A 3 : Int) ≤ 717280 := Int.le_trans (reach_3 hp) hr
    exact dyn_60 M he hA (by omega) (hk _ (by simp [bareA, rowI, destroyCA, enterCA, famI]; try omega) (by omega) (by omega))
  by_cases g160 : o = 160
  · subst g160
    have hl : (A 1 : Int) ≤ 717280 := Int.le_trans (reach_1 hp (by omega)) hr
    exact dyn_160 M he hA (by omega) (hk _ (by simp [bareA, rowI, destroyCA, enterCA, famI]; try omega) (by omega) (by omega))
  by_cases g161 : o = 161
  · subst g161
    have hl : (A 1 : Int) ≤ 717280 := Int.le_trans (reach_1 hp (by omega)) hr
    exact dyn_161 M he hA (by omega) (hk _ (by simp [bareA, rowI, destroyCA, enterCA, famI]; try omega) (by omega) (by omega))
  by_cases g162 : o = 162
  · subst g162
    have hl : (A 1 : Int) ≤ 717280 := Int.le_trans (reach_1 hp (by omega)) hr
    exact dyn_162 M he hA (by omega) (hk _ (by simp [bareA, rowI, destroyCA, enterCA, famI]; try omega) (by omega) (by omega))
  by_cases g163 : o = 163
  · subst g163
    have hl : (A 1 : Int) ≤ 717280 := Int.le_trans (reach_1 hp (by omega)) hr
    exact dyn_163 M he hA (by omega) (hk _ (by simp [bareA, rowI, destroyCA, enterCA, famI]; try omega) (by omega) (by omega))
  by_cases g164 : o = 164
  · subst g164
    have hl : (A 1 : Int) ≤ 717280 := Int.le_trans (reach_1 hp (by omega)) hr
    exact dyn_164 M he hA (by omega) (hk _ (by simp [bareA, rowI, destroyCA, enterCA, famI]; try omega) (by omega) (by omega))
  by_cases g84 : o = 84
  · subst g84
    exact dyn_84 M he hA (hk _ (by simp [bareA, rowI, destroyCA, enterCA, famI]; try omega) (by split <;> omega) (by split <;> omega))
  by_cases g85 : o = 85
  · subst g85
    exact dyn_85 M he hA (hk _ (by simp [bareA, rowI, destroyCA, enterCA, famI]; try omega) (by unfold sstoreC; split <;> split <;> omega) (by unfold sstoreC; split <;> split <;> omega))
  by_cases g255 : o = 255
  · subst g255
    refine dyn_255 M he hA (hk _ ?_ ?_ ?_)
    · show (5000 : Int) + (_ + _) = 5000 + _ + _; exact (Int.add_assoc ..).symm
    · repeat' split
      all_goals omega
    · repeat' split
      all_goals omega
  by_cases g241 : o = 241
  · subst g241
    refine dyn_241 M he hA (hk _ ?_ ?_ ?_)
    · simp [bareA, rowI, enterCA, famI]
    · repeat' split
      all_goals omega
    · repeat' split
      all_goals omega
  by_cases g242 : o = 242
  · subst g242
    refine dyn_242 M he hA (hk _ ?_ ?_ ?_)
    · simp [bareA, rowI, enterCA, famI]
    · repeat' split
      all_goals omega
    · repeat' split
      all_goals omega
  have hn : noDyn o := by unfold noDyn; omega
  have hs := (rowE h0 h1).2.2.2.2 hkn hn
  refine dyn_no hn (hk 0 ?_ (by omega) (by omega))
  rw [bareA_no hn, hs]; omega
end
end Go.Proofs.YgvalwGreat.X
