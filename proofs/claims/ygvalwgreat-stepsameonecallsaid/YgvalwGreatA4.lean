import Derived.Test.YgvalwGreatA3
set_option linter.unusedVariables false
set_option linter.unusedSimpArgs false
namespace Go.Proofs.YgvalwGreat.X
open Go

def muL (l : List AF) : Nat := (8 * gsum l).toNat + l.length
section
variable {S B : Int} {w : AW} {base : List AF} {f g e : AF} {a : AS} {st o : Int} {l orig : List Int} {A : Nat → Int}
theorem mu_top (hg : 0 ≤ gsum base + g.gas) (hlt : g.gas < f.gas) : muL (base ++ [g]) < muL (base ++ [f]) := by
  unfold muL
  rw [gsum_app, gsum_app, List.length_append, List.length_append, List.length_singleton, List.length_singleton]
  omega
theorem mu_two (hg : 0 ≤ gsum base + g.gas + e.gas) (hlt : g.gas + e.gas < f.gas) : muL (base ++ [g] ++ [e]) < muL (base ++ [f]) := by
  unfold muL
  rw [gsum_app, gsum_app, gsum_app]
  simp only [List.length_append, List.length_singleton]
  omega
theorem gsum_nn {l : List AF} (h : ∀ q ∈ l, 0 ≤ q.gas) : 0 ≤ gsum l := by
  induction l with
  | nil => exact Int.le_refl 0
  | cons x l ih =>
    have h1 := h x (List.mem_cons_self ..)
    have h2 := ih fun q hq => h q (List.mem_cons_of_mem _ hq)
    show 0 ≤ x.gas + gsum l
    omega
theorem AI.base_nn (h : AI B w base f) : 0 ≤ gsum base := gsum_nn fun q hq => (h.bf hq).gas
theorem mu_leave (h : AI 0 a.w base f) : muL (leaveA a base f st l).frs < muL (base ++ [f]) := by
  have hg := lvGA_bd (st := st) (l := l) h.tf.gas
  have hn := h.base_nn
  rcases List.eq_nil_or_concat base with rfl | ⟨b, p, rfl⟩
  · show muL [] < _
    unfold muL
    simp [gsum]
  · rw [List.concat_eq_append] at h hn
    rw [List.concat_eq_append, leave_up]
    rw [gsum_app] at hn
    show muL (b ++ [upA p f st l]) < _
    unfold muL
    rw [gsum_app, gsum_app, gsum_app]
    simp only [List.length_append, List.length_singleton]
    show (8 * (gsum b + (p.gas + lvGA f st l))).toNat + _ < _
    omega
theorem bareA_pos {w : AW} {self : List Int} (hA : ∀ i, 0 ≤ A i) (h0 : o ≠ 0) (h1 : o ≠ 243) (h2 : o ≠ 253) : 1 ≤ bareA w self o A := by
  have q : ∀ i, 0 ≤ (A i + 31) / 32 := fun i => by have := hA i; omega
  have ha : ∀ x, 100 ≤ accA w x := fun x => accA_bd w x
  have a0 := hA 0
  have a1 := hA 1
  have a2 := hA 2
  have q1 := q 1
  have q2 := q 2
  have q3 := q 3
  have b2 := enterCA_bd (w := w) (o := o) hA
  have b3 := sstoreC_bd ((w.acct self).slot (A 0)) (A 1) (!w.warmS self (A 0))
  have b4 := nbI_nonneg (A 1)
  have b5 : 100 ≤ enterCA w o A := by
    have := ha (addrI (A 1))
    unfold enterCA
    repeat (first | omega | split)
  have b6 : 100 ≤ sstoreC ((w.acct self).slot (A 0)) (A 1) (!w.warmS self (A 0)) := by
    unfold sstoreC
    repeat (first | omega | split)
  have b1 := ha (addrI (A 0))
  unfold bareA
  by_cases h : 160 ≤ o ∧ o ≤ 164
  · rw [if_pos h]
    repeat (first | omega | split)
  · rw [if_neg h]
    unfold destroyCA
    repeat (first | omega | split)
theorem mu_plain (hg : 0 ≤ gsum base + f.gas) (hlt : f.gas < g.gas) : muL (plainA a base f orig o).frs < muL (base ++ [g]) := by
  unfold plainA
  dsimp only
  repeat' split
  all_goals exact mu_top hg hlt
theorem mu_call {c : Int} (hb : 0 ≤ gsum base) (hf : 0 ≤ f.gas) (hA : ∀ i, 0 ≤ argA f.st i) (hc : bareA a.w f.self o (argA f.st) ≤ c) (hg : g.gas = f.gas + c) (hoc : o = 241 ∨ o = 242 ∨ o = 244 ∨ o = 250) : muL (callA a base f o).frs < muL (base ++ [g]) := by
  have a0 := hA 0
  have h2 := accA_bd a.w (addrI (argA f.st 1))
  have h3 : bareA a.w f.self o (argA f.st) = enterCA a.w o (argA f.st) := by
    rcases hoc with h1 | h1 | h1 | h1 <;> (subst h1; rfl)
  have hcost : (if (if o = 241 ∨ o = 242 then argA f.st 2 else 0) = 0 then (0 : Int) else 2300) + 100 ≤ c := by
    have h4 : (if (if o = 241 ∨ o = 242 then argA f.st 2 else 0) = 0 then (0 : Int) else 2300) + 100 ≤ enterCA a.w o (argA f.st) := by
      have e1 : enterCA a.w o (argA f.st) = accA a.w (addrI (argA f.st 1)) + (if (o = 241 ∨ o = 242) ∧ argA f.st 2 ≠ 0 then 9000 + (if o = 241 ∧ emptyAA (a.w.acct (addrI (argA f.st 1))) = true then 25000 else 0) else 0) := by
        unfold enterCA
        rw [if_neg (by omega), if_neg (by omega)]
      rw [e1]
      by_cases h1 : o = 241 ∨ o = 242
      · by_cases hv : argA f.st 2 = 0
        · rw [if_pos h1, if_pos hv, if_neg (fun h => h.2 hv)]; omega
        · rw [if_pos h1, if_neg hv, if_pos ⟨h1, hv⟩]
          split <;> omega
      · rw [if_neg h1, if_pos rfl, if_neg (fun h => h1 h.1)]; omega
    omega
  unfold callA
  dsimp only
  generalize (if o = 241 ∨ o = 242 then argA f.st 2 else 0) = vv at *
  have hs0 : 0 ≤ (if vv = 0 then (0 : Int) else 2300) := by split <;> omega
  generalize (if vv = 0 then (0 : Int) else 2300) = sti at *
  have hsent : 0 ≤ min (argA f.st 0) (f.gas - f.gas / 64) ∧ min (argA f.st 0) (f.gas - f.gas / 64) ≤ f.gas := by omega
  generalize min (argA f.st 0) (f.gas - f.gas / 64) = sent at *
  split
  · exact mu_top (by dsimp only; omega) (by dsimp only; omega)
  · unfold enterA
    dsimp only
    refine mu_two ?_ ?_ <;> (dsimp only; omega)
theorem mu_create {c : Int} (hb : 0 ≤ gsum base) (hf : 0 ≤ f.gas) (hc : 1 ≤ c) (hg : g.gas = f.gas + c) : muL (createA a base f o).frs < muL (base ++ [g]) := by
  have hsent : 0 ≤ min f.gas (f.gas - f.gas / 64) ∧ min f.gas (f.gas - f.gas / 64) ≤ f.gas := by omega
  unfold createA
  dsimp only
  generalize min f.gas (f.gas - f.gas / 64) = sent at *
  split
  · refine mu_top ?_ ?_ <;> (try dsimp only) <;> omega
  · generalize (if o = 245 then create2I f.self (argA f.st 3) (cutN f.mem (argA f.st 1).toNat (argA f.st 2).toNat) else createI f.self (a.w.acct f.self).nonce) = self'
    split
    · refine mu_top ?_ ?_ <;> (try dsimp only) <;> omega
    · unfold enterA
      dsimp only
      refine mu_two ?_ ?_ <;> (try dsimp only) <;> omega
/-- EACH STEP LOWERS THE MEASURE. -/
theorem mu_step (h : AI 0 a.w base f) (hB : isB f.code) (hA : ∀ i, 0 ≤ argA f.st i) : muL (stepF a base f orig).frs < muL (base ++ [f]) := by
  have hb := h.base_nn
  unfold stepF
  split
  · unfold natvA
    cases hc : natCost f.natv f.input with
    | none => exact mu_leave h
    | some y =>
      have hy := natCost_nonneg hc
      dsimp only
      split
      · exact mu_leave h
      · have F := h.tf
        have hs : 1048576 - gsum (base ++ [f]) - 0 ≤ 1048576 - gsum (base ++ [{ f with gas := f.gas - y }]) - 0 := by rw [gsum_app, gsum_app]; dsimp only; omega
        have h1 : AI 0 a.w base { f with gas := f.gas - y } := h.top (by unfold mcF; dsimp only; omega) (by dsimp only; omega) (h.w.mono hs) ⟨F.saved.mono hs, F.val, F.own, F.cl, F.mod, by dsimp only; omega⟩ h.pc
        have h2 := mu_leave (st := 0) (l := natOut f.natv f.input) h1
        refine Nat.lt_of_lt_of_le h2 ?_
        unfold muL
        rw [gsum_app, gsum_app]
        simp only [List.length_append, List.length_singleton]
        omega
  · dsimp only
    have hob := opI_bd2 (st := f.pc) hB
    generalize ho : opI f.code f.pc = o at *
    split
    · exact mu_leave h
    · rename_i h1
      have h1 := Decidable.not_not.1 h1
      have hr := refA_0 h1
      rw [hr.1]
      have hre : 0 ≤ reachI o (argA f.st) := reachI_nn hA
      have hcb := costA_bare (w := a.w) (self := f.self) (n := f.mem.length / 32) hA hre
      have hbn := bareA_nonneg (w := a.w) (self := f.self) (o := o) hA
      have J := h.pay (c := costA a.w f.self o (argA f.st) (f.mem.length / 32 : Nat)) (b := bareA a.w f.self o (argA f.st)) (n := (needI o (argA f.st)).toNat) hr.2.2.2.2.2.2.1 hbn (by unfold mcF; omega)
      have J0 := J.mono hbn
      have hmono : memCost ((f.mem.length / 32 : Nat) : Int) ≤ memCost (max (needI o (argA f.st)).toNat (f.mem.length / 32) : Nat) := memCost_mono (by omega) (by omega)
      have hcost : bareA a.w f.self o (argA f.st) ≤ costA a.w f.self o (argA f.st) (f.mem.length / 32 : Nat) := by omega
      generalize costA a.w f.self o (argA f.st) (f.mem.length / 32 : Nat) = cc at *
      have hle : muL (base ++ [{ f with gas := f.gas - cc, mem := growI f.mem (needI o (argA f.st)).toNat }]) ≤ muL (base ++ [f]) := by
        unfold muL
        rw [gsum_app, gsum_app]
        simp only [List.length_append, List.length_singleton]
        omega
      have hg0 : 0 ≤ f.gas - cc := by have := hr.2.2.2.2.2.2.1; omega
      split
      · exact Nat.lt_of_lt_of_le (mu_leave (a := { a with frs := _ }) J0) hle
      · rename_i n0
        split
        · exact Nat.lt_of_lt_of_le (mu_leave (a := { a with frs := _ }) J0) hle
        · rename_i n1
          split
          · exact Nat.lt_of_lt_of_le (mu_leave (a := { a with frs := _ }) J0) hle
          · rename_i n2
            have hp := bareA_pos (w := a.w) (self := f.self) hA n0 n1 n2
            split
            · have J1 : AI 0 (goneW (warmW a.w (addrI (argA f.st 0))) f.self) base _ := ⟨J0.n, J0.pot, ?_, J0.fr, J0.wait, J0.pc⟩
              · exact Nat.lt_of_lt_of_le (mu_leave (a := { a with frs := _, w := _ }) J1) hle
              · refine J0.w.of ?_ ?_ ?_ <;> (unfold goneW; split <;> rfl)
            · split
              · rename_i h5 h6
                unfold entersA
                have hso : o = 240 ∨ o = 245 ∨ o = 241 ∨ o = 242 ∨ o = 244 ∨ o = 250 := by
                  unfold famI at h6
                  repeat' split at h6
                  all_goals omega
                split
                · exact mu_create (c := cc) hb hg0 (by omega) (by dsimp only; omega)
                · rename_i h7
                  exact mu_call (c := cc) hb hg0 hA hcost (by dsimp only; omega) (by omega)
              · exact mu_plain (by dsimp only; omega) (by dsimp only; omega)
end
end Go.Proofs.YgvalwGreat.X
