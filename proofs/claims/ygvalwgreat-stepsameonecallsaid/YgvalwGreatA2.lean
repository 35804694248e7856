import Derived.Test.YgvalwGreatA1
set_option linter.unusedVariables false
set_option linter.unusedSimpArgs false
namespace Go.Proofs.YgvalwGreat.X
open Go

section
variable {S S' B : Int} {w w' : AW} {base : List AF} {f g : AF} {a : AS} {st o : Int} {l orig : List Int} {A : Nat → Int}
theorem growI_len {m : List Int} (hm : m.length % 32 = 0) (n : Nat) : (growI m n).length % 32 = 0 ∧ ((growI m n).length / 32 : Nat) = max n (m.length / 32) := by
  unfold growI
  split
  · rw [List.length_append, List.length_replicate]; omega
  · omega
/-- The gas is paid and the memory grown. -/
theorem AI.pay {c b : Int} {n : Nat} (h : AI 0 w base f) (hc : c ≤ f.gas) (hb : 0 ≤ b) (hn : memCost (max n (f.mem.length / 32) : Nat) - mcF f + b ≤ c) : AI b w base { f with gas := f.gas - c, mem := growI f.mem n } := by
  have hg := growI_len h.tf.mod n
  have e : mcF { f with gas := f.gas - c, mem := growI f.mem n } = memCost (max n (f.mem.length / 32) : Nat) := by
    show memCost (((growI f.mem n).length / 32 : Nat) : Int) = _
    rw [hg.2]
  have hmono : mcF f ≤ memCost (max n (f.mem.length / 32) : Nat) := memCost_mono (by omega) (by omega)
  have hs : 1048576 - gsum (base ++ [f]) - 0 ≤ 1048576 - gsum (base ++ [{ f with gas := f.gas - c, mem := growI f.mem n }]) - b := by
    rw [gsum_app, gsum_app]; dsimp only; omega
  exact h.top (by rw [e]; dsimp only; omega) (by dsimp only; omega) (h.w.mono hs) (h.tf.pay hg.1 (by omega) hs) h.pc
theorem endI_nn {x y : Int} (hx : 0 ≤ x) (hy : 0 ≤ y) : 0 ≤ endI x y := by unfold endI; split <;> omega
theorem reachI_nn (hA : ∀ i, 0 ≤ A i) : 0 ≤ reachI o A := by
  unfold reachI
  repeat' split
  all_goals first
    | exact endI_nn (hA _) (hA _)
    | exact endI_nn (hA _) (by omega)
    | exact Int.le_trans (endI_nn (hA _) (hA _)) (Int.le_max_left _ _)
    | exact Int.le_refl 0
theorem accA_100 : 100 ≤ accA w l := accA_bd w l
theorem adr_ne : ∀ a : List Int, (w.acct a).code ≠ [] → WG S w → a ≠ sndA := fun a h hw he => h (he ▸ hw.snd.1)
theorem opI_pc (h : opI l st ≠ 0) : st < l.length ∧ l ≠ [] := by
  unfold opI at h
  by_cases h1 : st < l.length
  · exact ⟨h1, fun h2 => by subst h2; rw [if_pos h1] at h; simp at h⟩
  · rw [if_neg h1] at h; exact absurd rfl h
/-- The top frame turns by pc, stack, and memory of the same length. -/
theorem AI.turn {pc' : Int} {s' mem' : List Int} (h : AI B w base f) (hw : WG (1048576 - gsum (base ++ [f])) w') (hB : 0 ≤ B) (hm : mem'.length = f.mem.length) (hpc : pc' ≤ 545) : AI 0 w' base { f with st := s', pc := pc', mem := mem' } := by
  have hs : gsum (base ++ [{ f with st := s', pc := pc', mem := mem' }]) = gsum (base ++ [f]) := by rw [gsum_app, gsum_app]
  have hmc : mcF { f with st := s', pc := pc', mem := mem' } = mcF f := by unfold mcF; dsimp only; rw [hm]
  have F := h.tf
  refine h.top (by rw [hmc]; dsimp only; omega) (by dsimp only; omega) (hw.mono (by rw [hs]; omega)) ?_ hpc
  exact ⟨F.saved.mono (by rw [hs]; omega), F.val, F.own, F.cl, by dsimp only; rw [hm]; exact F.mod, F.gas⟩
theorem sstore_ref (x y : Int) (b : Bool) : 0 ≤ sstoreP x y ∧ sstoreP x y ≤ 199 * sstoreC x y b := by
  unfold sstoreP sstoreC
  split
  · rename_i h
    rw [if_pos (Or.inr h.2.1)]
    split <;> omega
  · split <;> split <;> omega
theorem WG.eff (h : WG S w) (h1 : bareA w l o A ≤ B) (h0 : 0 ≤ B) (hown : l ≠ sndA) {A' : Nat → Int} (hA : o = 85 → A' 0 = A 0 ∧ A' 1 = A 1) (ha : 0 ≤ A 1) : WG (S + B) (effW w l o A') := by
  have hm := h.mono (show S ≤ S + B by omega)
  unfold effW
  split
  · exact hm.of rfl rfl rfl
  · split
    · rename_i h2
      subst h2
      obtain ⟨e0, e1⟩ := hA rfl
      have hb : bareA w l 85 A = sstoreC ((w.acct l).slot (A 0)) (A 1) (!w.warmS l (A 0)) := rfl
      rw [hb] at h1
      have hr := sstore_ref ((w.acct l).slot (A 0)) (A 1) (!w.warmS l (A 0))
      have h3 := h.ref
      have key : ∀ x, ((storesW w l (A' 0) (A' 1)).acct x).code = (w.acct x).code ∧ ((storesW w l (A' 0) (A' 1)).acct x).bal = (w.acct x).bal ∧ ((storesW w l (A' 0) (A' 1)).acct x).nonce = (w.acct x).nonce := fun x => by
        show ((updA w.acct l _ x).code) = _ ∧ _ ∧ _
        show (updA w.acct l _ x).code = _ ∧ (updA w.acct l _ x).bal = _ ∧ (updA w.acct l _ x).nonce = _
        unfold updA
        split
        · rename_i hx; subst hx; exact ⟨rfl, rfl, rfl⟩
        · exact ⟨rfl, rfl, rfl⟩
      refine ⟨?_, hm.logs, fun x => by rw [(key x).1]; exact h.cl x, fun x hx => by rw [(key x).2.1]; exact h.bal x hx, by rw [(key _).1, (key _).2.2]; exact h.snd, fun x => by rw [(key x).2.2]; exact hm.non x⟩
      show 0 ≤ w.ref + sstoreP ((w.acct l).slot (A' 0)) (A' 1) ∧ w.ref + sstoreP ((w.acct l).slot (A' 0)) (A' 1) ≤ _
      rw [e0, e1]
      omega
    · split
      · exact hm.of rfl rfl rfl
      · split
        · rename_i h2
          have hb : 375 ≤ bareA w l o A := by
            unfold bareA
            iterate 12 rw [if_neg (by omega)]
            rw [if_pos h2]
            omega
          refine ⟨hm.ref, ?_, hm.cl, hm.bal, hm.snd, hm.non⟩
          show 375 * ((w.nlogs + 1 : Nat) : Int) ≤ _
          have := h.logs
          omega
        · exact hm
theorem effM_len {ret : List Int} (hA : ∀ i, 0 ≤ A i) : (effM w f ret o A).length = f.mem.length := by
  have hc : ∀ d src off n, 0 ≤ d → (cpM f.mem d src off n).length = f.mem.length := fun d src off n hd => by
    unfold cpM; split
    · rfl
    · exact writeI_length hd
  unfold effM
  repeat' split
  all_goals first | exact hc _ _ _ _ (hA _) | exact writeI_length (hA _) | rfl
theorem AI.plain (h : AI B a.w base f) (hB : 0 ≤ B) (hb : bareA a.w f.self o A ≤ B) (hA : ∀ i, 0 ≤ A i) (eA : A = argA f.st) (ho : opI f.code f.pc = o) (ho0 : o ≠ 0) (ho1 : 0 ≤ o) (hj : o = 86 ∨ (o = 87 ∧ A 1 ≠ 0) → isDestI f.code (A 0) = true) (h85 : (arI 85).1 = 2) : AIs (plainA a base f orig o) := by
  have F := h.tf
  obtain ⟨hp1, hne⟩ := opI_pc (ho ▸ ho0)
  have him := immI_bd ho1
  have hcl := F.cl
  have hw : WG (1048576 - gsum (base ++ [f])) a.w := h.w.mono (by omega)
  have hown := F.own (Or.inl hne)
  unfold plainA
  dsimp only
  split
  · rename_i h1
    refine Or.inr ⟨base, _, rfl, h.turn hw hB rfl ?_⟩
    have : opA f o 0 = A 0 := by
      have : (arI o).1.toNat = 1 ∨ (arI o).1.toNat = 2 := by rcases h1 with h1 | h1; (subst h1; exact Or.inl rfl); (rw [h1.1]; exact Or.inr rfl)
      unfold opA; rw [if_pos (by omega), eA]
    have hd := isDest_lt (hj (by
      rcases h1 with h1 | h1
      · exact Or.inl h1
      · refine Or.inr ⟨h1.1, ?_⟩
        have h2 := h1.2
        unfold opA at h2
        rw [h1.1, if_pos (by decide)] at h2
        rw [eA]; exact h2))
    rw [this]; omega
  · split
    · exact Or.inr ⟨base, _, rfl, h.turn hw hB rfl (by omega)⟩
    · split
      · exact Or.inr ⟨base, _, rfl, h.turn hw hB rfl (by omega)⟩
      · split
        · refine Or.inr ⟨base, _, rfl, h.turn ?_ hB rfl (by omega)⟩
          show WG _ (valW a.w f.self o (opA f o))
          unfold valW
          split
          · exact hw.of rfl rfl rfl
          · split
            · exact hw.of rfl rfl rfl
            · exact hw
        · refine Or.inr ⟨base, _, rfl, h.turn ?_ hB (effM_len fun i => ?_) (by omega)⟩
          · have := h.w.eff (A' := opA f o) hb hB hown (fun h2 => by subst h2; subst eA; exact ⟨rfl, rfl⟩) (hA 1)
            exact this.mono (by omega)
          · unfold opA; split
            · rw [← eA]; exact hA i
            · exact Int.le_refl 0
end
end Go.Proofs.YgvalwGreat.X
