import Derived.Test.YgvalwGreatA2
set_option linter.unusedVariables false
set_option linter.unusedSimpArgs false
namespace Go.Proofs.YgvalwGreat.X
open Go

section
variable {S S' B : Int} {w w' : AW} {base : List AF} {f g : AF} {a : AS} {st o : Int} {l orig : List Int} {A : Nat → Int}
/-- A new frame enters above f, which waits as g. -/
theorem AI.enter {e : AF} (h : AI B w base f) (hn : base.length < 6) (hg : g.gas + e.gas ≤ f.gas + B) (hg0 : 0 ≤ g.gas) (hm : g.mem = f.mem) (hs : g.saved = f.saved) (hv : g.val = f.val) (hc : g.code = f.code) (hk : g.kind = f.kind) (hse : g.self = f.self) (hwt : g.pc < 512 ∧ 0 ≤ g.oo)
    (hw : WG (1048576 - gsum (base ++ [g] ++ [e])) w') (he : FI (1048576 - gsum (base ++ [g] ++ [e])) e) (hem : e.mem = []) (hpc : e.pc = 0) : AI 0 w' (base ++ [g]) e := by
  have h1 := h.pot
  have F := h.tf
  have hmg : mcF g = mcF f := by unfold mcF; rw [hm]
  have hme : mcF e = 0 := by unfold mcF; rw [hem]; rfl
  have hle : 1048576 - gsum (base ++ [f]) - B ≤ 1048576 - gsum (base ++ [g] ++ [e]) - 0 := by rw [gsum_app, gsum_app, gsum_app]; omega
  rw [psum_app] at h1
  refine ⟨by rw [List.length_append]; simp; omega, by rw [psum_app, psum_app]; omega, hw.mono (by omega), fun q hq => ?_, fun q hq => ?_, by omega⟩
  · rcases List.mem_append.1 hq with hq | hq
    · rcases List.mem_append.1 hq with hq | hq
      · exact (h.bf hq).mono hle
      · rw [List.mem_singleton.1 hq]
        exact ⟨hs ▸ F.saved.mono hle, hv ▸ F.val, by rw [hc, hk, hse]; exact F.own, hc ▸ F.cl, hm ▸ F.mod, hg0⟩
    · rw [List.mem_singleton.1 hq]; exact he.mono (by omega)
  · rcases List.mem_append.1 hq with hq | hq
    · exact h.wait q hq
    · rw [List.mem_singleton.1 hq]; exact hwt
theorem sndA_len : sndA.length = 20 := rfl
theorem AI.call (h : AI B a.w base f) (hB : 0 ≤ B) (hb : bareA a.w f.self o (argA f.st) ≤ B) (hA : ∀ i, 0 ≤ argA f.st i) (ho : opI f.code f.pc = o) (hoc : o = 241 ∨ o = 242 ∨ o = 244 ∨ o = 250) : AIs (callA a base f o) := by
  have F := h.tf
  obtain ⟨hp1, hne⟩ := opI_pc (l := f.code) (st := f.pc) (by omega)
  have hcl := F.cl
  have hown := F.own (Or.inl hne)
  have hbal := h.w.bal _ hown
  have hg := F.gas
  have hw1 : WG (1048576 - gsum (base ++ [f]) - B) (warmW a.w (addrI (argA f.st 1))) := h.w.of rfl rfl rfl
  have a0 := hA 0
  have a2 := hA 2
  have hv0 : 0 ≤ (if o = 241 ∨ o = 242 then argA f.st 2 else 0) := by split <;> omega
  have hcost : (if o = 241 ∨ o = 242 then argA f.st 2 else 0) ≠ 0 → 2300 ≤ B := fun hv => by
    have h1 : o = 241 ∨ o = 242 := Classical.byContradiction fun hh => hv (if_neg hh)
    rw [if_pos h1] at hv
    have h2 := accA_bd a.w (addrI (argA f.st 1))
    have h3 : bareA a.w f.self o (argA f.st) = enterCA a.w o (argA f.st) := by
      rcases h1 with h1 | h1 <;> (subst h1; rfl)
    have h4 : 9100 ≤ enterCA a.w o (argA f.st) := by
      unfold enterCA
      rw [if_neg (by omega), if_neg (by omega), if_pos ⟨h1, hv⟩]
      split <;> omega
    omega
  unfold callA
  dsimp only
  generalize (if o = 241 ∨ o = 242 then argA f.st 2 else 0) = vv at *
  have hcg : 0 ≤ (if vv = 0 then (0 : Int) else 2300) ∧ (if vv = 0 then (0 : Int) else 2300) ≤ B := by
    split
    · omega
    · rename_i hh; have := hcost hh; omega
  generalize (if vv = 0 then (0 : Int) else 2300) = sti at *
  have hsent : 0 ≤ min (argA f.st 0) (f.gas - f.gas / 64) ∧ min (argA f.st 0) (f.gas - f.gas / 64) ≤ f.gas := by omega
  generalize min (argA f.st 0) (f.gas - f.gas / 64) = sent at *
  split
  · refine Or.inr ⟨base, _, rfl, h.top (by unfold mcF; dsimp only; omega) (by dsimp only; omega) (hw1.mono (by rw [gsum_app, gsum_app]; dsimp only; omega)) ?_ (by dsimp only; omega)⟩
    exact ⟨F.saved.mono (by rw [gsum_app, gsum_app]; dsimp only; omega), F.val, F.own, F.cl, F.mod, by dsimp only; omega⟩
  · rename_i h1
    have hn6 : base.length < 6 := by omega
    have hvz : vv = 0 := by rw [hbal] at h1; omega
    refine Or.inr ⟨base ++ [_], _, rfl, AI.enter h hn6 (by dsimp only; omega) (by dsimp only; omega) rfl rfl rfl rfl rfl rfl ⟨by dsimp only; omega, ?_⟩ ?_ ?_ rfl rfl⟩
    · dsimp only; split
      · exact Int.le_refl 0
      · exact hA _
    · have hck : crK (callK o) = false := by rcases hoc with h | h | h | h <;> (subst h; rfl)
      show WG _ (entW (warmW a.w (addrI (argA f.st 1))) (crK (callK o)) _)
      rw [hck]
      show WG _ (warmW a.w (addrI (argA f.st 1)))
      exact hw1.mono (by rw [gsum_app, gsum_app, gsum_app]; dsimp only; omega)
    · refine ⟨hw1.mono (by rw [gsum_app, gsum_app, gsum_app]; dsimp only; omega), ?_, ?_, ?_, rfl, by dsimp only; omega⟩
      · dsimp only; split
        · exact F.val
        · exact hvz
      · dsimp only
        intro hh
        have hck : crK (callK o) = false := by rcases hoc with h | h | h | h <;> (subst h; rfl)
        rcases hh with hh | hh
        · split
          · exact hown
          · split at hh
            · exact adr_ne _ hh h.w
            · exact absurd rfl hh
        · rw [hck] at hh; cases hh
      · dsimp only; split
        · exact h.w.cl _
        · exact Nat.zero_le _
theorem WG.nonce {x : List Int} {n : Int} (h : WG S w) (hx : x ≠ sndA) (hn : 0 ≤ n ∧ 32000 * n ≤ S + 64000) : WG S (nonceW w x n) := by
  have key : ∀ y, ((nonceW w x n).acct y).code = (w.acct y).code ∧ ((nonceW w x n).acct y).bal = (w.acct y).bal := fun y => by
    show (updA w.acct x _ y).code = _ ∧ (updA w.acct x _ y).bal = _
    unfold updA; split
    · rename_i hy; subst hy; exact ⟨rfl, rfl⟩
    · exact ⟨rfl, rfl⟩
  refine ⟨h.ref, h.logs, fun y => by rw [(key y).1]; exact h.cl y, fun y hy => by rw [(key y).2]; exact h.bal y hy, ?_, fun y => ?_⟩
  · show (updA w.acct x _ sndA).code = [] ∧ (updA w.acct x _ sndA).nonce ≠ 0
    unfold updA
    rw [if_neg (Ne.symm hx)]; exact h.snd
  · show 0 ≤ (updA w.acct x _ y).nonce ∧ 32000 * (updA w.acct x _ y).nonce ≤ _
    unfold updA; split
    · exact hn
    · exact h.non y
theorem WG.enter {x : List Int} (h : WG S w) (hx : x ≠ sndA) (hS : 0 ≤ S) (b : Bool) : WG S (entW w b x) := by
  unfold entW
  split
  · exact (h.nonce hx (n := 1) (by omega)).of rfl rfl rfl
  · exact h
theorem psum_gsum (q : List AF) : gsum q ≤ psum q := by
  induction q with
  | nil => exact Int.le_refl _
  | cons x q ih =>
    have := mcF_nonneg x
    show x.gas + gsum q ≤ x.gas + mcF x + psum q
    omega
theorem AI.create (h : AI B a.w base f) (hb : bareA a.w f.self o (argA f.st) ≤ B) (hA : ∀ i, 0 ≤ argA f.st i) (hA2 : argA f.st 2 ≤ 512) (ho : opI f.code f.pc = o) (hoc : o = 240 ∨ o = 245) : AIs (createA a base f o) := by
  have F := h.tf
  obtain ⟨hp1, hne⟩ := opI_pc (l := f.code) (st := f.pc) (by omega)
  have hcl := F.cl
  have hown := F.own (Or.inl hne)
  have hbal := h.w.bal _ hown
  have hg := F.gas
  have a0 := hA 0
  have a2 := hA 2
  have hps := psum_gsum (base ++ [f])
  have hpt := h.pot
  have hcost : 32000 ≤ B := by
    have h3 : bareA a.w f.self o (argA f.st) = enterCA a.w o (argA f.st) := by
      rcases hoc with h1 | h1 <;> (subst h1; rfl)
    have h4 : 32000 ≤ enterCA a.w o (argA f.st) := by
      unfold enterCA
      rcases hoc with h1 | h1
      · rw [if_pos h1]; omega
      · rw [if_neg (by omega), if_pos h1]; omega
    omega
  have hsent : 0 ≤ min f.gas (f.gas - f.gas / 64) ∧ min f.gas (f.gas - f.gas / 64) ≤ f.gas := by omega
  unfold createA
  dsimp only
  generalize min f.gas (f.gas - f.gas / 64) = sent at *
  split
  · exact Or.inr ⟨base, _, rfl, h.turn (s' := f.st.take (f.st.length - crT o) ++ [0]) (mem' := f.mem) (h.w.mono (by omega)) (by omega) rfl (by omega)⟩
  · rename_i h1
    have hv0 : argA f.st 0 = 0 := by rw [hbal] at h1; omega
    generalize hself : (if o = 245 then create2I f.self (argA f.st 3) (cutN f.mem (argA f.st 1).toNat (argA f.st 2).toNat) else createI f.self (a.w.acct f.self).nonce) = self'
    have hnn := h.w.non f.self
    have hw2 : WG (1048576 - gsum (base ++ [f])) (warmW (nonceW a.w f.self ((a.w.acct f.self).nonce + 1)) self') :=
      ((h.w.mono (show _ ≤ 1048576 - gsum (base ++ [f]) by omega)).nonce hown (by omega)).of rfl rfl rfl
    split
    · refine Or.inr ⟨base, _, rfl, h.top (by unfold mcF; dsimp only; omega) (by dsimp only; omega) (hw2.mono (by rw [gsum_app, gsum_app]; dsimp only; omega)) ?_ (by dsimp only; omega)⟩
      exact ⟨F.saved.mono (by rw [gsum_app, gsum_app]; dsimp only; omega), F.val, F.own, F.cl, F.mod, by dsimp only; omega⟩
    · rename_i h2
      have hsn : self' ≠ sndA := fun hh => by
        subst hh
        exact h2 (Or.inl hw2.snd.2)
      refine Or.inr ⟨base ++ [_], _, rfl, AI.enter h (by omega) (by dsimp only; omega) (by dsimp only; omega) rfl rfl rfl rfl rfl rfl ⟨by dsimp only; omega, Int.le_refl 0⟩ ?_ ?_ rfl rfl⟩
      · show WG _ (entW (warmW _ self') _ self')
        exact (hw2.mono (by rw [gsum_app, gsum_app, gsum_app]; dsimp only; omega)).enter hsn (by rw [gsum_app, gsum_app]; rw [gsum_app] at hps; dsimp only; omega) _
      · exact ⟨hw2.mono (by rw [gsum_app, gsum_app, gsum_app]; dsimp only; omega), hv0, fun _ => hsn, by dsimp only; rw [cutN_length]; omega, rfl, by dsimp only; omega⟩
theorem natCost_nonneg {k y : Int} (h : natCost k l = some y) : 0 ≤ y := by
  unfold natCost at h
  split at h
  · cases h; omega
  · split at h
    · cases h; omega
    · cases h
theorem AI.natv (h : AI 0 a.w base f) : AIs (natvA a base f) := by
  unfold natvA
  cases hc : natCost f.natv f.input with
  | none => exact h.leave
  | some y =>
    have hy := natCost_nonneg hc
    dsimp only
    split
    · exact h.leave
    · have F := h.tf
      have hs : 1048576 - gsum (base ++ [f]) - 0 ≤ 1048576 - gsum (base ++ [{ f with gas := f.gas - y }]) - 0 := by rw [gsum_app, gsum_app]; dsimp only; omega
      have h1 : AI 0 a.w base { f with gas := f.gas - y } := h.top (by unfold mcF; dsimp only; omega) (by dsimp only; omega) (h.w.mono hs) ⟨F.saved.mono hs, F.val, F.own, F.cl, F.mod, by dsimp only; omega⟩ h.pc
      exact h1.leave
theorem costA_bare {self : List Int} {n : Nat} (hA : ∀ i, 0 ≤ A i) (hr : 0 ≤ reachI o A) : memCost (max (needI o A).toNat n : Nat) - memCost (n : Nat) + bareA w self o A ≤ costA w self o A (n : Nat) := by
  have h0 : 0 ≤ needI o A := by unfold needI; omega
  unfold costA
  split
  · rename_i h1
    rw [show max (needI o A).toNat n = n by omega]; omega
  · rename_i h1
    rw [show ((max (needI o A).toNat n : Nat) : Int) = needI o A by omega]
    unfold lessI
    split <;> omega
theorem opI_bd2 (hB : isB l) : 0 ≤ opI l st ∧ opI l st < 256 := by
  unfold opI
  split
  · rw [List.getD_eq_getElem?_getD]
    by_cases h : st.toNat < l.length
    · rw [List.getElem?_eq_getElem h]; exact hB _ (List.getElem_mem h)
    · rw [List.getElem?_eq_none (by omega)]; decide
  · decide
/-- ONE STEP KEEPS THE INVARIANT. -/
theorem AI.step (h : AI 0 a.w base f) (hB : isB f.code) (hA : ∀ i, 0 ≤ argA f.st i) : AIs (stepF a base f orig) := by
  unfold stepF
  split
  · exact h.natv
  · dsimp only
    have hob := opI_bd2 (st := f.pc) hB
    generalize ho : opI f.code f.pc = o at *
    split
    · exact h.leave
    · rename_i h1
      have h1 := Decidable.not_not.1 h1
      have hr := refA_0 h1
      rw [hr.1]
      have hre : 0 ≤ reachI o (argA f.st) := reachI_nn hA
      have hcb := costA_bare (w := a.w) (self := f.self) (n := f.mem.length / 32) hA hre
      have hbn := bareA_nonneg (w := a.w) (self := f.self) (o := o) hA
      have J := h.pay (c := costA a.w f.self o (argA f.st) (f.mem.length / 32 : Nat)) (b := bareA a.w f.self o (argA f.st)) (n := (needI o (argA f.st)).toNat) hr.2.2.2.2.2.2.1 hbn (by unfold mcF; omega)
      have J0 := J.mono hbn
      split
      · exact AI.leave (a := { a with frs := _ }) J0
      · split
        · exact AI.leave (a := { a with frs := _ }) J0
        · split
          · exact AI.leave (a := { a with frs := _ }) J0
          · split
            · have J1 : AI 0 (goneW (warmW a.w (addrI (argA f.st 0))) f.self) base _ := ⟨J0.n, J0.pot, ?_, J0.fr, J0.wait, J0.pc⟩
              · exact AI.leave (a := { a with frs := _, w := _ }) J1
              · refine J0.w.of ?_ ?_ ?_ <;> (unfold goneW; split <;> rfl)
            · split
              · rename_i h2 h3 h4 h5 h6
                unfold entersA
                have hso : o = 240 ∨ o = 245 ∨ o = 241 ∨ o = 242 ∨ o = 244 ∨ o = 250 := by
                  unfold famI at h6
                  repeat' split at h6
                  all_goals omega
                split
                · rename_i h7
                  exact AI.create (a := { a with frs := _, ret := [] }) J (Int.le_refl _) hA (hr.2.2.2.2.1 h7) ho h7
                · rename_i h7
                  exact AI.call (a := { a with frs := _, ret := [] }) J hbn (Int.le_refl _) hA ho (by omega)
              · rename_i h2 h3 h4 h5 h6
                exact AI.plain (a := { a with frs := _ }) J hbn (Int.le_refl _) hA rfl ho h2 hob.1 hr.2.2.2.2.2.2.2 rfl
end
end Go.Proofs.YgvalwGreat.X
