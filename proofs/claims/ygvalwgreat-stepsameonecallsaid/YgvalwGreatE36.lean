import Derived.Test.YgvalwGreatE35
set_option linter.unusedVariables false
set_option linter.unusedSimpArgs false
namespace Go.Proofs.YgvalwGreat.X
open Go

/-- A probing table of N places for n entries. -/
structure TabOK (N : Nat) (tab : Nat → Int) (n : Nat) (home : Nat → Nat) : Prop where
  rng : ∀ p, p < N → tab p = -1 ∨ ∃ i : Nat, i < n ∧ tab p = i
  free : ∃ ps : List Nat, ps.Nodup ∧ (∀ p, p ∈ ps ↔ p < N ∧ tab p < 0) ∧ ps.length + n = N
  chain : ∀ i, i < n → ∃ d, d < N ∧ tab ((home i + d) % N) = i ∧ ∀ e, e < d → 0 ≤ tab ((home i + e) % N)
/-- The empty place where probing from H ends. -/
def Gap (N : Nat) (tab : Nat → Int) (H p : Nat) : Prop := ∃ d, d < N ∧ p = (H + d) % N ∧ tab p < 0 ∧ ∀ e, e < d → 0 ≤ tab ((H + e) % N)
theorem TabOK.add {N n : Nat} {tab : Nat → Int} {home home' : Nat → Nat} {p : Nat} (T : TabOK N tab n home) (hg : Gap N tab (home' n) p) (hh : ∀ i, i < n → home' i = home i) : TabOK N (updN tab p n) (n + 1) home' := by
  obtain ⟨d, hd, rfl, hneg, hpre⟩ := hg
  have hN : 0 < N := by omega
  have hp := Nat.mod_lt (home' n + d) hN
  have up : ∀ q, 0 ≤ tab q → updN tab ((home' n + d) % N) (n : Int) q = tab q := fun q hq => updN_ne (by rintro rfl; omega)
  refine ⟨fun q hq => ?_, ?_, fun i hi => ?_⟩
  · by_cases e : q = (home' n + d) % N
    · subst e; exact .inr ⟨n, by omega, updN_same ..⟩
    · rw [updN_ne e]
      rcases T.rng q hq with h1 | ⟨i, h1, h2⟩
      · exact .inl h1
      · exact .inr ⟨i, by omega, h2⟩
  · obtain ⟨ps, h1, h2, h3⟩ := T.free
    have hmem : (home' n + d) % N ∈ ps := (h2 _).2 ⟨hp, hneg⟩
    refine ⟨ps.erase ((home' n + d) % N), h1.erase _, fun q => ?_, ?_⟩
    · rw [h1.mem_erase_iff, h2]
      by_cases e : q = (home' n + d) % N
      · subst e; rw [updN_same]
        constructor
        · intro hh; exact absurd rfl hh.1
        · intro hh; omega
      · rw [updN_ne e]
        exact ⟨fun hh => hh.2, fun hh => ⟨e, hh⟩⟩
    · rw [List.length_erase_of_mem hmem]
      have := List.length_pos_of_mem hmem
      omega
  · by_cases e : i = n
    · subst e
      refine ⟨d, hd, updN_same .., fun e he => ?_⟩
      rw [up _ (hpre e he)]; exact hpre e he
    · obtain ⟨d', h1, h2, h3⟩ := T.chain i (by omega)
      rw [hh i (by omega)]
      refine ⟨d', h1, ?_, fun e he => ?_⟩
      · rw [up _ (by omega)]; exact h2
      · rw [up _ (h3 e he)]; exact h3 e he
theorem TabOK.home {N n : Nat} {tab : Nat → Int} {home home' : Nat → Nat} (T : TabOK N tab n home) (hh : ∀ i, i < n → home' i = home i) : TabOK N tab n home' :=
  ⟨T.rng, T.free, fun i hi => by rw [hh i hi]; exact T.chain i hi⟩
/-- Every place is met by probing. -/
theorem TabOK.some_gap {N n : Nat} {tab : Nat → Int} {home : Nat → Nat} (T : TabOK N tab n home) (hn : n < N) (H : Nat) (hH : H < N) : ∃ d, d < N ∧ tab ((H + d) % N) < 0 := by
  obtain ⟨ps, h1, h2, h3⟩ := T.free
  match ps, h2, h3 with
  | [], _, h3 => simp at h3; omega
  | q :: ps, h2, _ =>
    have hq := (h2 q).1 (List.mem_cons_self ..)
    by_cases hle : H ≤ q
    · exact ⟨q - H, by omega, by rw [show H + (q - H) = q by omega, Nat.mod_eq_of_lt hq.1]; exact hq.2⟩
    · exact ⟨N + q - H, by omega, by rw [show H + (N + q - H) = q + N by omega, Nat.add_mod_right, Nat.mod_eq_of_lt hq.1]; exact hq.2⟩
section
variable {h : Hp} {s : Sl} {sz : Nat} {es : List (List Value)}
theorem Arr.seg {b off k o n : Nat} (a : Arr h s sz es) (he : s.1 = some ⟨b, off, none⟩) (hk : k < s.2.1) (ho : o + n ≤ sz) : ldV true n h b (off + k * sz + o) = some (.agg (X.seg (es.getD k []) o n).toArray) := by
  have hg := a.get he hk
  unfold ldV at hg ⊢
  cases hb : h b with
  | none => rw [hb] at hg; cases hg
  | some x =>
    rw [hb] at hg
    dsimp only at hg ⊢
    split at hg
    · rename_i hl
      rw [if_pos (by omega)]
      injection hg with hg; injection hg with hg
      have hg : X.seg x.1 (off + k * sz) sz = es.getD k [] := by
        have := congrArg Array.toList hg; simpa using this
      rw [← hg]
      congr 3
      unfold X.seg
      rw [List.drop_take, List.take_take, List.drop_drop, Nat.min_eq_left (by omega)]
    · cases hg
theorem Arr.fld {b off k o m : Nat} (a : Arr h s sz es) (he : s.1 = some ⟨b, off, none⟩) (hk : k < s.2.1) (ho : o < sz) : ldV false m h b (off + k * sz + o) = (es.getD k [])[o]? := by
  have hg := a.get he hk
  unfold ldV at hg ⊢
  cases hb : h b with
  | none => rw [hb] at hg; cases hg
  | some x =>
    rw [hb] at hg
    dsimp only at hg ⊢
    split at hg
    · rename_i hl
      injection hg with hg; injection hg with hg
      have hg : X.seg x.1 (off + k * sz) sz = es.getD k [] := by
        have := congrArg Array.toList hg; simpa using this
      rw [← hg]
      unfold X.seg
      rw [List.getElem?_take_of_lt ho, List.getElem?_drop]
    · cases hg
end
end Go.Proofs.YgvalwGreat.X
