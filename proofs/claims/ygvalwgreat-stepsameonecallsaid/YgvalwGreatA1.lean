import Derived.Test.YgvalwGreatM46
set_option linter.unusedVariables false
set_option linter.unusedSimpArgs false
namespace Go.Proofs.YgvalwGreat.X
open Go

/-- The sender of the stage. -/
def sndA : List Int := adr 240
def gsum (l : List AF) : Int := l.foldr (fun f s => f.gas + s) 0
def mcF (f : AF) : Int := memCost (f.mem.length / 32 : Nat)
def psum (l : List AF) : Int := l.foldr (fun f s => f.gas + mcF f + s) 0
theorem gsum_app (a : List AF) (f : AF) : gsum (a ++ [f]) = gsum a + f.gas := by
  induction a with
  | nil => simp [gsum]
  | cons x a ih => show x.gas + gsum (a ++ [f]) = x.gas + gsum a + f.gas; rw [ih]; omega
theorem psum_app (a : List AF) (f : AF) : psum (a ++ [f]) = psum a + (f.gas + mcF f) := by
  induction a with
  | nil => simp [psum]
  | cons x a ih => show x.gas + mcF x + psum (a ++ [f]) = x.gas + mcF x + psum a + _; rw [ih]; omega
theorem mcF_nonneg (f : AF) : 0 ≤ mcF f := memCost_nonneg (by omega)
/-- A good world, with S gas spent. -/
structure WG (S : Int) (w : AW) : Prop where
  ref : 0 ≤ w.ref ∧ w.ref ≤ 199 * S
  logs : 375 * (w.nlogs : Int) ≤ S
  cl : ∀ a, (w.acct a).code.length ≤ 512
  bal : ∀ a, a ≠ sndA → (w.acct a).bal = 0
  snd : (w.acct sndA).code = [] ∧ (w.acct sndA).nonce ≠ 0
  non : ∀ a, 0 ≤ (w.acct a).nonce ∧ 32000 * (w.acct a).nonce ≤ S + 64000
structure FI (S : Int) (f : AF) : Prop where
  saved : WG S f.saved
  val : f.val = 0
  own : f.code ≠ [] ∨ crK f.kind = true → f.self ≠ sndA
  cl : f.code.length ≤ 512
  mod : f.mem.length % 32 = 0
  gas : 0 ≤ f.gas
/-- THE ABSTRACT INVARIANT; B is gas that is paid but not yet reckoned. -/
structure AI (B : Int) (w : AW) (base : List AF) (f : AF) : Prop where
  n : base.length ≤ 6
  pot : psum (base ++ [f]) + B ≤ 1048576
  w : WG (1048576 - gsum (base ++ [f]) - B) w
  fr : ∀ q ∈ base ++ [f], FI (1048576 - gsum (base ++ [f]) - B) q
  wait : ∀ q ∈ base, q.pc < 512 ∧ 0 ≤ q.oo
  pc : f.pc ≤ 545
def AIs (a : AS) : Prop := a.frs = [] ∨ ∃ base f, a.frs = base ++ [f] ∧ AI 0 a.w base f
section
variable {S S' B : Int} {w w' : AW} {base : List AF} {f g : AF} {a : AS} {st o : Int} {l : List Int} {A : Nat → Int}
theorem WG.mono (h : WG S w) (hs : S ≤ S') : WG S' w := ⟨⟨h.ref.1, by have := h.ref.2; omega⟩, by have := h.logs; omega, h.cl, h.bal, h.snd, fun a => ⟨(h.non a).1, by have := (h.non a).2; omega⟩⟩
theorem WG.of (h : WG S w) (h1 : w'.acct = w.acct) (h2 : w'.ref = w.ref) (h3 : w'.nlogs = w.nlogs) : WG S w' :=
  ⟨h2 ▸ h.ref, h3 ▸ h.logs, h1 ▸ h.cl, h1 ▸ h.bal, h1 ▸ h.snd, h1 ▸ h.non⟩
theorem FI.mono (h : FI S f) (hs : S ≤ S') : FI S' f := ⟨h.saved.mono hs, h.val, h.own, h.cl, h.mod, h.gas⟩
theorem AI.tf (h : AI B w base f) : FI (1048576 - gsum (base ++ [f]) - B) f := h.fr f (List.mem_append.2 (Or.inr (List.mem_singleton.2 rfl)))
theorem AI.bf (h : AI B w base f) {q : AF} (hq : q ∈ base) : FI (1048576 - gsum (base ++ [f]) - B) q := h.fr q (List.mem_append.2 (Or.inl hq))
theorem AI.mono {B' : Int} (h : AI B w base f) (hb : B' ≤ B) : AI B' w base f :=
  ⟨h.n, by have := h.pot; omega, h.w.mono (by omega), fun q hq => (h.fr q hq).mono (by omega), h.wait, h.pc⟩
/-- The top frame changes. -/
theorem AI.top {B' : Int} (h : AI B w base f) (hg : g.gas + mcF g + B' ≤ f.gas + mcF f + B) (hs : g.gas + B' ≤ f.gas + B) (hw : WG (1048576 - gsum (base ++ [g]) - B') w') (hf : FI (1048576 - gsum (base ++ [g]) - B') g) (hpc : g.pc ≤ 545) : AI B' w' base g := by
  have h1 := h.pot
  rw [psum_app] at h1
  refine ⟨h.n, by rw [psum_app]; omega, hw, fun q hq => ?_, h.wait, hpc⟩
  rcases List.mem_append.1 hq with hq | hq
  · exact (h.bf hq).mono (by rw [gsum_app, gsum_app]; omega)
  · rw [List.mem_singleton.1 hq]; exact hf
theorem FI.pay (h : FI S f) {c : Int} {mem : List Int} (hm : mem.length % 32 = 0) (hg : 0 ≤ c) (hs : S ≤ S') : FI S' { f with gas := c, mem := mem } := ⟨h.saved.mono hs, h.val, h.own, h.cl, hm, hg⟩
theorem lvMA_len (h : 0 ≤ f.oo) : (lvMA f l).length = f.mem.length := by
  unfold lvMA; split
  · rfl
  · exact writeI_length h
theorem depI_bd2 (h : 0 ≤ S) : 0 ≤ (depI S l).1 ∧ (depI S l).1 ≤ S ∧ ((depI S l).2 = 0 → l.length ≤ 256) := by
  unfold depI
  split
  · exact ⟨by omega, h, fun h => by cases h⟩
  · split
    · exact ⟨by omega, h, fun h => by cases h⟩
    · split
      · exact ⟨by omega, h, fun h => by cases h⟩
      · dsimp only; exact ⟨by omega, by omega, fun _ => by omega⟩
theorem lvGA_bd (h : 0 ≤ f.gas) : 0 ≤ lvGA f st l ∧ lvGA f st l ≤ f.gas := by
  have := depI_bd2 (l := l) h
  unfold lvGA
  split
  · omega
  · split <;> omega
theorem AI.leave (h : AI 0 a.w base f) : AIs (leaveA a base f st l) := by
  have hg := lvGA_bd (st := st) (l := l) h.tf.gas
  rcases List.eq_nil_or_concat base with rfl | ⟨b, p, rfl⟩
  · exact Or.inl rfl
  · rw [List.concat_eq_append] at h
    rw [List.concat_eq_append, leave_up]
    refine Or.inr ⟨b, upA p f st l, rfl, ?_⟩
    have hp : p ∈ b ++ [p] := List.mem_append.2 (Or.inr (List.mem_singleton.2 rfl))
    have hwt := h.wait p hp
    have hml : mcF (upA p f st l) = mcF p := by
      show memCost (((lvMA p (lvOA f st l)).length / 32 : Nat) : Int) = _
      rw [lvMA_len hwt.2]; rfl
    have hs : (1048576 - gsum (b ++ [p] ++ [f]) - 0 : Int) ≤ 1048576 - gsum (b ++ [upA p f st l]) - 0 := by
      rw [gsum_app, gsum_app, gsum_app]
      show _ ≤ 1048576 - (gsum b + (p.gas + lvGA f st l)) - 0
      omega
    have hm := mcF_nonneg f
    have hpot := h.pot
    rw [psum_app, psum_app] at hpot
    refine ⟨by have := h.n; rw [List.length_append] at this; simp at this; omega, ?_, ?_, fun q hq => ?_, fun q hq => h.wait q (List.mem_append.2 (Or.inl hq)), by show p.pc + 1 ≤ 545; omega⟩
    · rw [psum_app, hml]
      show psum b + (p.gas + lvGA f st l + mcF p) + 0 ≤ _
      omega
    · show WG _ (lvW a.w f.saved (lvSA f st l) (crK f.kind) f.self l)
      unfold lvW
      split
      · exact h.tf.saved.mono hs
      · split
        · rename_i h1 h2
          have hw := h.w.mono hs
          have hown := h.tf.own (Or.inr h2.1)
          have hlen : l.length ≤ 512 := by
            have h3 : lvSA f st l = 0 := Decidable.not_not.1 h1
            unfold lvSA at h3
            by_cases h4 : crK f.kind = true ∧ st = 0
            · rw [if_pos h4] at h3
              have := (depI_bd2 (l := l) h.tf.gas).2.2 h3
              omega
            · rw [if_neg h4] at h3
              exact absurd ⟨h2.1, h3⟩ h4
          refine ⟨hw.ref, hw.logs, fun x => ?_, fun x hx => ?_, ?_, fun x => ?_⟩
          · dsimp only; unfold updA
            split
            · exact hlen
            · exact hw.cl x
          · dsimp only; unfold updA
            split
            · rename_i h5; rw [← h5]; exact hw.bal x hx
            · exact hw.bal x hx
          · dsimp only; unfold updA
            rw [if_neg (Ne.symm hown)]
            exact hw.snd
          · dsimp only; unfold updA
            split
            · rename_i h5; rw [← h5]; exact hw.non x
            · exact hw.non x
        · exact h.w.mono hs
    · rcases List.mem_append.1 hq with hq | hq
      · exact (h.bf (List.mem_append.2 (Or.inl hq))).mono hs
      · rw [List.mem_singleton.1 hq]
        have F := (h.bf hp).mono hs
        exact ⟨F.saved, F.val, F.own, F.cl, by show (lvMA p (lvOA f st l)).length % 32 = 0; rw [lvMA_len hwt.2]; exact F.mod, by show 0 ≤ p.gas + lvGA f st l; have := F.gas; omega⟩
theorem refA_0 {cost gas : Int} {n : Nat} {static : Bool} {code : List Int} {rl : Nat} (h : (refA o cost gas n A static code rl).1 = 0) :
    (refA o cost gas n A static code rl).2 = cost ∧ (arI o).2.2 = true ∧ (arI o).1 ≤ n ∧ (n : Int) - (arI o).1 + (arI o).2.1 ≤ 64 ∧ (o = 240 ∨ o = 245 → A 2 ≤ 512) ∧ (o = 62 → A 1 + A 2 ≤ rl) ∧ cost ≤ gas ∧ ((o = 86 ∨ (o = 87 ∧ A 1 ≠ 0)) → isDestI code (A 0) = true) := by
  revert h
  unfold refA
  by_cases h1 : (arI o).2.2 = false
  · rw [if_pos h1]; exact fun h => by cases h
  rw [if_neg h1]
  by_cases h2 : (n : Int) < (arI o).1
  · rw [if_pos h2]; exact fun h => by cases h
  rw [if_neg h2]
  by_cases h3 : 64 < (n : Int) - (arI o).1 + (arI o).2.1
  · rw [if_pos h3]; exact fun h => by cases h
  rw [if_neg h3]
  by_cases h4 : static = true ∧ writesI o (A 2) = true
  · rw [if_pos h4]; exact fun h => by cases h
  rw [if_neg h4]
  by_cases h5 : (o = 240 ∨ o = 245) ∧ 512 < A 2
  · rw [if_pos h5]; exact fun h => by cases h
  rw [if_neg h5]
  by_cases h6 : o = 62 ∧ (rl : Int) < A 1 + A 2
  · rw [if_pos h6]; exact fun h => by cases h
  rw [if_neg h6]
  by_cases h7 : gas < cost
  · rw [if_pos h7]; exact fun h => by cases h
  rw [if_neg h7]
  by_cases h8 : o = 85 ∧ gas ≤ 2300
  · rw [if_pos h8]; exact fun h => by cases h
  rw [if_neg h8]
  by_cases h9 : (o = 86 ∨ (o = 87 ∧ A 1 ≠ 0)) ∧ isDestI code (A 0) = false
  · rw [if_pos h9]; exact fun h => by cases h
  rw [if_neg h9]
  intro _
  refine ⟨rfl, by simpa using h1, by omega, by omega, fun hh => ?_, fun hh => ?_, by omega, fun hh => ?_⟩
  · exact Int.not_lt.1 fun hc => h5 ⟨hh, hc⟩
  · exact Int.not_lt.1 fun hc => h6 ⟨hh, hc⟩
  · cases hq : isDestI code (A 0) with
    | true => rfl
    | false => exact absurd ⟨hh, hq⟩ h9
end
end Go.Proofs.YgvalwGreat.X
