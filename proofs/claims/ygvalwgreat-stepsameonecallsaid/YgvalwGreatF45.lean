import Derived.Test.YgvalwGreatF44
set_option linter.unusedVariables false
set_option linter.unusedSimpArgs false
namespace Go.Proofs.YgvalwGreat.X
open Go

/-- The operands' values. -/
def argI (st : List (Sl × Int)) (i : Nat) : Int := (argP st i).2
def stW (st : List (Sl × Int)) : Prop := ∀ p ∈ st, p.2 < W
theorem argI_lt {st : List (Sl × Int)} (h : stW st) (i : Nat) : argI st i < W := by
  unfold argI argP
  split
  · exact h _ (List.getElem_mem _)
  · exact W_pos
def writesI (o : Int) (a2 : Int) : Bool := decide (o = 85 ∨ o = 93 ∨ o = 255 ∨ (160 ≤ o ∧ o ≤ 164) ∨ o = 240 ∨ o = 245 ∨ (o = 241 ∧ a2 ≠ 0))
/-- The greatest end of the ranges of memory that an instruction touches. -/
def reachI (o : Int) (A : Nat → Int) : Int :=
  if o = 32 ∨ o = 243 ∨ o = 253 ∨ (160 ≤ o ∧ o ≤ 164) then endI (A 0) (A 1)
  else if o = 55 ∨ o = 57 ∨ o = 62 then endI (A 0) (A 2)
  else if o = 60 then endI (A 1) (A 3)
  else if o = 81 ∨ o = 82 then endI (A 0) 32
  else if o = 83 then endI (A 0) 1
  else if o = 94 then max (endI (A 0) (A 2)) (endI (A 1) (A 2))
  else if o = 240 ∨ o = 245 then endI (A 1) (A 2)
  else if o = 241 ∨ o = 242 then max (endI (A 3) (A 4)) (endI (A 5) (A 6))
  else if o = 244 ∨ o = 250 then max (endI (A 2) (A 3)) (endI (A 4) (A 5))
  else 0

section
variable {hi hm : Hp} {K : Value → Hp → Prop}

set_option maxRecDepth 100000 in
set_option maxHeartbeats 4000000 in
theorem writes_ok (hd : Dj hi hm) {b : Nat} {pre post : List Value} {f : YF} {t : TypeId} {o : Int} (hb : hm b = some (pre ++ (fCells f ++ post), t)) (hok : f.ok hi) (hk : K (.bool (writesI o (argI f.st 2))) (join hi hm)) :
    CallX Hval.prog 121 [.pointer (some ⟨b, pre.length, none⟩), .int .u8 o] (join hi hm) K := by
  refine CallX.of_xf T_ok Hval.func121 rfl (by kernel_rfl) (Nat.le_of_ble_eq_true rfl) ?_; conv => whnf
  have hst := hok.st.ext (Ext.jl hi hm)
  have hsr : f.stS.2.1 < 2 ^ 30 := by have := hok.n; have := hok.stR; omega
  by_cases h1 : o = 241
  · subst h1
    repeat (first | (refine CondX.tt ?_; conv => whnf) | (refine CondX.ff ?_; conv => whnf))
    refine arg_ok (join_hm hd hb) hst hsr 2 (by decide) ?_; conv => whnf
    repeat (first | (refine CondX.tt ?_; conv => whnf) | (refine CondX.ff ?_; conv => whnf))
    refine isZero_ok ((argP_ok hok.stE 2).ext (Ext.jl _ _)) ?_; conv => whnf
    repeat (first | (refine CondX.tt ?_; conv => whnf) | (refine CondX.ff ?_; conv => whnf))
    refine RetX.same ?_
    have e : (!decide ((argP f.st 2).2 = 0)) = writesI 241 (argI f.st 2) := by simp [writesI, argI]
    rw [← e] at hk; exact hk
  · by_cases h2 : o = 85 ∨ o = 93 ∨ o = 255 ∨ o = 240 ∨ o = 245
    · have e : true = writesI o (argI f.st 2) := by simp only [writesI]; symm; rw [decide_eq_true_iff]; omega
      rw [← e] at hk
      rcases h2 with h2 | h2 | h2 | h2 | h2
      · subst h2
        repeat (first | (refine CondX.tt ?_; conv => whnf) | (refine CondX.ff ?_; conv => whnf))
        exact RetX.same hk
      · subst h2
        repeat (first | (refine CondX.tt ?_; conv => whnf) | (refine CondX.ff ?_; conv => whnf))
        exact RetX.same hk
      · subst h2
        repeat (first | (refine CondX.tt ?_; conv => whnf) | (refine CondX.ff ?_; conv => whnf))
        exact RetX.same hk
      · subst h2
        repeat (first | (refine CondX.tt ?_; conv => whnf) | (refine CondX.ff ?_; conv => whnf))
        exact RetX.same hk
      · subst h2
        repeat (first | (refine CondX.tt ?_; conv => whnf) | (refine CondX.ff ?_; conv => whnf))
        exact RetX.same hk
    · by_cases h3 : 160 ≤ o ∧ o ≤ 164
      · have e : true = writesI o (argI f.st 2) := by simp only [writesI]; symm; rw [decide_eq_true_iff]; omega
        rw [← e] at hk
        repeat (first | (refine CondX.tt ?_; conv => whnf) | (refine CondX.ff ?_; conv => whnf) | (refine CondX.eqF (by omega) ?_; conv => whnf) | (refine CondX.dF (by omega) ?_; conv => whnf) | (refine CondX.dT (by omega) ?_; conv => whnf))
        exact RetX.same hk
      · have e : false = writesI o (argI f.st 2) := by simp only [writesI]; symm; rw [decide_eq_false_iff_not]; omega
        rw [← e] at hk
        by_cases h4 : 160 ≤ o
        · repeat (first | (refine CondX.tt ?_; conv => whnf) | (refine CondX.ff ?_; conv => whnf) | (refine CondX.eqF (by omega) ?_; conv => whnf) | (refine CondX.dF (by omega) ?_; conv => whnf) | (refine CondX.dT (by omega) ?_; conv => whnf))
          exact RetX.same hk
        · repeat (first | (refine CondX.tt ?_; conv => whnf) | (refine CondX.ff ?_; conv => whnf) | (refine CondX.eqF (by omega) ?_; conv => whnf) | (refine CondX.dF (by omega) ?_; conv => whnf) | (refine CondX.dT (by omega) ?_; conv => whnf))
          exact RetX.same hk


set_option maxRecDepth 100000 in
set_option maxHeartbeats 4000000 in
theorem reach_ok (hd : Dj hi hm) {b : Nat} {pre post : List Value} {f : YF} {t : TypeId} {o : Int} (ho0 : 0 ≤ o) (ho1 : o < 256) (hb : hm b = some (pre ++ (fCells f ++ post), t)) (hok : f.ok hi) (hW : stW f.st)
    (hk : ∀ s' hi', Ext hi hi' → Dj hi' hm → NtS hi' s' (reachI o (argI f.st)) → K (sl s') (join hi' hm)) :
    CallX Hval.prog 55 [.pointer (some ⟨b, pre.length, none⟩), .int .u8 o] (join hi hm) K := by
  refine CallX.of_xf T_ok Hval.func55 rfl (by kernel_rfl) (Nat.le_of_ble_eq_true rfl) ?_; conv => whnf
  have hst := hok.st.ext (Ext.jl hi hm)
  have hst' : ∀ {h0}, Ext hi h0 → Arr (join h0 hm) f.stS 1 (f.st.map stCells) := fun he => (hok.st.ext he).ext (Ext.jl _ _)
  have hsr : f.stS.2.1 < 2 ^ 30 := by have := hok.n; have := hok.stR; omega
  have aok : ∀ i, NtS hi (argP f.st i).1 (argI f.st i) := fun i => argP_ok hok.stE i
  have aW := argI_lt hW
  have hWb2 : W + W < big := by rw [W_val, big_val]; decide
  have hWp := W_pos
  have hW32 : 1000 < W := by rw [W_val]; decide
  by_cases h1 : 160 ≤ o ∧ o ≤ 164
  · have hspec : reachI o (argI f.st) = endI (argI f.st 0) (argI f.st 1) := by unfold reachI; rw [if_pos (by omega)]
    repeat (first | (refine CondX.tt ?_; conv => whnf) | (refine CondX.ff ?_; conv => whnf) | (refine CondX.eqF (by omega) ?_; conv => whnf) | (refine CondX.dF (by omega) ?_; conv => whnf) | (refine CondX.dT (by omega) ?_; conv => whnf))
    refine arg_ok (join_hm hd hb) hst hsr 0 (by decide) ?_; conv => whnf
    refine arg_ok (join_hm hd hb) hst hsr 1 (by decide) ?_; conv => whnf
    refine CallX.fj hd (end_ok (aok 0) (aok 1) (by have := aW 0; have := aW 1; omega) fun b n c h1 he hn hd1 => ?_); conv => whnf
    refine RetX.same (hk (b, n, c) _ he hd1 ?_)
    rw [hspec]; exact hn
  by_cases h2 : o = 32
  · subst h2
    have hspec : reachI 32 (argI f.st) = endI (argI f.st 0) (argI f.st 1) := rfl
    repeat (first | (refine CondX.tt ?_; conv => whnf) | (refine CondX.ff ?_; conv => whnf))
    refine arg_ok (join_hm hd hb) hst hsr 0 (by decide) ?_; conv => whnf
    refine arg_ok (join_hm hd hb) hst hsr 1 (by decide) ?_; conv => whnf
    refine CallX.fj hd (end_ok (aok 0) (aok 1) (by have := aW 0; have := aW 1; omega) fun b n c h1 he hn hd1 => ?_); conv => whnf
    refine RetX.same (hk (b, n, c) _ he hd1 ?_)
    rw [hspec]; exact hn
  by_cases h3 : o = 243
  · subst h3
    have hspec : reachI 243 (argI f.st) = endI (argI f.st 0) (argI f.st 1) := rfl
    repeat (first | (refine CondX.tt ?_; conv => whnf) | (refine CondX.ff ?_; conv => whnf))
    refine arg_ok (join_hm hd hb) hst hsr 0 (by decide) ?_; conv => whnf
    refine arg_ok (join_hm hd hb) hst hsr 1 (by decide) ?_; conv => whnf
    refine CallX.fj hd (end_ok (aok 0) (aok 1) (by have := aW 0; have := aW 1; omega) fun b n c h1 he hn hd1 => ?_); conv => whnf
    refine RetX.same (hk (b, n, c) _ he hd1 ?_)
    rw [hspec]; exact hn
  by_cases h4 : o = 253
  · subst h4
    have hspec : reachI 253 (argI f.st) = endI (argI f.st 0) (argI f.st 1) := rfl
    repeat (first | (refine CondX.tt ?_; conv => whnf) | (refine CondX.ff ?_; conv => whnf))
    refine arg_ok (join_hm hd hb) hst hsr 0 (by decide) ?_; conv => whnf
    refine arg_ok (join_hm hd hb) hst hsr 1 (by decide) ?_; conv => whnf
    refine CallX.fj hd (end_ok (aok 0) (aok 1) (by have := aW 0; have := aW 1; omega) fun b n c h1 he hn hd1 => ?_); conv => whnf
    refine RetX.same (hk (b, n, c) _ he hd1 ?_)
    rw [hspec]; exact hn
  by_cases h5 : o = 55
  · subst h5
    have hspec : reachI 55 (argI f.st) = endI (argI f.st 0) (argI f.st 2) := rfl
    repeat (first | (refine CondX.tt ?_; conv => whnf) | (refine CondX.ff ?_; conv => whnf))
    refine arg_ok (join_hm hd hb) hst hsr 0 (by decide) ?_; conv => whnf
    refine arg_ok (join_hm hd hb) hst hsr 2 (by decide) ?_; conv => whnf
    refine CallX.fj hd (end_ok (aok 0) (aok 2) (by have := aW 0; have := aW 2; omega) fun b n c h1 he hn hd1 => ?_); conv => whnf
    refine RetX.same (hk (b, n, c) _ he hd1 ?_)
    rw [hspec]; exact hn
  by_cases h6 : o = 57
  · subst h6
    have hspec : reachI 57 (argI f.st) = endI (argI f.st 0) (argI f.st 2) := rfl
    repeat (first | (refine CondX.tt ?_; conv => whnf) | (refine CondX.ff ?_; conv => whnf))
    refine arg_ok (join_hm hd hb) hst hsr 0 (by decide) ?_; conv => whnf
    refine arg_ok (join_hm hd hb) hst hsr 2 (by decide) ?_; conv => whnf
    refine CallX.fj hd (end_ok (aok 0) (aok 2) (by have := aW 0; have := aW 2; omega) fun b n c h1 he hn hd1 => ?_); conv => whnf
    refine RetX.same (hk (b, n, c) _ he hd1 ?_)
    rw [hspec]; exact hn
  by_cases h7 : o = 62
  · subst h7
    have hspec : reachI 62 (argI f.st) = endI (argI f.st 0) (argI f.st 2) := rfl
    repeat (first | (refine CondX.tt ?_; conv => whnf) | (refine CondX.ff ?_; conv => whnf))
    refine arg_ok (join_hm hd hb) hst hsr 0 (by decide) ?_; conv => whnf
    refine arg_ok (join_hm hd hb) hst hsr 2 (by decide) ?_; conv => whnf
    refine CallX.fj hd (end_ok (aok 0) (aok 2) (by have := aW 0; have := aW 2; omega) fun b n c h1 he hn hd1 => ?_); conv => whnf
    refine RetX.same (hk (b, n, c) _ he hd1 ?_)
    rw [hspec]; exact hn
  by_cases h8 : o = 60
  · subst h8
    have hspec : reachI 60 (argI f.st) = endI (argI f.st 1) (argI f.st 3) := rfl
    repeat (first | (refine CondX.tt ?_; conv => whnf) | (refine CondX.ff ?_; conv => whnf))
    refine arg_ok (join_hm hd hb) hst hsr 1 (by decide) ?_; conv => whnf
    refine arg_ok (join_hm hd hb) hst hsr 3 (by decide) ?_; conv => whnf
    refine CallX.fj hd (end_ok (aok 1) (aok 3) (by have := aW 1; have := aW 3; omega) fun b n c h1 he hn hd1 => ?_); conv => whnf
    refine RetX.same (hk (b, n, c) _ he hd1 ?_)
    rw [hspec]; exact hn
  by_cases h9 : o = 81
  · subst h9
    have hspec : reachI 81 (argI f.st) = endI (argI f.st 0) 32 := rfl
    repeat (first | (refine CondX.tt ?_; conv => whnf) | (refine CondX.ff ?_; conv => whnf))
    refine arg_ok (join_hm hd hb) hst hsr 0 (by decide) ?_; conv => whnf
    refine CallX.fj hd (num_ok (by omega) (by omega) fun b0 n0 c0 h0 he0 hn0 hd0 => ?_); conv => whnf
    refine CallX.fj hd0 (end_ok ((aok 0).ext he0) hn0 (by have := aW 0; omega) fun b n c h1 he hn hd1 => ?_); conv => whnf
    refine RetX.same (hk (b, n, c) _ (he0.trans he) hd1 ?_)
    rw [hspec]; exact hn
  by_cases h10 : o = 82
  · subst h10
    have hspec : reachI 82 (argI f.st) = endI (argI f.st 0) 32 := rfl
    repeat (first | (refine CondX.tt ?_; conv => whnf) | (refine CondX.ff ?_; conv => whnf))
    refine arg_ok (join_hm hd hb) hst hsr 0 (by decide) ?_; conv => whnf
    refine CallX.fj hd (num_ok (by omega) (by omega) fun b0 n0 c0 h0 he0 hn0 hd0 => ?_); conv => whnf
    refine CallX.fj hd0 (end_ok ((aok 0).ext he0) hn0 (by have := aW 0; omega) fun b n c h1 he hn hd1 => ?_); conv => whnf
    refine RetX.same (hk (b, n, c) _ (he0.trans he) hd1 ?_)
    rw [hspec]; exact hn
  by_cases h11 : o = 83
  · subst h11
    have hspec : reachI 83 (argI f.st) = endI (argI f.st 0) 1 := rfl
    repeat (first | (refine CondX.tt ?_; conv => whnf) | (refine CondX.ff ?_; conv => whnf))
    refine arg_ok (join_hm hd hb) hst hsr 0 (by decide) ?_; conv => whnf
    refine CallX.fj hd (num_ok (by omega) (by omega) fun b0 n0 c0 h0 he0 hn0 hd0 => ?_); conv => whnf
    refine CallX.fj hd0 (end_ok ((aok 0).ext he0) hn0 (by have := aW 0; omega) fun b n c h1 he hn hd1 => ?_); conv => whnf
    refine RetX.same (hk (b, n, c) _ (he0.trans he) hd1 ?_)
    rw [hspec]; exact hn
  by_cases h12 : o = 94
  · subst h12
    have hspec : reachI 94 (argI f.st) = max (endI (argI f.st 0) (argI f.st 2)) (endI (argI f.st 1) (argI f.st 2)) := rfl
    repeat (first | (refine CondX.tt ?_; conv => whnf) | (refine CondX.ff ?_; conv => whnf))
    refine arg_ok (join_hm hd hb) hst hsr 0 (by decide) ?_; conv => whnf
    refine arg_ok (join_hm hd hb) hst hsr 2 (by decide) ?_; conv => whnf
    refine CallX.fj hd (end_ok (aok 0) (aok 2) (by have := aW 0; have := aW 2; omega) fun b0 n0 c0 h0 he0 hn0 hd0 => ?_); conv => whnf
    refine arg_ok (join_hm hd0 hb) (hst' he0) hsr 1 (by decide) ?_; conv => whnf
    refine arg_ok (join_hm hd0 hb) (hst' he0) hsr 2 (by decide) ?_; conv => whnf
    refine CallX.fj hd0 (end_ok ((aok 1).ext he0) ((aok 2).ext he0) (by have := aW 1; have := aW 2; omega) fun b n c h1 he hn hd1 => ?_); conv => whnf
    refine CallX.fj hd1 (maxNat_ok (hn0.ext he) hn fun b n c hn2 hd2 => ?_); conv => whnf
    refine RetX.same (hk (b, n, c) _ (he0.trans he) hd1 ?_)
    rw [hspec]; exact hn2
  by_cases h13 : o = 240
  · subst h13
    have hspec : reachI 240 (argI f.st) = endI (argI f.st 1) (argI f.st 2) := rfl
    repeat (first | (refine CondX.tt ?_; conv => whnf) | (refine CondX.ff ?_; conv => whnf))
    refine arg_ok (join_hm hd hb) hst hsr 1 (by decide) ?_; conv => whnf
    refine arg_ok (join_hm hd hb) hst hsr 2 (by decide) ?_; conv => whnf
    refine CallX.fj hd (end_ok (aok 1) (aok 2) (by have := aW 1; have := aW 2; omega) fun b n c h1 he hn hd1 => ?_); conv => whnf
    refine RetX.same (hk (b, n, c) _ he hd1 ?_)
    rw [hspec]; exact hn
  by_cases h14 : o = 245
  · subst h14
    have hspec : reachI 245 (argI f.st) = endI (argI f.st 1) (argI f.st 2) := rfl
    repeat (first | (refine CondX.tt ?_; conv => whnf) | (refine CondX.ff ?_; conv => whnf))
    refine arg_ok (join_hm hd hb) hst hsr 1 (by decide) ?_; conv => whnf
    refine arg_ok (join_hm hd hb) hst hsr 2 (by decide) ?_; conv => whnf
    refine CallX.fj hd (end_ok (aok 1) (aok 2) (by have := aW 1; have := aW 2; omega) fun b n c h1 he hn hd1 => ?_); conv => whnf
    refine RetX.same (hk (b, n, c) _ he hd1 ?_)
    rw [hspec]; exact hn
  by_cases h15 : o = 241
  · subst h15
    have hspec : reachI 241 (argI f.st) = max (endI (argI f.st 3) (argI f.st 4)) (endI (argI f.st 5) (argI f.st 6)) := rfl
    repeat (first | (refine CondX.tt ?_; conv => whnf) | (refine CondX.ff ?_; conv => whnf))
    refine arg_ok (join_hm hd hb) hst hsr 3 (by decide) ?_; conv => whnf
    refine arg_ok (join_hm hd hb) hst hsr 4 (by decide) ?_; conv => whnf
    refine CallX.fj hd (end_ok (aok 3) (aok 4) (by have := aW 3; have := aW 4; omega) fun b0 n0 c0 h0 he0 hn0 hd0 => ?_); conv => whnf
    refine arg_ok (join_hm hd0 hb) (hst' he0) hsr 5 (by decide) ?_; conv => whnf
    refine arg_ok (join_hm hd0 hb) (hst' he0) hsr 6 (by decide) ?_; conv => whnf
    refine CallX.fj hd0 (end_ok ((aok 5).ext he0) ((aok 6).ext he0) (by have := aW 5; have := aW 6; omega) fun b n c h1 he hn hd1 => ?_); conv => whnf
    refine CallX.fj hd1 (maxNat_ok (hn0.ext he) hn fun b n c hn2 hd2 => ?_); conv => whnf
    refine RetX.same (hk (b, n, c) _ (he0.trans he) hd1 ?_)
    rw [hspec]; exact hn2
  by_cases h16 : o = 242
  · subst h16
    have hspec : reachI 242 (argI f.st) = max (endI (argI f.st 3) (argI f.st 4)) (endI (argI f.st 5) (argI f.st 6)) := rfl
    repeat (first | (refine CondX.tt ?_; conv => whnf) | (refine CondX.ff ?_; conv => whnf))
    refine arg_ok (join_hm hd hb) hst hsr 3 (by decide) ?_; conv => whnf
    refine arg_ok (join_hm hd hb) hst hsr 4 (by decide) ?_; conv => whnf
    refine CallX.fj hd (end_ok (aok 3) (aok 4) (by have := aW 3; have := aW 4; omega) fun b0 n0 c0 h0 he0 hn0 hd0 => ?_); conv => whnf
    refine arg_ok (join_hm hd0 hb) (hst' he0) hsr 5 (by decide) ?_; conv => whnf
    refine arg_ok (join_hm hd0 hb) (hst' he0) hsr 6 (by decide) ?_; conv => whnf
    refine CallX.fj hd0 (end_ok ((aok 5).ext he0) ((aok 6).ext he0) (by have := aW 5; have := aW 6; omega) fun b n c h1 he hn hd1 => ?_); conv => whnf
    refine CallX.fj hd1 (maxNat_ok (hn0.ext he) hn fun b n c hn2 hd2 => ?_); conv => whnf
    refine RetX.same (hk (b, n, c) _ (he0.trans he) hd1 ?_)
    rw [hspec]; exact hn2
  by_cases h17 : o = 244
  · subst h17
    have hspec : reachI 244 (argI f.st) = max (endI (argI f.st 2) (argI f.st 3)) (endI (argI f.st 4) (argI f.st 5)) := rfl
    repeat (first | (refine CondX.tt ?_; conv => whnf) | (refine CondX.ff ?_; conv => whnf))
    refine arg_ok (join_hm hd hb) hst hsr 2 (by decide) ?_; conv => whnf
    refine arg_ok (join_hm hd hb) hst hsr 3 (by decide) ?_; conv => whnf
    refine CallX.fj hd (end_ok (aok 2) (aok 3) (by have := aW 2; have := aW 3; omega) fun b0 n0 c0 h0 he0 hn0 hd0 => ?_); conv => whnf
    refine arg_ok (join_hm hd0 hb) (hst' he0) hsr 4 (by decide) ?_; conv => whnf
    refine arg_ok (join_hm hd0 hb) (hst' he0) hsr 5 (by decide) ?_; conv => whnf
    refine CallX.fj hd0 (end_ok ((aok 4).ext he0) ((aok 5).ext he0) (by have := aW 4; have := aW 5; omega) fun b n c h1 he hn hd1 => ?_); conv => whnf
    refine CallX.fj hd1 (maxNat_ok (hn0.ext he) hn fun b n c hn2 hd2 => ?_); conv => whnf
    refine RetX.same (hk (b, n, c) _ (he0.trans he) hd1 ?_)
    rw [hspec]; exact hn2
  by_cases h18 : o = 250
  · subst h18
    have hspec : reachI 250 (argI f.st) = max (endI (argI f.st 2) (argI f.st 3)) (endI (argI f.st 4) (argI f.st 5)) := rfl
    repeat (first | (refine CondX.tt ?_; conv => whnf) | (refine CondX.ff ?_; conv => whnf))
    refine arg_ok (join_hm hd hb) hst hsr 2 (by decide) ?_; conv => whnf
    refine arg_ok (join_hm hd hb) hst hsr 3 (by decide) ?_; conv => whnf
    refine CallX.fj hd (end_ok (aok 2) (aok 3) (by have := aW 2; have := aW 3; omega) fun b0 n0 c0 h0 he0 hn0 hd0 => ?_); conv => whnf
    refine arg_ok (join_hm hd0 hb) (hst' he0) hsr 4 (by decide) ?_; conv => whnf
    refine arg_ok (join_hm hd0 hb) (hst' he0) hsr 5 (by decide) ?_; conv => whnf
    refine CallX.fj hd0 (end_ok ((aok 4).ext he0) ((aok 5).ext he0) (by have := aW 4; have := aW 5; omega) fun b n c h1 he hn hd1 => ?_); conv => whnf
    refine CallX.fj hd1 (maxNat_ok (hn0.ext he) hn fun b n c hn2 hd2 => ?_); conv => whnf
    refine RetX.same (hk (b, n, c) _ (he0.trans he) hd1 ?_)
    rw [hspec]; exact hn2
  have hspec : reachI o (argI f.st) = 0 := by simp [reachI, *]
  by_cases h19 : 160 ≤ o
  · repeat (first | (refine CondX.tt ?_; conv => whnf) | (refine CondX.ff ?_; conv => whnf) | (refine CondX.eqF (by omega) ?_; conv => whnf) | (refine CondX.dF (by omega) ?_; conv => whnf) | (refine CondX.dT (by omega) ?_; conv => whnf))
    refine RetX.same (hk nilS _ (Ext.refl _) hd ?_)
    rw [hspec]; exact Nt_nil _
  · repeat (first | (refine CondX.tt ?_; conv => whnf) | (refine CondX.ff ?_; conv => whnf) | (refine CondX.eqF (by omega) ?_; conv => whnf) | (refine CondX.dF (by omega) ?_; conv => whnf) | (refine CondX.dT (by omega) ?_; conv => whnf))
    refine RetX.same (hk nilS _ (Ext.refl _) hd ?_)
    rw [hspec]; exact Nt_nil _
end
end Go.Proofs.YgvalwGreat.X
