import Derived.Test.YgvalwGreatE19
set_option linter.unusedVariables false
set_option linter.unusedSimpArgs false
namespace Go.Proofs.YgvalwGreat.X
open Go

/-- How many limbs are in use. -/
structure Used (l : List Int) (n : Nat) : Prop where
  le : n ≤ l.length
  zero : ∀ i, n ≤ i → l.getD i 0 = 0
  top : 0 < n → l.getD (n - 1) 0 ≠ 0
theorem lv_zeros {l : List Int} (h : ∀ i, l.getD i 0 = 0) : lv l = 0 := by
  induction l with
  | nil => rfl
  | cons d l ih =>
    have h0 := h 0
    simp only [List.getD_cons_zero] at h0
    rw [lv, h0, ih fun i => by have := h (i + 1); simpa using this]
    rfl
theorem Used.lv {l : List Int} {n : Nat} (u : Used l n) : X.lv l = X.lv (l.take n) := by
  have e : l = l.take n ++ l.drop n := (List.take_append_drop n l).symm
  rw [show X.lv l = X.lv (l.take n ++ l.drop n) from congrArg X.lv e, lv_append, lv_zeros (l := l.drop n) fun i => by
    rw [List.getD_eq_getElem?_getD, List.getElem?_drop, ← List.getD_eq_getElem?_getD]; exact u.zero _ (by omega)]
  omega
theorem Used.bd {l : List Int} {n : Nat} (u : Used l n) (hL : isL l) : X.lv l < 18446744073709551616 ^ n ∧ (0 < n → 18446744073709551616 ^ (n - 1) ≤ X.lv l) := by
  rw [u.lv]
  have t := lv_bd (l := l.take n) fun x hx => hL x (List.mem_of_mem_take hx)
  have hle := u.le
  rw [List.length_take, Nat.min_eq_left u.le] at t
  refine ⟨t.2, fun h0 => ?_⟩
  have ht := u.top h0
  have hg := hL.get (n - 1)
  have e := lv_take_succ (l := l) (k := n - 1) (by omega)
  rw [show n - 1 + 1 = n by omega] at e
  rw [e]
  have t2 := lv_bd (l := l.take (n - 1)) fun x hx => hL x (List.mem_of_mem_take hx)
  have := Int.mul_le_mul_of_nonneg_left (show (1 : Int) ≤ l.getD (n - 1) 0 by have := hg.1; omega) (show (0 : Int) ≤ 18446744073709551616 ^ (n - 1) from Int.le_of_lt (Int.pow_pos (by decide)))
  rw [Int.mul_one] at this
  omega
section
variable {h : Hp} {K : Value → Hp → Prop} {l : List Int}
set_option maxRecDepth 100000 in
set_option maxHeartbeats 4000000 in
theorem eLimbs_ok (hl : l.length = 4) (hk : ∀ n : Nat, Used l n → K (.int .u8 n) h) : CallX Hval.prog 237 [.agg (ul l).toArray] h K := by
  refine CallX.of_xf T_ok Hval.func237 rfl (by kernel_rfl) (Nat.le_of_ble_eq_true rfl) ?_; conv => whnf
  refine BoxX.mk fun n1 hn1 => ?_; conv => whnf
  have hb : hput h n1 (ul l, 75) n1 = some ([] ++ (ul l ++ []), 75) := by rw [hput_same]; simp
  refine LoopX.st T_ok Hval.func237 (σ := Nat) (fun i => [(1, .pointer (some ⟨n1, 0, none⟩)), (3, .int .u8 i)]) (fun i h' => h' = hput h n1 (ul l, 75) ∧ i ≤ 4 ∧ ∀ k, i ≤ k → l.getD k 0 = 0) (fun i => i) 4 ⟨rfl, rfl, trivial⟩ ⟨rfl, Nat.le_refl _, fun k hk => by rw [List.getD_eq_getElem?_getD, List.getElem?_eq_none (by omega)]; rfl⟩ ?_
  rintro i ρ h' ⟨rfl, hi, hz⟩ ih
  conv => whnf
  have fin : (0 < i → l.getD (i - 1) 0 ≠ 0) → K (.int .u8 i) h := fun ht => hk i ⟨by omega, hz, ht⟩
  refine CondX.decI (fun hc => ?_) (fun hc => ?_) <;> conv => whnf
  · repeat (first | (refine CondX.tt ?_; conv => whnf) | (refine CondX.ff ?_; conv => whnf))
    have e4 : IntKind.u8.wrap (((i : Nat) : Int) - 1) = ((i - 1 : Nat) : Int) := by rw [wrap_u8]; omega
    rw [e4]
    refine Ob.mk (by omega) ?_; conv => whnf
    repeat (first | (refine CondX.tt ?_; conv => whnf) | (refine CondX.ff ?_; conv => whnf))
    refine LoadX.lim hb (i - 1) (by rw [Int.toNat_natCast, show (24, y24).snd.size = 1 from rfl, Nat.mul_one]; simp) (by omega) ?_; conv => whnf
    repeat (first | (refine CondX.tt ?_; conv => whnf) | (refine CondX.ff ?_; conv => whnf))
    refine CondX.eqI (fun hq => ?_) (fun hq => ?_) <;> conv => whnf
    · rw [e4]
      refine ih (i - 1) _ _ ⟨rfl, by omega, fun k hk => ?_⟩ (by omega) ⟨rfl, rfl, trivial⟩
      by_cases hki : k = i - 1
      · rw [hki]; exact hq
      · exact hz k (by omega)
    · exact RetX.drop (h' := h) (fun b x hb' => by have := hn1 b x hb'; rw [hput_ne (by omega)]; exact hb') (fin fun _ => hq)
  · repeat (first | (refine CondX.tt ?_; conv => whnf) | (refine CondX.ff ?_; conv => whnf))
    exact RetX.drop (h' := h) (fun b x hb' => by have := hn1 b x hb'; rw [hput_ne (by omega)]; exact hb') (fin fun hh => by omega)
end
end Go.Proofs.YgvalwGreat.X
