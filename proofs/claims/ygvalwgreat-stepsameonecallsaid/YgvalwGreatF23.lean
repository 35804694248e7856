import Derived.Test.YgvalwGreatF22
set_option linter.unusedVariables false
set_option linter.unusedSimpArgs false
namespace Go.Proofs.YgvalwGreat.X
open Go

theorem CondX.eqI {x y : Int} {A B : Prop} (t : x = y → A) (f : x ≠ y → B) : CondX (x == y) A B := ⟨fun h => t (eq_of_beq h), fun h => f (ne_of_beq_false h)⟩
theorem CondX.neI {x y : Int} {A B : Prop} (t : x ≠ y → A) (f : x = y → B) : CondX (x != y) A B := ⟨fun h => t (by simpa using h), fun h => f (by simpa using h)⟩
theorem CondX.decI {p : Prop} [Decidable p] {A B : Prop} (t : p → A) (f : ¬ p → B) : CondX (decide p) A B := ⟨fun h => t (of_decide_eq_true h), fun h => f (of_decide_eq_false h)⟩
theorem CondX.notI {b : Bool} {A B : Prop} (t : b = false → A) (f : b = true → B) : CondX (!b) A B := ⟨fun h => t (by simpa using h), fun h => f (by simpa using h)⟩

theorem CondX.eqT {x y : Int} {A B : Prop} (h : x = y) (a : A) : CondX (x == y) A B := CondX.eqI (fun _ => a) (fun hn => absurd h hn)
theorem CondX.eqF {x y : Int} {A B : Prop} (h : x ≠ y) (b : B) : CondX (x == y) A B := CondX.eqI (fun hn => absurd hn h) (fun _ => b)
theorem CondX.dT {p : Prop} [Decidable p] {A B : Prop} (h : p) (a : A) : CondX (decide p) A B := CondX.decI (fun _ => a) (fun hn => absurd h hn)
theorem CondX.dF {p : Prop} [Decidable p] {A B : Prop} (h : ¬ p) (b : B) : CondX (decide p) A B := CondX.decI (fun hn => absurd hn h) (fun _ => b)

section
variable {h : Hp} {K : Value → Hp → Prop} {ba bb bc : Option Addr} {na ca nb cb nc cc : Nat} {x y z : Int}

def famI (o : Int) : Int :=
  if o = 0 ∨ o = 243 ∨ o = 253 then 31
  else if (1 ≤ o ∧ o ≤ 11) ∨ (16 ≤ o ∧ o ≤ 29) ∨ o = 32 then 1
  else if (48 ≤ o ∧ o ≤ 72) ∨ (80 ≤ o ∧ o ≤ 83) ∨ o = 89 ∨ (94 ≤ o ∧ o ≤ 159) then 2
  else if (86 ≤ o ∧ o ≤ 88) ∨ o = 90 ∨ o = 91 then 4
  else if o = 84 ∨ o = 85 ∨ o = 92 ∨ o = 93 ∨ (160 ≤ o ∧ o ≤ 164) then 8
  else if o = 240 ∨ o = 241 ∨ o = 242 ∨ o = 244 ∨ o = 245 ∨ o = 250 ∨ o = 255 then 16 else 0

set_option maxRecDepth 100000 in
set_option maxHeartbeats 4000000 in
theorem family_ok {o : Int} (h0 : 0 ≤ o) (h1 : o < 256) (hk : K (.int .u8 (famI o)) h) : CallX Hval.prog 20 [.int .u8 o] h K := by
  refine CallX.of_xf T_ok Hval.func20 rfl (by kernel_rfl) (Nat.le_of_ble_eq_true rfl) ?_; conv => whnf
  have key : ∀ v : Int, famI o = v → RetX K h (.int .u8 v) := fun v e => RetX.same (e ▸ hk)
  repeat' (first | (refine CondX.eqF (by assumption) ?_; conv => whnf) | (refine CondX.dF (by assumption) ?_; conv => whnf) | (refine CondX.dT (by assumption) ?_; conv => whnf) | (refine CondX.dT (by omega) ?_; conv => whnf) | (refine CondX.dF (by omega) ?_; conv => whnf) | (refine CondX.eqI (fun hh => (by subst hh; (conv => whnf); (repeat (first | (refine CondX.tt ?_; conv => whnf) | (refine CondX.ff ?_; conv => whnf))); exact key _ rfl)) (fun _ => ?_); conv => whnf) | (refine CondX.decI (fun _ => ?_) (fun _ => ?_) <;> conv => whnf) | (refine CondX.tt ?_; conv => whnf) | (refine CondX.ff ?_; conv => whnf))
  all_goals (refine key _ ?_; unfold famI; repeat' split)
  all_goals first | rfl | omega
end
end Go.Proofs.YgvalwGreat.X
