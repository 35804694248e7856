import Derived.Test.YgvalwGreatF23
set_option linter.unusedVariables false
set_option linter.unusedSimpArgs false
namespace Go.Proofs.YgvalwGreat.X
open Go

section
variable {h : Hp} {K : Value → Hp → Prop} {ba bb bc : Option Addr} {na ca nb cb nc cc : Nat} {x y z : Int}

/-- How many words an instruction takes and gives, and whether it is one. -/
def arI (o : Int) : Int × Int × Bool :=
  if famI o = 0 then (0, 0, false)
  else if 128 ≤ o ∧ o ≤ 143 then (o - 127, o - 126, true)
  else if 144 ≤ o ∧ o ≤ 159 then (o - 142, o - 142, true)
  else if 160 ≤ o ∧ o ≤ 164 then (o - 158, 0, true)
  else if o = 0 ∨ o = 91 then (0, 0, true)
  else if o = 255 ∨ o = 80 ∨ o = 86 then (1, 0, true)
  else if o = 8 ∨ o = 9 ∨ o = 240 then (3, 1, true)
  else if o = 21 ∨ o = 25 ∨ o = 49 ∨ o = 53 ∨ o = 59 ∨ o = 63 ∨ o = 64 ∨ o = 81 ∨ o = 84 ∨ o = 92 then (1, 1, true)
  else if o = 82 ∨ o = 83 ∨ o = 85 ∨ o = 93 ∨ o = 87 ∨ o = 243 ∨ o = 253 then (2, 0, true)
  else if o = 55 ∨ o = 57 ∨ o = 62 ∨ o = 94 then (3, 0, true)
  else if o = 60 then (4, 0, true)
  else if o = 245 then (4, 1, true)
  else if o = 241 ∨ o = 242 then (7, 1, true)
  else if o = 244 ∨ o = 250 then (6, 1, true)
  else if famI o = 1 then (2, 1, true)
  else (0, 1, true)

set_option maxRecDepth 100000 in
set_option maxHeartbeats 4000000 in
theorem arity_ok {o : Int} (h0 : 0 ≤ o) (h1 : o < 256) (hk : K (.tuple #[.int .i64 (arI o).1, .int .i64 (arI o).2.1, .bool (arI o).2.2]) h) : CallX Hval.prog 120 [.int .u8 o] h K := by
  refine CallX.of_xf T_ok Hval.func120 rfl (by kernel_rfl) (Nat.le_of_ble_eq_true rfl) ?_; conv => whnf
  have key : ∀ (a b : Int) (t : Bool), arI o = (a, b, t) → RetX K h (.tuple #[.int .i64 a, .int .i64 b, .bool t]) := fun a b t e => RetX.same (by rw [e] at hk; exact hk)
  refine family_ok h0 h1 ?_; conv => whnf
  refine CondX.eqI (fun hf => ?_) (fun hf => ?_) <;> conv => whnf
  · exact key _ _ _ (by rw [arI, if_pos hf])
  have e1 : 128 ≤ o → IntKind.i64.wrap (IntKind.i64.wrap (IntKind.u8.wrap (o - 128)) + 1) = o - 127 := fun _ => by rw [wrap_u8, wrap_i64 (x := (o - 128) % 256) (by omega) (by omega), wrap_i64 (by omega) (by omega)]; omega
  have e2 : 128 ≤ o → IntKind.i64.wrap (IntKind.i64.wrap (IntKind.u8.wrap (o - 128)) + 2) = o - 126 := fun _ => by rw [wrap_u8, wrap_i64 (x := (o - 128) % 256) (by omega) (by omega), wrap_i64 (by omega) (by omega)]; omega
  have e3 : 144 ≤ o → IntKind.i64.wrap (IntKind.i64.wrap (IntKind.u8.wrap (o - 144)) + 2) = o - 142 := fun _ => by rw [wrap_u8, wrap_i64 (x := (o - 144) % 256) (by omega) (by omega), wrap_i64 (by omega) (by omega)]; omega
  have e4 : 160 ≤ o → IntKind.i64.wrap (IntKind.i64.wrap (IntKind.u8.wrap (o - 160)) + 2) = o - 158 := fun _ => by rw [wrap_u8, wrap_i64 (x := (o - 160) % 256) (by omega) (by omega), wrap_i64 (by omega) (by omega)]; omega
  repeat' (first | (refine CondX.eqF (by assumption) ?_; conv => whnf) | (refine CondX.dF (by assumption) ?_; conv => whnf) | (refine CondX.dT (by assumption) ?_; conv => whnf) | (refine CondX.dT (by omega) ?_; conv => whnf) | (refine CondX.dF (by omega) ?_; conv => whnf) | (refine CondX.eqI (fun hh => (by subst hh; (conv => whnf); (repeat (first | (refine CondX.tt ?_; conv => whnf) | (refine CondX.ff ?_; conv => whnf))); exact key _ _ _ rfl)) (fun _ => ?_); conv => whnf) | (refine CondX.decI (fun _ => ?_) (fun _ => ?_) <;> conv => whnf) | (refine CondX.tt ?_; conv => whnf) | (refine CondX.ff ?_; conv => whnf))
  all_goals first
    | (refine family_ok h0 h1 ?_; conv => whnf)
    | (rw [e1 (by omega), e2 (by omega)])
    | (rw [e3 (by omega)])
    | (rw [e4 (by omega)])
  all_goals (try (refine CondX.eqI (fun _ => ?_) (fun _ => ?_) <;> conv => whnf))
  all_goals (refine key _ _ _ ?_; rw [arI, if_neg hf])
  all_goals (try (rw [if_pos (by omega)]; done))
  all_goals (try (rw [if_neg (by omega), if_pos (by omega)]; done))
  all_goals (try (rw [if_neg (by omega), if_neg (by omega), if_pos (by omega)]; done))
  all_goals (repeat (first | rw [if_neg (by omega)] | rw [if_pos (by assumption)] | rw [if_neg (by assumption)]))
end
end Go.Proofs.YgvalwGreat.X
