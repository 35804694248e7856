/-
  THE EXECUTOR IS SOUND (third part): comparisons, conversions, slices, literals, built-ins, calls.
-/
import Derived.Test.YgvalwGreatXo
import Derived.Laws.MakeOwn
import Derived.Laws.Pointers
set_option linter.unusedVariables false
set_option linter.unusedSimpArgs false
namespace Go.Proofs.YgvalwGreat.X
open Go

section
variable {P : Program} {T : Nat → Option Ty} {n : Nat} {o : Oper} {ρ : Env} {h h' : Hp} {w w' : World} {K : Env → Hp → Prop} {Q : Exit → Act → World → Prop} {v : Value}

theorem part_int (hT : TOk P T) {e k a1 a2 a3 a4} (he : T e = some ⟨.int k, a1, a2, a3, a4⟩) (xs : Array Value) (i : Nat) {v} (hv : xs[i]? = some v) (w : World) :
    (part e xs i).run P w = .ok v w := by
  have ha : (isAgg e).run P w = .ok false w := by
    have := isAgg_run hT he w
    rw [(hT _ _ he).agg] at this
    exact this
  simp [part, ha, hv]

theorem intCells_get {k : IntKind} : ∀ {l : List Value} (_ : intCells k l = true) {i : Nat} {v : Value} (_ : l[i]? = some v), ∃ x : Int, v = Value.int k x := by
  intro l
  induction l with
  | nil => intro _ i v hv; simp at hv
  | cons a l ih =>
    intro hl i v hv
    cases a with
    | int k' x =>
      simp only [intCells, Bool.and_eq_true, decide_eq_true_eq] at hl
      obtain ⟨rfl, hl⟩ := hl
      cases i with
      | zero => simp at hv; exact ⟨_, hv.symm⟩
      | succ i => exact ih hl (by simpa using hv)
    | _ => simp [intCells] at hl

/-- What '==' over two arrays of integers comes to: a walk over the places. -/
theorem forIn_eq {P : Program} {w : World} (d : Nat) (e : TypeId) (k : IntKind) (he : P.underlying e = some (.int k)) (sz : Nat)
    (f : Nat → Option Bool × Unit → Sem (ForInStep (Option Bool × Unit))) (xs ys : List Value) (hx : intCells k xs = true) (hy : intCells k ys = true)
    (hf : ∀ i a b, xs[i]? = some (Value.int k a) → ys[i]? = some (Value.int k b) → ∀ r, (f i r).run P w = if a == b then .ok (.yield (none, ())) w else .ok (.done (some false, ())) w) :
    ∀ (m : Nat) (_ : m ≤ xs.length) (_ : xs.length = ys.length), (forIn (List.range' m (xs.length - m)) ((none, ()) : Option Bool × Unit) f).run P w =
      .ok (if eqCells (xs.drop m) (ys.drop m) then (none, ()) else (some false, ())) w := by
  intro m hm hl
  generalize hq : xs.length - m = q
  induction q generalizing m with
  | zero =>
    have : m = xs.length := by omega
    subst this
    rw [List.drop_of_length_le (Nat.le_refl _), List.drop_of_length_le (by omega)]
    simp [eqCells]
  | succ q ih =>
    have h1 : m < xs.length := by omega
    have h2 : m < ys.length := by omega
    obtain ⟨a, ha⟩ := intCells_get hx (i := m) (v := xs[m]) (by simp [h1])
    obtain ⟨b, hb⟩ := intCells_get hy (i := m) (v := ys[m]) (by simp [h2])
    rw [List.range'_succ, List.forIn_cons, Sem.run_bind, hf m a b (by simp [h1, ha]) (by simp [h2, hb])]
    rw [List.drop_eq_getElem_cons h1, List.drop_eq_getElem_cons h2, ha, hb]
    by_cases hab : a = b
    · subst hab
      simp only [BEq.rfl, if_true, Result.andThen_ok, eqCells, Bool.true_and]
      exact ih (m + 1) (by omega) (by omega)
    · have : (a == b) = false := by simpa using hab
      simp [this, eqCells]

theorem equalIn_arr (hT : TOk P T) {t len e k b1 b2 b3 b4 a1 a2 a3 a4} (ht : T t = some ⟨.array len e, b1, b2, b3, b4⟩) (he : T e = some ⟨.int k, a1, a2, a3, a4⟩) (h1 : a2 = 1)
    (xs ys : Array Value) (hx : xs.size = len) (hy : ys.size = len) (ix : intCells k xs.toList = true) (iy : intCells k ys.toList = true) (d : Nat) (w : World) :
    (Op.equalIn (d + 2) t (.agg xs) (.agg ys)).run P w = .ok (eqCells xs.toList ys.toList) w := by
  subst h1
  rw [Op.equalIn]
  simp only [Sem.run_bind, underlying, run_program, Result.andThen_ok, ((hT _ _ ht).u rfl), Sem.run_pure, sizeOf_run hT he, Std.Legacy.Range.forIn_eq_forIn_range']
  have hund : P.underlying e = some (.int k) := ((hT _ _ he).u rfl)
  have key := forIn_eq (P := P) (w := w) (d + 1) e k hund 1 (fun i _ => do
          let a ← part e xs (i * 1)
          let b ← part e ys (i * 1)
          let c ← Op.equalIn (d + 1) e a b
          if (!c) = true then pure (ForInStep.done (some false, ())) else pure (ForInStep.yield (none, ()))) xs.toList ys.toList ix iy ?_ 0 (Nat.zero_le _) (by simp [hx, hy])
  · simp only [List.drop_zero, Nat.sub_zero] at key
    have hl : xs.toList.length = [:len].size := by simp [Std.Legacy.Range.size, hx]
    rw [hl] at key
    rw [key]
    split <;> simp_all
  · intro i a b ha hb r
    have ha' : xs[i * 1]? = some (Value.int k a) := by simpa using ha
    have hb' : ys[i * 1]? = some (Value.int k b) := by simpa using hb
    simp only [Sem.run_bind, part_int hT he xs _ ha', part_int hT he ys _ hb', Result.andThen_ok, run_equalIn_int w d e k k a b hund, Sem.run_ite, Sem.run_pure]
    cases a == b <;> simp

theorem eqGuardType_arr (hT : TOk P T) {t len e k b1 b2 b3 b4 a1 a2 a3 a4} (ht : T t = some ⟨.array len e, b1, b2, b3, b4⟩) (he : T e = some ⟨.int k, a1, a2, a3, a4⟩) :
    P.eqGuardType P.depth t = false := by
  have h1 : P.underlying t = some (.array len e) := ((hT _ _ ht).u rfl)
  have h2 : P.underlying e = some (.int k) := ((hT _ _ he).u rfl)
  have hd : P.depth = (2 * (P.types.size + Made.depth)) + 1 + 1 := rfl
  rw [hd]
  simp [Program.eqGuardType, h1, h2]

theorem eqGuard_other {op : BinOp} {t : TypeId} {x y : Operand} {a b : Value} (h1 : ∀ xs, a ≠ .agg xs) (h2 : a ≠ .nilIface) (w : World) :
    (eqGuard op t x y a b).run P w = .ok () w := by
  simp only [eqGuard]
  cases a <;> first | exact absurd rfl (h1 _) | exact absurd rfl h2 | (split <;> rfl)

theorem equalIn_ptr {t e : TypeId} (hu : P.underlying t = some (.pointer e)) (p : Option Addr) (d : Nat) (w : World) :
    (Op.equalIn (d + 1) t (.pointer p) (.pointer none)).run P w = .ok p.isNone w := by
  rw [Op.equalIn]
  cases p <;> simp [underlying, hu]
theorem equalIn_sl {t e : TypeId} (hu : P.underlying t = some (.slice e)) (p : Option Addr) (l c l' c' d : Nat) (w : World) :
    (Op.equalIn (d + 1) t (.slice p l c) (.slice none l' c')).run P w = .ok p.isNone w := by
  rw [Op.equalIn]
  cases p <;> simp [underlying, hu]
theorem bin_eql_ptr {t : TypeId} (p q : Option Addr) (w : World) {b : Bool} (hq : (Op.equal t (.pointer p) (.pointer q)).run P w = .ok b w) :
    (binOp .eql t (.pointer p) (.pointer q)).run P w = .ok (.bool b) w := by
  have : binOp .eql t (.pointer p) (.pointer q) = (do pure (.bool (← Op.equal t (.pointer p) (.pointer q)))) := rfl
  rw [this]; simp [hq]
theorem bin_neq_ptr {t : TypeId} (p q : Option Addr) (w : World) {b : Bool} (hq : (Op.equal t (.pointer p) (.pointer q)).run P w = .ok b w) :
    (binOp .neq t (.pointer p) (.pointer q)).run P w = .ok (.bool !b) w := by
  have : binOp .neq t (.pointer p) (.pointer q) = (do pure (.bool (!(← Op.equal t (.pointer p) (.pointer q))))) := rfl
  rw [this]; simp [hq]
theorem bin_eql_sl {t : TypeId} (p q : Option Addr) (l c l' c' : Nat) (w : World) {b : Bool} (hq : (Op.equal t (.slice p l c) (.slice q l' c')).run P w = .ok b w) :
    (binOp .eql t (.slice p l c) (.slice q l' c')).run P w = .ok (.bool b) w := by
  have : binOp .eql t (.slice p l c) (.slice q l' c') = (do pure (.bool (← Op.equal t (.slice p l c) (.slice q l' c')))) := rfl
  rw [this]; simp [hq]
theorem bin_neq_sl {t : TypeId} (p q : Option Addr) (l c l' c' : Nat) (w : World) {b : Bool} (hq : (Op.equal t (.slice p l c) (.slice q l' c')).run P w = .ok b w) :
    (binOp .neq t (.slice p l c) (.slice q l' c')).run P w = .ok (.bool !b) w := by
  have : binOp .neq t (.slice p l c) (.slice q l' c') = (do pure (.bool (!(← Op.equal t (.slice p l c) (.slice q l' c'))))) := rfl
  rw [this]; simp [hq]

theorem x_binEq (hT : TOk P T) {op t x y t2} (ho : o.op = .binOp op t x y t2)
    (hni : ∀ k a k' b, ¬ (ev n ρ x = .int k a ∧ ev n ρ y = .int k' b))
    (hx : xop P T n o ρ h K) : QV P n o ρ h K := by
  simp only [xop, ho] at hx
  split at hx
  · rename_i k a k' b ha hb; exact absurd ⟨ha, hb⟩ (hni _ _ _ _)
  · unfold eqB at hx
    split at hx
    · rename_i a b ha hb
      split at hx
      · rename_i ht
        refine ⟨_, fun w hs => ?_, hx⟩
        simp [execOp, ho, ha, hb, eqGuard_other, run_eql_bool w t a b ((hT _ _ ht).u rfl)]
      · exact hx.elim
    · rename_i a b ha hb
      split at hx
      · rename_i ht
        refine ⟨_, fun w hs => ?_, hx⟩
        simp [execOp, ho, ha, hb, eqGuard_other, run_neq_bool w t a b ((hT _ _ ht).u rfl)]
      · exact hx.elim
    · rename_i a b ha hb
      unfold strB at hx
      have hbin : ∀ op, binOp op t (.string a) (.string b) = Op.stringOp op a b := by intro op; cases op <;> rfl
      split at hx
      all_goals first
        | exact hx.elim
        | (refine ⟨_, fun w hs => ?_, hx⟩
           simp [execOp, ho, ha, hb, eqGuard_other, hbin, Op.stringOp])
    · rename_i p ha hb
      split at hx
      · rename_i e _ _ _ _ ht
        refine ⟨_, fun w hs => ?_, hx⟩
        have hu : P.underlying t = some (.pointer e) := ((hT _ _ ht).u rfl)
        simp [execOp, ho, ha, hb, eqGuard_other, bin_eql_ptr p none w (equalIn_ptr hu p 9999 w)]
      · exact hx.elim
    · rename_i p ha hb
      split at hx
      · rename_i e _ _ _ _ ht
        refine ⟨_, fun w hs => ?_, hx⟩
        have hu : P.underlying t = some (.pointer e) := ((hT _ _ ht).u rfl)
        simp [execOp, ho, ha, hb, eqGuard_other, bin_neq_ptr p none w (equalIn_ptr hu p 9999 w)]
      · exact hx.elim
    · rename_i p _ _ _ _ ha hb
      split at hx
      · rename_i e _ _ _ _ ht
        refine ⟨_, fun w hs => ?_, hx⟩
        have hu : P.underlying t = some (.slice e) := ((hT _ _ ht).u rfl)
        simp [execOp, ho, ha, hb, eqGuard_other, bin_eql_sl _ none _ _ _ _ w (equalIn_sl hu _ _ _ _ _ 9999 w)]
      · exact hx.elim
    · rename_i p _ _ _ _ ha hb
      split at hx
      · rename_i e _ _ _ _ ht
        refine ⟨_, fun w hs => ?_, hx⟩
        have hu : P.underlying t = some (.slice e) := ((hT _ _ ht).u rfl)
        simp [execOp, ho, ha, hb, eqGuard_other, bin_neq_sl _ none _ _ _ _ w (equalIn_sl hu _ _ _ _ _ 9999 w)]
      · exact hx.elim
    · rename_i xs ys ha hb
      split at hx
      · rename_i len e _ _ _ _ ht
        split at hx
        · rename_i k _ _ _ _ he
          obtain ⟨hxs, hys, ix, iy⟩ := hx.ob
          refine ⟨_, fun w hs => ?_, hx.go⟩
          have hq : (Op.equal t (.agg xs) (.agg ys)).run P w = .ok (eqCells xs.toList ys.toList) w := equalIn_arr hT ht he ((hT _ _ he).one _ rfl) xs ys hxs hys ix iy 9998 w
          have hbin : (binOp .eql t (.agg xs) (.agg ys)) = (do pure (.bool (← Op.equal t (.agg xs) (.agg ys)))) := rfl
          simp [execOp, ho, ha, hb, run_eqGuard_agg w .eql t x y xs ys (eqGuardType_arr hT ht he), hbin, hq]
        · exact hx.elim
      · exact hx.elim
    · rename_i xs ys ha hb
      split at hx
      · rename_i len e _ _ _ _ ht
        split at hx
        · rename_i k _ _ _ _ he
          obtain ⟨hxs, hys, ix, iy⟩ := hx.ob
          refine ⟨_, fun w hs => ?_, hx.go⟩
          have hq : (Op.equal t (.agg xs) (.agg ys)).run P w = .ok (eqCells xs.toList ys.toList) w := equalIn_arr hT ht he ((hT _ _ he).one _ rfl) xs ys hxs hys ix iy 9998 w
          have hbin : (binOp .neq t (.agg xs) (.agg ys)) = (do pure (.bool (!(← Op.equal t (.agg xs) (.agg ys))))) := rfl
          simp [execOp, ho, ha, hb, run_eqGuard_agg w .neq t x y xs ys (eqGuardType_arr hT ht he), hbin, hq]
        · exact hx.elim
      · exact hx.elim
    · exact hx.elim

end
end Go.Proofs.YgvalwGreat.X
