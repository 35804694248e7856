/-
  THE EXECUTOR IS SOUND (sixth part): built-ins, calls, guards, regions; the whole.
-/
import Derived.Test.YgvalwGreatXr
import Derived.Laws.Small
set_option linter.unusedVariables false
set_option linter.unusedSimpArgs false
namespace Go.Proofs.YgvalwGreat.X
open Go

section
variable {P : Program} {T : Nat → Option Ty} {n : Nat} {o : Oper} {ρ : Env} {h h' : Hp} {w w' : World} {K : Env → Hp → Prop} {Q : Exit → Act → World → Prop} {v : Value}

theorem copy_run (hT : TOk P T) {t u : TypeId} {e a1 a2 a3 a4} {y : Ty} (ht : T t = some ⟨.slice e, a1, a2, a3, a4⟩) (he : T e = some y) (hs : Sub h w)
    {db xb : Option Addr} {dl dc xl xc : Nat} {KK : Value → Hp → Prop} (ty : TypeId) (hx : CopyX h y.size db dl xb xl KK) :
    ∃ v h' w', (Builtin.copy_ #[t, u] ty #[.slice db dl dc, .slice xb xl xc]).run P w = .ok v w' ∧ KK v h' ∧ Sub h' w' ∧ Fr h w h' w' := by
  obtain ⟨cs, hr, hk⟩ := hx.run
  have hf : (Builtin.firstCells y.size (Nat.min xl dl) (.slice xb xl xc)).run P w = .ok cs.toArray w := rd_first hs hr
  cases db with
  | none =>
    refine ⟨_, h, w, ?_, hk, hs, Fr.refl _ _⟩
    simp only [Builtin.copy_, List.getElem?_toArray, List.getElem?_cons_zero, List.getElem?_cons_succ, Sem.run_bind, underlying, run_program, Result.andThen_ok, ((hT _ _ ht).u rfl), Sem.run_pure, Builtin.lenOf, sizeOf_run hT he, hf]
    rfl
  | some a =>
    obtain ⟨b, off, sp⟩ := a
    cases sp with
    | some s => exact hk.elim
    | none =>
      obtain ⟨c, t', hb, hle, h1, hk⟩ := hk
      obtain ⟨w', hst, hs', hf'⟩ := storeCells_run (P := P) cs hs (b := b) (o := off) (i := 0) hb (by omega) (oneCells_of_ones h1)
      refine ⟨_, _, w', ?_, hk, hs', hf'⟩
      simp only [Builtin.copy_, List.getElem?_toArray, List.getElem?_cons_zero, List.getElem?_cons_succ, Sem.run_bind, underlying, run_program, Result.andThen_ok, ((hT _ _ ht).u rfl), Sem.run_pure, Builtin.lenOf, sizeOf_run hT he, hf, hst]
      rfl

theorem clear_run (hT : TOk P T) {t : TypeId} {e a1 a2 a3 a4} {y : Ty} (ht : T t = some ⟨.slice e, a1, a2, a3, a4⟩) (he : T e = some y) (hs : Sub h w)
    {db : Option Addr} {dl dc : Nat} {KK : Hp → Prop} (ty : TypeId) (hx : ClearX h y.zero db dl KK) :
    ∃ h' w', (Builtin.clear_ #[t] ty #[.slice db dl dc]).run P w = .ok (.tuple #[]) w' ∧ KK h' ∧ Sub h' w' ∧ Fr h w h' w' := by
  obtain ⟨k0, k1⟩ := hx.run
  obtain ⟨i, z, hi, hsz, hby, hz, hzc⟩ := (hT _ _ he).info
  by_cases hd : dl = 0
  · subst hd
    refine ⟨h, w, ?_, k0 rfl, hs, Fr.refl _ _⟩
    cases db <;> simp [Builtin.clear_, underlying, ((hT _ _ ht).u rfl)]
  · have hk := k1 hd
    cases db with
    | none => exact hk.elim
    | some a =>
      obtain ⟨b, off, sp⟩ := a
      cases sp with
      | some s => exact hk.elim
      | none =>
        obtain ⟨c, t', hb, hle, h1, hk⟩ := hk
        obtain ⟨w', hst, hs', hf'⟩ := storeCells_run (P := P) (zeros y.zero dl) hs (b := b) (o := off) (i := 0) hb (by omega) (oneCells_of_ones h1)
        refine ⟨_, w', ?_, hk, hs', hf'⟩
        obtain ⟨m, rfl⟩ : ∃ m, dl = m + 1 := ⟨dl - 1, by omega⟩
        simp [Builtin.clear_, underlying, ((hT _ _ ht).u rfl), zeroValue, typeInfo, hi, hz, hzc, zeroCells_eq, hst]

theorem builtin_run (hT : TOk P T) {b : Builtin} {ts : List TypeId} {args : List Value} {KK : Value → Hp → Prop} (ty : TypeId) (hs : Sub h w) (hx : xbuiltin T b ts args h KK) :
    ∃ v h' w', (∀ cs : Array Bool, (builtin b ts.toArray ty cs args.toArray).run P w = .ok (.value v) w') ∧ KK v h' ∧ Sub h' w' ∧ Fr h w h' w' := by
  unfold xbuiltin at hx
  split at hx
  · rename_i t x
    split at hx
    · rename_i ht
      exact ⟨_, h, w, by intro cs; simp [builtin, Builtin.len_, underlying, ((hT _ _ ht).u rfl), goInt], hx, hs, Fr.refl _ _⟩
    · rename_i ht
      exact ⟨_, h, w, by intro cs; simp [builtin, Builtin.len_, underlying, ((hT _ _ ht).u rfl), goInt], hx, hs, Fr.refl _ _⟩
    · rename_i ht
      exact ⟨_, h, w, by intro cs; simp [builtin, Builtin.len_, underlying, ((hT _ _ ht).u rfl), goInt], hx, hs, Fr.refl _ _⟩
    · exact hx.elim
  · rename_i t u base len cap xb m xc
    split at hx
    · rename_i e _ _ _ _ e' _ _ _ _ ht hu
      split at hx
      · rename_i y he
        obtain ⟨v, h', w', hr, hk, hs', hf'⟩ := append_slice (xc := xc) hT ht hu he hs ty hx
        exact ⟨v, h', w', by intro cs; simp [builtin, hr], hk, hs', hf'⟩
      · exact hx.elim
    · exact hx.elim
  · rename_i t u base len cap l
    split at hx
    · rename_i e _ _ _ _ k _ _ _ _ ht hu
      split at hx
      · rename_i y he
        obtain ⟨v, h', w', hr, hk, hs', hf'⟩ := append_zeros hT ht hu he hs ty hx.ob hx.go
        exact ⟨v, h', w', by intro cs; simp [builtin, hr], hk, hs', hf'⟩
      · exact hx.elim
    · exact hx.elim
  · rename_i t u db dl dc xb xl xc
    split at hx
    · rename_i e _ _ _ _ ht
      split at hx
      · rename_i y he
        obtain ⟨v, h', w', hr, hk, hs', hf'⟩ := copy_run (u := u) (dc := dc) (xc := xc) hT ht he hs ty hx
        exact ⟨v, h', w', by intro cs; simp [builtin, hr], hk, hs', hf'⟩
      · exact hx.elim
    · exact hx.elim
  · rename_i t db dl dc
    split at hx
    · rename_i e _ _ _ _ ht
      split at hx
      · rename_i y he
        obtain ⟨h', w', hr, hk, hs', hf'⟩ := clear_run (dc := dc) hT ht he hs ty hx
        exact ⟨_, h', w', by intro cs; simp [builtin, hr], hk, hs', hf'⟩
      · exact hx.elim
    · exact hx.elim
  · rename_i k x k' y
    exact ⟨_, h, w, by intro cs; simp [builtin, run_min_int2], hx, hs, Fr.refl _ _⟩
  · rename_i k x k' y
    exact ⟨_, h, w, by intro cs; simp [builtin, run_max_int2], hx, hs, Fr.refl _ _⟩
  · exact hx.elim

theorem x_call (hT : TOk P T) {c} (ho : o.op = .call c) (hs : Sub h w) (hx : xop P T n o ρ h K) : o.wp P (actOf n ρ) w (NextK n h w K) Q := by
  simp only [xop, ho] at hx
  split at hx
  · rename_i f hc
    have hx := evs_sound hx
    have hr := hx.run w hs
    have hargs : (List.map (ev n ρ) c.args.toList).toArray = c.args.map (ev n ρ) := by
      apply Array.ext'; simp
    have he : (execOp (ev n ρ) o).run P w = (callFunc f (List.map (ev n ρ) c.args.toList).toArray).run P w := by
      rw [hargs]; simp [execOp, ho, resolve, hc, ev, Deferred.ofValue, invoke]
    unfold Oper.wp
    rw [actOf_evalF, he]
    generalize (callFunc f (List.map (ev n ρ) c.args.toList).toArray).run P w = r at hr
    cases r with
    | halt x w1 => exact hr.elim
    | ok x w1 =>
      cases x with
      | enter g xs =>
        obtain ⟨rfl, hcalls⟩ := hr
        refine Calls.mono hcalls ?_
        rintro e w'' ⟨v, h', rfl, hk, hs', hf'⟩
        exact ⟨_, h', actOf_put .., force_sound hk, hs', hf'⟩
      | value v =>
        obtain ⟨h', hk, hs', hf'⟩ := hr
        exact ⟨_, h', actOf_put .., force_sound hk, hs', hf'⟩
      | _ => exact hr.elim
  · rename_i b hc
    have hx := evs_sound hx
    obtain ⟨v, h', w', hr, hk, hs', hf'⟩ := builtin_run hT o.type hs hx
    refine s_val ?_ hk hs' hf'
    have hargs : (List.map (ev n ρ) c.args.toList).toArray = c.args.map (ev n ρ) := by
      apply Array.ext'; simp
    rw [hargs] at hr
    simp only [execOp, ho, resolve, hc, Sem.run_bind, Sem.run_pure, Result.andThen_ok, invoke]
    exact hr _
  · exact hx.elim

end
end Go.Proofs.YgvalwGreat.X
