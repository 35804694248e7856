/-
  REGIONS THAT DRAW THEIR ORDER: the canonical run stands for every order (proof).
-/
import Derived.Test.YgvalwGreatXd
import Derived.Orders
set_option linter.unusedVariables false
set_option linter.unusedSimpArgs false
namespace Go.Proofs.YgvalwGreat.X
open Go

section
variable {P : Program} {T : Nat → Option Ty} {n : Nat} {o : Oper} {ρ : Env} {h : Hp} {K : Env → Hp → Prop} {ops : List Oper} {anc : List (List Nat)} {Q : Exit → Act → World → Prop}

def hE : Hp := fun _ => none

theorem xop_any (hc : ∀ c, o.op ≠ .call c) (hq : quietB o = true) (hr : readsB T o = false) (hx : xop P T n o ρ h K) : xop P T n o ρ hE (fun ρ' _ => K ρ' h) := by
  cases ho : o.op with
  | load t x => simp [readsB, ho] at hr
  | convert s d x =>
    simp only [readsB, ho] at hr
    simp only [xop, ho] at hx ⊢
    split at hr
    · rename_i hd
      rw [hd] at hx ⊢
      generalize ev n ρ x = vx at hx ⊢
      generalize T s = ts at hx ⊢
      split at hx
      · exact hx
      · rename_i h2; cases h2
      · exact hx.elim
    · cases hr
  | call c => exact absurd ho (hc c)
  | _ => first | (simp [quietB, ho] at hq; done) | (simp only [xop, ho] at hx ⊢; exact hx)

theorem call_yields (hT : TOk P T) {c : Call} (ho : o.op = .call c) (hq : quietB o = true) (hx : xop P T n o ρ h K) :
    ∃ v, (∀ w, (execOp (ev n ρ) o).run P w = .ok (.value v) w) ∧ K (put ρ o.dst v) h := by
  simp only [quietB, ho] at hq
  have hargs : (List.map (ev n ρ) c.args.toList).toArray = c.args.map (ev n ρ) := by
    apply Array.ext'; simp
  simp only [xop, ho] at hx
  split at hq
  · rename_i hc
    simp only [hc] at hx
    obtain ⟨v, hr, hk⟩ := len_quiet (P := P) hT (evs_sound hx)
    refine ⟨v, fun w => ?_, hk⟩
    rw [hargs] at hr
    simp only [execOp, ho, resolve, hc, Sem.run_bind, Sem.run_pure, Result.andThen_ok, invoke]
    exact hr _ _ w
  · rename_i hc
    simp only [hc] at hx
    obtain ⟨v, hr, hk⟩ := min_quiet (P := P) (evs_sound hx)
    refine ⟨v, fun w => ?_, hk⟩
    rw [hargs] at hr
    simp only [execOp, ho, resolve, hc, Sem.run_bind, Sem.run_pure, Result.andThen_ok, invoke]
    exact hr _ _ w
  · rename_i hc
    simp only [hc] at hx
    obtain ⟨v, hr, hk⟩ := max_quiet (P := P) (evs_sound hx)
    refine ⟨v, fun w => ?_, hk⟩
    rw [hargs] at hr
    simp only [execOp, ho, resolve, hc, Sem.run_bind, Sem.run_pure, Result.andThen_ok, invoke]
    exact hr _ _ w
  · cases hq

/-- What a quiet operation yields, and where. -/
def YQ (P : Program) (T : Nat → Option Ty) (n : Nat) (ops : List Oper) (o : Oper) (h : Hp) (v : Value) (ρ : Env) : Prop :=
  (Region.wanted o (yielded ops.toArray (actOf n ρ).tmps) = true ∧ (∀ w, Sub h w → (execOp (actOf n ρ).eval o).run P w = .ok (.value v) w) ∧
    (readsB T o = false → ∀ w, (execOp (actOf n ρ).eval o).run P w = .ok (.value v) w)) ∨
  (Region.wanted o (yielded ops.toArray (actOf n ρ).tmps) = false ∧ v = undef)

theorem xop_yields (hT : TOk P T) (hq : quietB o = true) (hx : xop P T n o ρ h K) :
    ∃ v, (∀ w, Sub h w → (execOp (ev n ρ) o).run P w = .ok (.value v) w) ∧ (readsB T o = false → ∀ w, (execOp (ev n ρ) o).run P w = .ok (.value v) w) ∧ K (put ρ o.dst v) h := by
  by_cases hc : ∃ c, o.op = .call c
  · obtain ⟨c, hc⟩ := hc
    obtain ⟨v, h1, h2⟩ := call_yields hT hc hq hx
    exact ⟨v, fun w _ => h1 w, fun _ => h1, h2⟩
  · cases hr : readsB T o with
    | false =>
      obtain ⟨v, h1, h2⟩ := xop_quiet hT hq (xop_any (fun c h => hc ⟨c, h⟩) hq hr hx)
      exact ⟨v, fun w _ => h1 w (fun _ _ _ hb => by cases hb), fun _ w => h1 w (fun _ _ _ hb => by cases hb), h2⟩
    | true =>
      obtain ⟨v, h1, h2⟩ := xop_quiet hT hq hx
      exact ⟨v, h1, fun hc => Bool.noConfusion hc, h2⟩

theorem xopg_quiet (hT : TOk P T) (hq : quietB o = true) (hx : xopg P T n ops o ρ h K) :
    ∃ v ρ', YQ P T n ops o h v ρ ∧ actOf n ρ' = actOf n (put ρ o.dst v) ∧ K ρ' h := by
  have main : ∀ ρ1 : Env, ρ1 = ρ → Region.wanted o (yielded ops.toArray (actOf n ρ).tmps) = true → xop P T n o ρ1 h K → ∃ v ρ', YQ P T n ops o h v ρ ∧ actOf n ρ' = actOf n (put ρ o.dst v) ∧ K ρ' h := by
    intro ρ1 he hw hx'
    clear hx
    subst he
    obtain ⟨v, h1, h2, h3⟩ := xop_yields hT hq hx'
    refine ⟨v, _, .inl ⟨hw, ?_, ?_⟩, rfl, h3⟩
    · rw [actOf_evalF]; exact h1
    · rw [actOf_evalF]; exact h2
  have skip : ∀ ρ1 : Env, ρ1 = ρ → Region.wanted o (yielded ops.toArray (actOf n ρ).tmps) = false → K (put ρ1 o.dst undef) h → ∃ v ρ', YQ P T n ops o h v ρ ∧ actOf n ρ' = actOf n (put ρ o.dst v) ∧ K ρ' h := by
    intro ρ1 he hw hx'
    clear hx
    subst he
    exact ⟨undef, _, .inr ⟨hw, rfl⟩, rfl, hx'⟩
  unfold xopg at hx
  split at hx
  · rename_i hg
    exact main ρ rfl (by simp [Region.wanted, hg]) hx
  · rename_i j want hg
    split at hx
    · exact hx.elim
    · rename_i oj hj
      split at hx
      · exact hx.elim
      · rename_i d hd
        have hy := yielded_ofFn (n := n) (ρ := ρ) ops hj hd
        have hw : Region.wanted o (yielded ops.toArray (actOf n ρ).tmps) = (yielded ops.toArray (actOf n ρ).tmps j == some want) := by simp [Region.wanted, hg]
        rw [hy] at hw
        split at hx
        · rename_i t he
          have hb := ev_tmp (v := .bool t) (by simp [undef]) he
          rw [he] at hw
          cases t with
          | true => exact main _ (put_self hb.2) (hw.trans (by simp)) (hx.t rfl)
          | false => exact skip _ (put_self hb.2) (hw.trans (by simp)) (hx.f rfl)
        · rename_i t he
          have hb := ev_tmp (v := .bool t) (by simp [undef]) he
          rw [he] at hw
          cases t with
          | true => exact skip _ (put_self hb.2) (hw.trans (by simp)) (hx.t rfl)
          | false => exact main _ (put_self hb.2) (hw.trans (by simp)) (hx.f rfl)
        · rename_i vs _ he
          rw [he] at hw
          exact skip ρ rfl (hw.trans (by simp)) hx
        · exact hx.elim

/-- What an operation does hangs on what it looks at. -/
theorem look_exec {ρ ρ' : Env} (hs : ∀ cs b, o.op ≠ .select cs b) (hl : ∀ t ∈ o.looksAt ops.toArray, ρ t = ρ' t) :
    execOp (actOf n ρ).eval o = execOp (actOf n ρ').eval o ∧ Region.wanted o (yielded ops.toArray (actOf n ρ).tmps) = Region.wanted o (yielded ops.toArray (actOf n ρ').tmps) := by
  constructor
  · refine execOp_congr o hs fun x hx => ?_
    rw [actOf_eval, actOf_eval]
    cases x with
    | tmp t =>
      have : ρ t = ρ' t := hl t (List.mem_append_left _ (List.mem_filterMap.2 ⟨.tmp t, by simpa using hx, rfl⟩))
      simp only [ev, this]
    | _ => rfl
  · unfold Region.wanted
    cases hg : o.guard with
    | none => rfl
    | some gw =>
      obtain ⟨g, want⟩ := gw
      have hy : yielded ops.toArray (actOf n ρ).tmps g = yielded ops.toArray (actOf n ρ').tmps g := by
        cases hj : ops[g]? with
        | none => simp [yielded, hj]
        | some oj =>
          cases hd : oj.dst with
          | none => simp [yielded, hj, hd]
          | some d =>
            rw [yielded_ofFn ops hj hd, yielded_ofFn ops hj hd]
            have : ρ d = ρ' d := hl d (List.mem_append_right _ (by simp [hg, hj, hd]))
            simp only [ev, this]
      simp only [hy]

theorem YQ.look {v : Value} {ρ ρ' : Env} (hs : ∀ cs b, o.op ≠ .select cs b) (hl : ∀ t ∈ o.looksAt ops.toArray, ρ' t = ρ t) (hy : YQ P T n ops o h v ρ) : YQ P T n ops o h v ρ' := by
  obtain ⟨h1, h2⟩ := look_exec (n := n) hs hl
  unfold YQ at *
  rw [h1, h2]
  exact hy

theorem YQ.wpOp {i : Nat} {v : Value} {w : World} {KK : Act → World → Prop} (hi : ops[i]? = some o) (hy : YQ P T n ops o h v ρ) (hs : Sub h w) (hk : KK (actOf n (put ρ o.dst v)) w) :
    wpOp P ops.toArray Q i KK (actOf n ρ) w := by
  rw [← actOf_put] at hk
  unfold Go.wpOp
  have : ops.toArray[i]? = some o := by simpa using hi
  simp only [this]
  rcases hy with ⟨hw, hv, -⟩ | ⟨hw, rfl⟩
  · simp only [hw, if_true, Oper.wp, hv w hs, Oper.upon]; exact .inl hk
  · simp only [hw, Bool.false_eq_true, if_false]; exact hk

/-- A loud operation seen from another state that looks the same to it. -/
theorem wp_look {a ac : Act} {w : World} {K2 : Act → World → Prop} {K1 : Env → Hp → Prop} (he : execOp a.eval o = execOp ac.eval o)
    (hk : ∀ v w', NextK n h w K1 (ac.put o.dst v) w' → K2 (a.put o.dst v) w') (hx : o.wp P ac w (NextK n h w K1) (fun _ _ _ => False)) : o.wp P a w K2 Q := by
  unfold Oper.wp at *
  rw [he]
  generalize (execOp ac.eval o).run P w = r at *
  cases r with
  | ok nx w' =>
    cases nx <;> simp only [Oper.upon] at hx ⊢
    case value u => exact hk _ _ hx
    case skip => exact hk _ _ hx
    case defer d =>
      obtain ⟨ρ', h', h1, -⟩ := hx
      have := congrArg Act.defers h1
      cases hd : o.dst <;> simp [hd, Act.put, actOf] at this
    case enter f args =>
      refine Calls.mono hx fun e w'' he => ?_
      cases e with
      | returned u => exact hk _ _ he
      | panicked c => exact he.elim
      | outgrown => obtain ⟨_, _, hf⟩ := he; exact hf.elim
    case row row args => exact Rows.mono hx fun u w'' he => hk _ _ he
  | halt x w' =>
    cases x <;> simp only [Oper.upon] at hx ⊢ <;> first | exact hx.elim | exact hx

end
end Go.Proofs.YgvalwGreat.X
