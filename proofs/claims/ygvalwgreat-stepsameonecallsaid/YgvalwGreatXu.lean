/-
  THE EXECUTOR IS SOUND (seventh part): guards, regions, the todo-list, the function.
-/
import Derived.Test.YgvalwGreatXt
set_option linter.unusedVariables false
set_option linter.unusedSimpArgs false
namespace Go.Proofs.YgvalwGreat.X
open Go

section
variable {P : Program} {T : Nat → Option Ty} {n : Nat} {o : Oper} {ρ : Env} {h h' : Hp} {w w' : World} {K : Env → Hp → Prop} {Q : Exit → Act → World → Prop} {v : Value}

theorem xop_sound (hT : TOk P T) (hs : Sub h w) (hx : xop P T n o ρ h K) : o.wp P (actOf n ρ) w (NextK n h w K) Q := by
  cases ho : o.op with
  | move x => exact (x_move ho hx).wp hs
  | assign x => exact (x_assign ho hx).wp hs
  | pick c a b => exact (x_pick ho hx).wp hs
  | alloc t => exact x_alloc hT ho hs hx
  | box t x => exact x_box ho hs hx
  | build t ps => exact (x_build hT ho hx).wp hs
  | buildSlice t l ps => exact x_buildSlice hT ho hs hx
  | load t x => exact (x_load hT ho hx).wp hs
  | store t x y => exact x_store hT ho hs hx
  | nilCheck x => exact (x_nilCheck ho hx).wp hs
  | binOp op t x y t2 =>
    by_cases hi : ∃ k a k' b, ev n ρ x = .int k a ∧ ev n ρ y = .int k' b
    · obtain ⟨k, a, k', b, ha, hb⟩ := hi
      exact (x_binInt ho ha hb hx).wp hs
    · exact (x_binEq hT ho (fun k a k' b hab => hi ⟨k, a, k', b, hab⟩) hx).wp hs
  | unOp op t x => exact (x_unOp ho hx).wp hs
  | convert s d x => exact (x_convert hT ho hx).wp hs
  | sliceToArrayPointer t x => exact (x_sliceToArr hT ho hx).wp hs
  | makeSlice t l c => exact x_makeSlice hT ho hs hx
  | slice t x l h m => exact (x_slice hT ho hx).wp hs
  | fieldAddr s x f => exact (x_fieldAddr hT ho hx).wp hs
  | field s x f => exact (x_field hT ho hx).wp hs
  | indexAddr t x i => exact (x_indexAddr hT ho hx).wp hs
  | index t x i => exact (x_index hT ho hx).wp hs
  | extract x i => exact (x_extract ho hx).wp hs
  | call c => exact x_call hT ho hs hx
  | _ => simp [xop, ho] at hx

theorem put_self {d : Nat} (hd : ρ d = v) : put ρ (some d) v = ρ := by
  funext t
  simp only [put]
  cases hb : Nat.beq t d
  · rfl
  · have := Nat.eq_of_beq_eq_true hb; subst this; exact hd.symm

theorem ev_tmp {d : Nat} (hv : v ≠ undef) (he : ev n ρ (.tmp d) = v) : d < n ∧ ρ d = v := by
  simp only [ev] at he
  cases hb : Nat.blt d n
  · rw [hb] at he; exact absurd he.symm hv
  · rw [hb] at he; exact ⟨Nat.blt_eq.mp hb, he⟩

theorem yielded_ofFn (ops : List Oper) {j : Nat} {oj : Oper} {d : Nat} (hj : ops[j]? = some oj) (hd : oj.dst = some d) :
    yielded ops.toArray (actOf n ρ).tmps j = (match ev n ρ (.tmp d) with | .bool b => some b | _ => none) := by
  simp only [yielded, List.getElem?_toArray, hj, Option.bind_some, hd, actOf, Array.getElem?_ofFn, ev]
  by_cases hn : d < n
  · have : Nat.blt d n = true := Nat.blt_eq.mpr hn
    rw [this]
    simp only [hn, dif_pos, cond_true]
    cases ρ d <;> rfl
  · have : Nat.blt d n = false := by
      cases hb : Nat.blt d n
      · rfl
      · exact absurd (Nat.blt_eq.mp hb) hn
    rw [this]
    simp [hn, undef]

/-- What an operation under its guard comes to. -/
theorem xopg_sound (hT : TOk P T) (ops : List Oper) (hs : Sub h w) (hx : xopg P T n ops o ρ h K) :
    if Region.wanted o (yielded ops.toArray (actOf n ρ).tmps) then o.wp P (actOf n ρ) w (NextK n h w K) Q else NextK n h w K ((actOf n ρ).put o.dst undef) w := by
  unfold xopg at hx
  split at hx
  · rename_i hg
    rw [if_pos (by simp [Region.wanted, hg])]
    exact xop_sound hT hs hx
  · rename_i j want hg
    split at hx
    · exact hx.elim
    · rename_i oj hj
      split at hx
      · exact hx.elim
      · rename_i d hd
        have hy := yielded_ofFn (n := n) (ρ := ρ) ops hj hd
        have hw : Region.wanted o (yielded ops.toArray (actOf n ρ).tmps) = (yielded ops.toArray (actOf n ρ).tmps j == some want) := by simp [Region.wanted, hg]
        rw [hw, hy]
        split at hx
        · rename_i t he
          have hb := ev_tmp (v := .bool t) (by simp [undef]) he
          rw [he]
          cases t with
          | true =>
            rw [if_pos (by simp)]
            have := hx.t rfl
            rw [put_self hb.2] at this
            exact xop_sound hT hs this
          | false =>
            rw [if_neg (by simp)]
            have := hx.f rfl
            rw [put_self hb.2] at this
            exact ⟨_, h, actOf_put .., this, hs, Fr.refl _ _⟩
        · rename_i t he
          have hb := ev_tmp (v := .bool t) (by simp [undef]) he
          rw [he]
          cases t with
          | true =>
            rw [if_neg (by simp)]
            have := hx.t rfl
            rw [put_self hb.2] at this
            exact ⟨_, h, actOf_put .., this, hs, Fr.refl _ _⟩
          | false =>
            rw [if_pos (by simp)]
            have := hx.f rfl
            rw [put_self hb.2] at this
            exact xop_sound hT hs this
        · rename_i vs _ he
          rw [he]
          rw [if_neg (by simp)]
          exact ⟨_, h, actOf_put .., hx, hs, Fr.refl _ _⟩
        · exact hx.elim

/-- The end of a region, seen from its start. -/
def QN (n : Nat) (h : Hp) (w : World) (K : Env → Hp → Prop) (e : Exit) (a : Act) (w' : World) : Prop := e = .normal ∧ NextK n h w K a w'

theorem xops_sound (hT : TOk P T) {K' : Env → Hp → Prop} (hKK : ∀ ρ h, K ρ h → K' ρ h) (ops : List Oper) (h0 : Hp) (w0 : World) (os : List Oper) : ∀ (ρ : Env) (h : Hp) (w : World), Sub h w → Fr h0 w0 h w → xops P T n ops os ρ h K →
    wpList P ops.toArray (QN n h0 w0 K') os (actOf n ρ) w := by
  induction os with
  | nil => intro ρ h w hs hf hx; exact ⟨rfl, ρ, h, rfl, hKK _ _ hx, hs, hf⟩
  | cons o os ih =>
    intro ρ h w hs hf hx
    have hg := xopg_sound (Q := QN n h0 w0 K') hT ops hs (show xopg P T n ops o ρ h (fun ρ' h' => xops P T n ops os ρ' h' K) from hx)
    unfold wpList
    split at hg
    · rename_i hw
      rw [if_pos hw]
      refine .inl (Oper.wp_mono ?_ hg)
      rintro a w1 ⟨ρ', h', rfl, hk, hs', hf'⟩
      exact ih ρ' h' w1 hs' (hf.trans hf') hk
    · rename_i hw
      rw [if_neg hw]
      obtain ⟨ρ', h', ha, hk, hs', hf'⟩ := hg
      rw [ha]
      exact ih ρ' h' w hs' (hf.trans hf') hk
end

section
variable {P : Program} {T : Nat → Option Ty} {f : FuncId} {n : Nat} {K : Value → Hp → Prop} {ρ : Env} {h : Hp}

theorem Good.step {todo todo' : List Item} (hg : Good P f n K todo' ρ h)
    (hst : ∀ (w : World) (cs : List Frame) (b : Frame), step P (lone (b.at (actOf n ρ) todo) cs w) = .next (lone (b.at (actOf n ρ) todo') cs w)) : Good P f n K todo ρ h := by
  intro w cs b hb hk hs
  obtain ⟨v, h', w', fr, h1, h2, h3, h4, h5, h6⟩ := hg w cs b hb hk hs
  exact ⟨v, h', w', fr, h1, h2, h3, .head (hst w cs b) h4, h5, h6⟩

theorem Good.region {id : Nat} {ops : Array Oper} {k : List Item} {dr : Bool}
    (hwp : ∀ w, Sub h w → (Code.region id ops dr).wp P (QN n h w fun ρ' h' => Good P f n K k ρ' h') (actOf n ρ) w) : Good P f n K (.code (.region id ops dr) :: k) ρ h := by
  intro w cs b hb hk hs
  obtain ⟨e, a', w1, ⟨rfl, ρ', h1, rfl, hgood, hs1, hf1⟩, harr⟩ := hwp w hs b k cs
  obtain ⟨v, h', w', fr, g1, g2, g3, g4, g5, g6⟩ := hgood w1 cs b hb hk hs1
  exact ⟨v, h', w', fr, g1, g2, hf1.trans g3, Steps.trans harr g4, g5, g6⟩

theorem xres_sound (hT : TOk P T) {w : World} (hs : Sub h w) (rs : List ResultVar) : ∀ {kk : List Value → Prop}, xres T n ρ h rs kk →
    ∃ vs, kk vs ∧ (rs.mapM fun
      | .tmp t => pure ((actOf n ρ).tmps.getD t undef)
      | .cell a t => do loadVar t (← asAddr ((actOf n ρ).tmps.getD a undef)) : Sem (List Value)).run P w = .ok vs w := by
  induction rs with
  | nil => intro kk hx; exact ⟨[], hx, by simp⟩
  | cons r rs ih =>
    intro kk hx
    have hev : ∀ t, (actOf n ρ).tmps.getD t undef = ev n ρ (.tmp t) := fun t => actOf_eval n ρ (.tmp t)
    cases r with
    | tmp t =>
      have hx' := force_sound (show force (ev n ρ (.tmp t)) (fun v => xres T n ρ h rs fun vs => kk (v :: vs)) from hx)
      obtain ⟨vs, hk, hr⟩ := ih hx'
      refine ⟨_, hk, ?_⟩
      have e1 : (pure ((actOf n ρ).tmps.getD t undef) : Sem Value).run P w = .ok (ev n ρ (.tmp t)) w := by rw [hev]; rfl
      simp only [List.mapM_cons, Sem.run_bind, e1, Sem.run_pure, Result.andThen_ok, hr]
    | cell a t =>
      have hx' : (match ev n ρ (.tmp a) with
        | .pointer (some ⟨b, o, none⟩) => match T t with
          | some y => LoadX y.agg y.size h b o fun v => force v fun v => xres T n ρ h rs fun vs => kk (v :: vs)
          | none => False
        | _ => False) := hx
      split at hx'
      · rename_i b off ha
        split at hx'
        · rename_i y ht
          obtain ⟨v, hv, hk⟩ := hx'.run
          obtain ⟨vs, hk, hr⟩ := ih (force_sound hk)
          refine ⟨_, hk, ?_⟩
          have e1 : (asAddr ((actOf n ρ).tmps.getD a undef)).run P w = .ok ⟨b, off, none⟩ w := by rw [hev, ha]; rfl
          simp only [List.mapM_cons, Sem.run_bind, e1, Sem.run_pure, Result.andThen_ok, hr, loadVar_run hT ht hs hv]
        · exact hx'.elim
      · exact hx'.elim

theorem ret_sound (hT : TOk P T) {fn : Func} (hf : P.funcs[f]? = some fn) {w : World} (hs : Sub h w) (hx : xres T n ρ h fn.results.toList (retv K h)) :
    ∃ v, RetX K h v ∧ (results fn (actOf n ρ).tmps).run P w = .ok v w := by
  obtain ⟨vs, hk, hr⟩ := xres_sound hT hs _ hx
  unfold retv at hk
  have hrun : (results fn (actOf n ρ).tmps).run P w = .ok (if hv : vs.length = 1 then vs[0] else .tuple vs.toArray) w := by
    unfold results
    rw [Array.mapM_eq_mapM_toList]
    simp only [Sem.run_bind, Sem.run_map, Sem.run_pure]
    exact (congrArg (fun r : Result (List Value) => (r.andThen fun a w' => Result.ok a.toArray w').andThen fun a w' => Result.ok (if h : a.size = 1 then a[0] else Value.tuple a) w') hr).trans (by simp)
  split at hk
  · rename_i v
    exact ⟨v, hk, by rw [hrun]; simp⟩
  · rename_i hne
    refine ⟨_, hk, ?_⟩
    rw [hrun]
    have : ¬ vs.length = 1 := by
      intro hl
      cases vs with
      | nil => simp at hl
      | cons v vs =>
        cases vs with
        | nil => exact hne v rfl
        | cons a as => simp at hl
    simp [this]

theorem Good.ret (hT : TOk P T) {fn : Func} (hf : P.funcs[f]? = some fn) (hx : xres T n ρ h fn.results.toList (retv K h)) (k : List Item) : Good P f n K (.code .ret :: k) ρ h := by
  intro w cs b hb hk hs
  obtain ⟨v, ⟨h', hle, hkv⟩, hr⟩ := ret_sound hT hf hs hx
  refine ⟨v, h', w, _, hkv, hs.weaken hle, (Fr.refl _ _).weaken hle, .one step_ret, hb, ?_⟩
  exact ⟨rfl, rfl, hk, fn, by simpa [Frame.at, hb] using hf, hr⟩

theorem Good.done (hT : TOk P T) {fn : Func} (hf : P.funcs[f]? = some fn) (hx : xres T n ρ h fn.results.toList (retv K h)) : Good P f n K [] ρ h := by
  intro w cs b hb hk hs
  obtain ⟨v, ⟨h', hle, hkv⟩, hr⟩ := ret_sound hT hf hs hx
  refine ⟨v, h', w, _, hkv, hs.weaken hle, (Fr.refl _ _).weaken hle, .one step_end, hb, ?_⟩
  exact ⟨rfl, rfl, hk, fn, by simpa [Frame.at, hb] using hf, hr⟩

theorem xs_sound (hT : TOk P T) {fn : Func} (hf : P.funcs[f]? = some fn) (fuel : Nat) : ∀ (k : List Item) (ρ : Env) (h : Hp), xs P T f n fn.results.toList K fuel k ρ h → Good P f n K k ρ h := by
  induction fuel with
  | zero => intro k ρ h hx; exact hx.elim
  | succ fuel ih =>
    intro k ρ h hx
    replace hx : xst P T f n fn.results.toList K (fun k ρ h => xs P T f n fn.results.toList K fuel k ρ h) k ρ h := hx
    unfold xst at hx
    split at hx
    · exact Good.done hT hf hx
    · rename_i c k
      split at hx
      · exact Good.ret hT hf hx k
      · exact (ih _ _ _ hx).step fun w cs b => step_skip
      · rename_i id ops dr
        split at hx
        · refine Good.region fun w hs => wp_region_list ?_
          have := xops_sound hT (K' := fun ρ' h' => Good P f n K k ρ' h') (fun ρ' h' hh => ih _ _ _ hh) ops.toList h w ops.toList ρ h w hs (Fr.refl _ _) hx
          simpa using this
        · have := hx.run
          simpa using this
      · exact (ih _ _ _ hx).step fun w cs b => step_seq
      · rename_i c a b'
        split at hx
        · rename_i t ht
          have hc : (actOf n ρ).eval c = .bool t := by rw [actOf_eval]; exact ht
          cases t with
          | true => exact (ih _ _ _ (hx.t rfl)).step fun w cs b => by simpa using step_cond (P := P) (b := b) (k := k) (cs := cs) (w := w) (x := a) (y := b') hc
          | false => exact (ih _ _ _ (hx.f rfl)).step fun w cs b => by simpa using step_cond (P := P) (b := b) (k := k) (cs := cs) (w := w) (x := a) (y := b') hc
        · exact hx.elim
      · exact (ih _ _ _ hx).step fun w cs b => step_block
      · exact hx.run.step fun w cs b => step_loop
      · rename_i id
        split at hx
        · rename_i k' hk
          exact (ih _ _ _ hx).step fun w cs b => step_exit hk
        · exact hx.elim
      · exact hx.elim
    · exact (ih _ _ _ hx).step fun w cs b => step_inBlock
    · exact hx.run.step fun w cs b => step_inLoop
    · exact hx.elim

/-- A function's executor run is its contract. -/
theorem SC.of_xf (hT : TOk P T) {fn : Func} (hf : P.funcs[f]? = some fn) {args : List Value} (hlen : args.length ≤ fn.ntmps) (hx : xf P T f fn args h K) : SC P f args h K := by
  unfold xf at hx
  split at hx
  · rename_i c hb
    have hg := xs_sound hT hf _ _ _ _ hx
    intro w hs cs
    obtain ⟨v, h', w', fr, h1, h2, h3, h4, h5, h6⟩ := hg w cs { (default : Frame) with fn := f, kind := .normal } rfl rfl hs
    refine ⟨.returned v, w', fr, ⟨v, h', rfl, h1, h2, h3⟩, ?_, h5, h6⟩
    have henter : Frame.enter P f args.toArray .normal =
        ({ (default : Frame) with fn := f, kind := .normal } : Frame).at (actOf fn.ntmps (args2env args)) [.code c] := by
      simp only [Frame.enter, Frame.at, hf, hb, Option.map_some, Option.getD_some, Option.bind_some, actOf]
      congr 1
      apply Array.ext
      · simp; omega
      · intro i hi1 hi2
        simp only [Array.getElem_ofFn, args2env]
        by_cases hi : i < args.length
        · rw [Array.getElem_append_left (by simpa using hi)]; simp [hi]
        · rw [Array.getElem_append_right (by simpa using hi)]
          simp [List.getElem?_eq_none (Nat.le_of_not_lt hi)]
    rw [henter]
    exact h4
  · exact hx.elim

theorem CallX.of_SC {fn : Func} (hf : P.funcs[f]? = some fn) (hb : fn.body.isSome = true) (hn : (fn.name == "runtime.NumGoroutine") = false) {args : List Value} (hx : SC P f args h K) : CallX P f args h K := by
  refine ⟨fun w hs => ?_⟩
  have : (callFunc f args.toArray).run P w = .ok (.enter f args.toArray) w := by
    have hb' : fn.body.isNone = false := by cases hh : fn.body <;> simp_all
    simp only [callFunc, Sem.run_bind, run_program, Result.andThen_ok, hf, hn, Bool.false_eq_true, if_false, hb', Sem.run_pure]
  rw [this]
  exact ⟨rfl, hx w hs⟩

theorem CallX.of_xf (hT : TOk P T) {fn : Func} (hf : P.funcs[f]? = some fn) (hb : fn.body.isSome = true) (hn : (fn.name == "runtime.NumGoroutine") = false) {args : List Value} (hlen : args.length ≤ fn.ntmps)
    (hx : xf P T f fn args h K) : CallX P f args h K := CallX.of_SC hf hb hn (SC.of_xf hT hf hlen hx)

/-- A loop: an invariant and a measure that falls. -/
theorem LoopX.of_inv {c : Code} {k : List Item} (I : Env → Hp → Prop) (μ : Env → Hp → Nat) (h0 : I ρ h)
    (round : ∀ ρ h, I ρ h → (∀ ρ' h', I ρ' h' → μ ρ' h' < μ ρ h → LoopX P f n K c k ρ' h') → Good P f n K (.code c :: .inLoop c :: k) ρ h) : LoopX P f n K c k ρ h := by
  have key : ∀ m ρ h, μ ρ h = m → I ρ h → LoopX P f n K c k ρ h := by
    intro m
    induction m using Nat.strongRecOn with
    | _ m ih =>
      intro ρ h hm hI
      exact ⟨round ρ h hI fun ρ' h' hI' hlt => ih _ (hm ▸ hlt) ρ' h' rfl hI'⟩
  exact key _ ρ h rfl h0

end
end Go.Proofs.YgvalwGreat.X
