/-
  THE EXECUTOR WITH A READ-ONLY HEAP BESIDE IT: what a function reads of its arguments' memory.
-/
import Derived.Test.YgvalwGreatXm
set_option linter.unusedVariables false
set_option linter.unusedSimpArgs false
namespace Go.Proofs.YgvalwGreat.X
open Go

/-- The world's cells, as a heap tells them. -/
def SubC (h : Hp) (w : World) : Prop := ∀ b c t, h b = some (c, t) → ∀ o, w.cell? ⟨b, o, none⟩ = c[o]?
/-- The read-only heap lies in the world, apart from the other. -/
def RO (R h : Hp) (w : World) : Prop := ∀ b c t, R b = some (c, t) → h b = none ∧ b < w.heap.size ∧ ∀ o, w.cell? ⟨b, o, none⟩ = c[o]?
theorem RO.next {R h h' : Hp} {w w' : World} (hr : RO R h w) (hf : Fr h w h' w') : RO R h' w' := fun b c t hb => by
  obtain ⟨h1, h2, h3⟩ := hr b c t hb
  have hk := hf.keep b h2 h1
  refine ⟨?_, Nat.lt_of_lt_of_le h2 hf.size, fun o => ?_⟩
  · cases hx : h' b with
    | none => rfl
    | some y => have := hf.new b h1 (by rw [hx]; simp); omega
  · rw [← h3 o]; simp only [World.cell?, hk]
theorem RO.sub {R h : Hp} {w : World} (hr : RO R h w) : SubC R w := fun b c t hb o => (hr b c t hb).2.2 o
theorem Sub.subC {h : Hp} {w : World} (hs : Sub h w) : SubC h w := fun _ _ _ hb _ => cell_of_sub hs hb
/-- A load out of the heap, or out of the read-only one. -/
structure LoadR (R : Hp) (agg : Bool) (sz : Nat) (h : Hp) (b o : Nat) (K : Value → Prop) : Prop where
  run : ∃ v, (ldV agg sz h b o = some v ∨ ldV agg sz R b o = some v) ∧ K v
structure CallR (R : Hp) (P : Program) (f : FuncId) (args : List Value) (h : Hp) (K : Value → Hp → Prop) : Prop where
  run : ∀ w, Sub h w → RO R h w → match (callFunc f args.toArray).run P w with
    | .ok (.enter g xs) w1 => w1 = w ∧ Calls P g xs w (RetK h w K)
    | .ok (.value v) w1 => ∃ h', K v h' ∧ Sub h' w1 ∧ Fr h w h' w1
    | _ => False
theorem CallX.toR {R : Hp} {P : Program} {f : FuncId} {args : List Value} {h : Hp} {K : Value → Hp → Prop} (c : CallX P f args h K) : CallR R P f args h K := ⟨fun w hs _ => c.run w hs⟩
structure CopyR (R h : Hp) (sz : Nat) (db : Option Addr) (dl : Nat) (xb : Option Addr) (xl : Nat) (K : Value → Hp → Prop) : Prop where
  run : ∃ cs, (rd h xb (Nat.min xl dl * sz) = some cs ∨ rd R xb (Nat.min xl dl * sz) = some cs ∨ (Nat.min xl dl = 0 ∧ cs = [])) ∧ match db with
      | none => K (.int .i64 (Nat.min xl dl : Nat)) h
      | some ⟨b, o, none⟩ => ∃ c t, h b = some (c, t) ∧ o + cs.length ≤ c.length ∧ ones cs = true ∧ K (.int .i64 (Nat.min xl dl : Nat)) (hput h b (setSeg c o cs, t))
      | _ => False
def xopR (R : Hp) (P : Program) (T : Nat → Option Ty) (n : Nat) (o : Oper) (ρ : Env) (h : Hp) (K : Env → Hp → Prop) : Prop :=
  match o.op with
  | .load t x => match ev n ρ x with
    | .pointer (some ⟨b, off, none⟩) => match T t with
      | some y => LoadR R y.agg y.size h b off fun v => force v fun v => K (put ρ o.dst v) h
      | none => False
    | _ => False
  | .call c => match c.callee with
    | .value (.func f) => evs n ρ c.args.toList fun zs => CallR R P f zs h fun v h' => force v fun v => K (put ρ o.dst v) h'
    | .builtin .copy => evs n ρ c.args.toList fun zs => match c.argTypes.toList, zs with
      | [t, _], [.slice db dl _, .slice xb xl _] => match T t with
        | some ⟨.slice e, _, _, _, _⟩ => match T e with
          | some y => CopyR R h y.size db dl xb xl fun v h' => K (put ρ o.dst v) h'
          | none => False
        | _ => False
      | _, _ => False
    | _ => xop P T n o ρ h K
  | _ => xop P T n o ρ h K
def xopgR (R : Hp) (P : Program) (T : Nat → Option Ty) (n : Nat) (ops : List Oper) (o : Oper) (ρ : Env) (h : Hp) (K : Env → Hp → Prop) : Prop :=
  match o.guard with
  | none => xopR R P T n o ρ h K
  | some (j, want) => match ops[j]? with
    | none => False
    | some oj => match oj.dst with
      | none => False
      | some d => match ev n ρ (.tmp d), want with
        | .bool t, true => CondX t (xopR R P T n o (put ρ (some d) (.bool true)) h K) (K (put (put ρ (some d) (.bool false)) o.dst undef) h)
        | .bool t, false => CondX t (K (put (put ρ (some d) (.bool true)) o.dst undef) h) (xopR R P T n o (put ρ (some d) (.bool false)) h K)
        | .tuple _, _ => K (put ρ o.dst undef) h
        | _, _ => False

def xopsR (R : Hp) (P : Program) (T : Nat → Option Ty) (n : Nat) (ops : List Oper) (os : List Oper) (ρ : Env) (h : Hp) (K : Env → Hp → Prop) : Prop :=
  List.rec (motive := fun _ => Env → Hp → (Env → Hp → Prop) → Prop) (fun ρ h K => K ρ h) (fun o _ ih ρ h K => xopgR R P T n ops o ρ h fun ρ' h' => ih ρ' h' K) os ρ h K


def GoodR (R : Hp) (P : Program) (f : FuncId) (n : Nat) (K : Value → Hp → Prop) (todo : List Item) (ρ : Env) (h : Hp) : Prop :=
  ∀ (w : World) (cs : List Frame) (b : Frame), b.fn = f → b.kind = .normal → Sub h w → RO R h w →
    ∃ v h' w' fr, K v h' ∧ Sub h' w' ∧ Fr h w h' w' ∧ Steps P (lone (b.at (actOf n ρ) todo) cs w) (lone fr cs w') ∧ fr.fn = f ∧ fr.leaving P w' (.returned v)
structure LoopR (R : Hp) (P : Program) (f : FuncId) (n : Nat) (K : Value → Hp → Prop) (c : Code) (k : List Item) (ρ : Env) (h : Hp) : Prop where
  run : GoodR R P f n K (.code c :: .inLoop c :: k) ρ h
def xstR (R : Hp) (P : Program) (T : Nat → Option Ty) (f : FuncId) (n : Nat) (rs : List ResultVar) (K : Value → Hp → Prop) (ih : List Item → Env → Hp → Prop) (k : List Item) (ρ : Env) (h : Hp) : Prop :=
  match k with
  | [] => xres T n ρ h rs (retv K h)
  | .code c :: k => match c with
    | .ret => xres T n ρ h rs (retv K h)
    | .skip => ih k ρ h
    | .region id ops dr => match dr with
      | false => xopsR R P T n ops.toList ops.toList ρ h fun ρ' h' => ih k ρ' h'
      | true => False
    | .seq a b => ih (.code a :: .code b :: k) ρ h
    | .cond c a b => match ev n ρ c with
      | .bool t => CondX t (ih (.code a :: k) ρ h) (ih (.code b :: k) ρ h)
      | _ => False
    | .block id c => ih (.code c :: .inBlock id :: k) ρ h
    | .loop c => LoopR R P f n K c k ρ h
    | .exit id => match exitTo id k with
      | some k' => ih k' ρ h
      | none => False
    | _ => False
  | .inBlock _ :: k => ih k ρ h
  | .inLoop c :: k => LoopR R P f n K c k ρ h
  | _ => False

def xsR (R : Hp) (P : Program) (T : Nat → Option Ty) (f : FuncId) (n : Nat) (rs : List ResultVar) (K : Value → Hp → Prop) (fuel : Nat) (k : List Item) (ρ : Env) (h : Hp) : Prop :=
  Nat.rec (motive := fun _ => List Item → Env → Hp → Prop) (fun _ _ _ => False) (fun _ ih k ρ h => xstR R P T f n rs K ih k ρ h) fuel k ρ h

def xfR (R : Hp) (P : Program) (T : Nat → Option Ty) (f : FuncId) (fn : Func) (args : List Value) (h : Hp) (K : Value → Hp → Prop) : Prop :=
  match fn.body with
  | some c => xsR R P T f fn.ntmps fn.results.toList K 10000 [.code c] (args2env args) h
  | none => False


section
variable {R : Hp} {P : Program} {T : Nat → Option Ty} {n : Nat} {o : Oper} {ρ : Env} {h h' : Hp} {w w' : World} {K : Env → Hp → Prop} {Q : Exit → Act → World → Prop} {v : Value}
theorem run_loadCells_segC (hs : SubC h w) {b o n : Nat} {c t} (hb : h b = some (c, t)) (hl : o + n ≤ c.length) :
    (loadCells ⟨b, o, none⟩ n).run P w = .ok (seg c o n).toArray w := by
  have := run_loadCells_list (P := P) (w := w) ⟨b, o, none⟩ (seg c o n) (fun j v hj => by
    have hjn : j < n := by have := (List.getElem?_eq_some_iff.1 hj).1; rw [seg_length hl] at this; exact this
    rw [add_none, hs b c t hb, ← seg_get hjn]; exact hj)
  rw [seg_length hl] at this
  exact this
theorem loadVar_runC (hT : TOk P T) {t y} (ht : T t = some y) (hs : SubC h w) {b o : Nat} {v}
    (hv : ldV y.agg y.size h b o = some v) : (loadVar t ⟨b, o, none⟩).run P w = .ok v w := by
  simp only [loadVar, Sem.run_bind, isAgg_run hT ht, Result.andThen_ok]
  unfold ldV at hv
  cases hb : h b with
  | none => simp [hb] at hv
  | some x =>
    obtain ⟨c, t'⟩ := x
    simp only [hb] at hv
    cases ha : y.agg with
    | true =>
      simp only [ha] at hv
      split at hv
      · rename_i hl
        cases hv
        simp [sizeOf_run hT ht, run_loadCells_segC hs hb hl]
      · cases hv
    | false =>
      simp only [ha] at hv
      simp [hs b c t' hb, hv]
theorem rd_firstC (hs : SubC h w) {base : Option Addr} {m sz len cap : Nat} {cs} (hr : rd h base (m * sz) = some cs) : (Builtin.firstCells sz m (.slice base len cap)).run P w = .ok cs.toArray w := by
  cases base with
  | none =>
    simp only [rd] at hr
    split at hr
    · cases hr; simp [Builtin.firstCells]
    · cases hr
  | some a =>
    obtain ⟨b, off, sp⟩ := a
    cases sp with
    | none =>
      simp only [rd] at hr
      split at hr
      · cases hr
      · rename_i c t hb
        split at hr
        · rename_i hl
          cases hr
          simp [Builtin.firstCells, run_loadCells_segC (P := P) hs hb hl]
        · cases hr
    | some s => simp [rd] at hr
theorem copy_runR (hT : TOk P T) {t u : TypeId} {e a1 a2 a3 a4} {y : Ty} (ht : T t = some ⟨.slice e, a1, a2, a3, a4⟩) (he : T e = some y) (hs : Sub h w) (hro : RO R h w)
    {db xb : Option Addr} {dl dc xl xc : Nat} {KK : Value → Hp → Prop} (ty : TypeId) (hx : CopyR R h y.size db dl xb xl KK) :
    ∃ v h' w', (Builtin.copy_ #[t, u] ty #[.slice db dl dc, .slice xb xl xc]).run P w = .ok v w' ∧ KK v h' ∧ Sub h' w' ∧ Fr h w h' w' := by
  obtain ⟨cs, hr, hk⟩ := hx.run
  have hf : (Builtin.firstCells y.size (Nat.min xl dl) (.slice xb xl xc)).run P w = .ok cs.toArray w := by
    rcases hr with hr | hr | ⟨h0, rfl⟩
    · exact rd_firstC hs.subC hr
    · exact rd_firstC hro.sub hr
    · rw [h0]
      cases xb with
      | none => simp [Builtin.firstCells]
      | some a =>
        have := run_loadCells_list (P := P) (w := w) a [] (fun j v hj => by simp at hj)
        simpa [Builtin.firstCells] using this
  cases db with
  | none =>
    refine ⟨_, h, w, ?_, hk, hs, Fr.refl _ _⟩
    simp only [Builtin.copy_, List.getElem?_toArray, List.getElem?_cons_zero, List.getElem?_cons_succ, Sem.run_bind, underlying, run_program, Result.andThen_ok, ((hT _ _ ht).u rfl), Sem.run_pure, Builtin.lenOf, sizeOf_run hT he, hf]
    rfl
  | some a =>
    obtain ⟨b, off, sp⟩ := a
    cases sp with
    | some s => exact hk.elim
    | none =>
      obtain ⟨c, t', hb, hle, h1, hk⟩ := hk
      obtain ⟨w', hst, hs', hf'⟩ := storeCells_run (P := P) cs hs (b := b) (o := off) (i := 0) hb (by omega) (oneCells_of_ones h1)
      refine ⟨_, _, w', ?_, hk, hs', hf'⟩
      simp only [Builtin.copy_, List.getElem?_toArray, List.getElem?_cons_zero, List.getElem?_cons_succ, Sem.run_bind, underlying, run_program, Result.andThen_ok, ((hT _ _ ht).u rfl), Sem.run_pure, Builtin.lenOf, sizeOf_run hT he, hf, hst]
      rfl

theorem xopR_sound (hT : TOk P T) (hs : Sub h w) (hr : RO R h w) (hx : xopR R P T n o ρ h K) : o.wp P (actOf n ρ) w (NextK n h w K) Q := by
  cases ho : o.op with
  | load t x =>
    simp only [xopR, ho] at hx
    split at hx
    · rename_i b off ha
      split at hx
      · rename_i y ht
        obtain ⟨v, hv, hk⟩ := hx.run
        refine s_val (v := v) (w' := w) ?_ (force_sound hk) hs (Fr.refl _ _)
        have hlv : (loadVar t ⟨b, off, none⟩).run P w = .ok v w := hv.elim (fun hv => loadVar_runC hT ht hs.subC hv) (fun hv => loadVar_runC hT ht hr.sub hv)
        simp [execOp, ho, Instr.loadAt, Instr.sureAddr, ha, hlv]
      · exact hx.elim
    · exact hx.elim
  | call c =>
    simp only [xopR, ho] at hx
    split at hx
    · rename_i f hc
      have hx := evs_sound hx
      have hr := hx.run w hs hr
      have hargs : (List.map (ev n ρ) c.args.toList).toArray = c.args.map (ev n ρ) := by
        apply Array.ext'; simp
      have he : (execOp (ev n ρ) o).run P w = (callFunc f (List.map (ev n ρ) c.args.toList).toArray).run P w := by
        rw [hargs]; simp [execOp, ho, resolve, hc, ev, Deferred.ofValue, invoke]
      unfold Oper.wp
      rw [actOf_evalF, he]
      generalize (callFunc f (List.map (ev n ρ) c.args.toList).toArray).run P w = r at hr
      cases r with
      | halt x w1 => exact hr.elim
      | ok x w1 =>
        cases x with
        | enter g xs =>
          obtain ⟨rfl, hcalls⟩ := hr
          refine Calls.mono hcalls ?_
          rintro e w'' ⟨v, h', rfl, hk, hs', hf'⟩
          exact ⟨_, h', actOf_put .., force_sound hk, hs', hf'⟩
        | value v =>
          obtain ⟨h', hk, hs', hf'⟩ := hr
          exact ⟨_, h', actOf_put .., force_sound hk, hs', hf'⟩
        | _ => exact hr.elim
    · rename_i hc
      have hx := evs_sound hx
      split at hx
      · rename_i t u db dl dc xb xl xc hts hzs
        split at hx
        · rename_i e a1 a2 a3 a4 ht
          split at hx
          · rename_i y he
            obtain ⟨v, h', w', hrun, hk, hs', hf'⟩ := copy_runR (u := u) (dc := dc) (xc := xc) hT ht he hs hr o.type hx
            refine s_val ?_ hk hs' hf'
            have hargs : (List.map (ev n ρ) c.args.toList).toArray = c.args.map (ev n ρ) := by
              apply Array.ext'; simp
            have ha : c.args.map (ev n ρ) = #[.slice db dl dc, .slice xb xl xc] := by rw [← hargs, hzs]
            have hts' : c.argTypes = #[t, u] := by rw [← hts]
            simp only [execOp, ho, resolve, hc, Sem.run_bind, Sem.run_pure, Result.andThen_ok, invoke, ha, hts']
            simp only [builtin, Sem.run_bind, hrun, Result.andThen_ok, Sem.run_pure, Sem.run_map]
          · exact hx.elim
        · exact hx.elim
      · exact hx.elim
    · exact x_call hT ho hs hx
  | _ => exact xop_sound hT hs (by simpa only [xopR, ho] using hx)
/-- What an operation under its guard comes to. -/
theorem xopgR_sound (hT : TOk P T) (ops : List Oper) (hs : Sub h w) (hr : RO R h w) (hx : xopgR R P T n ops o ρ h K) :
    if Region.wanted o (yielded ops.toArray (actOf n ρ).tmps) then o.wp P (actOf n ρ) w (NextK n h w K) Q else NextK n h w K ((actOf n ρ).put o.dst undef) w := by
  unfold xopgR at hx
  split at hx
  · rename_i hg
    rw [if_pos (by simp [Region.wanted, hg])]
    exact xopR_sound hT hs hr hx
  · rename_i j want hg
    split at hx
    · exact hx.elim
    · rename_i oj hj
      split at hx
      · exact hx.elim
      · rename_i d hd
        have hy := yielded_ofFn (n := n) (ρ := ρ) ops hj hd
        have hw : Region.wanted o (yielded ops.toArray (actOf n ρ).tmps) = (yielded ops.toArray (actOf n ρ).tmps j == some want) := by simp [Region.wanted, hg]
        rw [hw, hy]
        split at hx
        · rename_i t he
          have hb := ev_tmp (v := .bool t) (by simp [undef]) he
          rw [he]
          cases t with
          | true =>
            rw [if_pos (by simp)]
            have := hx.t rfl
            rw [put_self hb.2] at this
            exact xopR_sound hT hs hr this
          | false =>
            rw [if_neg (by simp)]
            have := hx.f rfl
            rw [put_self hb.2] at this
            exact ⟨_, h, actOf_put .., this, hs, Fr.refl _ _⟩
        · rename_i t he
          have hb := ev_tmp (v := .bool t) (by simp [undef]) he
          rw [he]
          cases t with
          | true =>
            rw [if_neg (by simp)]
            have := hx.t rfl
            rw [put_self hb.2] at this
            exact ⟨_, h, actOf_put .., this, hs, Fr.refl _ _⟩
          | false =>
            rw [if_pos (by simp)]
            have := hx.f rfl
            rw [put_self hb.2] at this
            exact xopR_sound hT hs hr this
        · rename_i vs _ he
          rw [he]
          rw [if_neg (by simp)]
          exact ⟨_, h, actOf_put .., hx, hs, Fr.refl _ _⟩
        · exact hx.elim

theorem xopsR_sound (hT : TOk P T) {K' : Env → Hp → Prop} (hKK : ∀ ρ h, K ρ h → K' ρ h) (ops : List Oper) (h0 : Hp) (w0 : World) (os : List Oper) : ∀ (ρ : Env) (h : Hp) (w : World), Sub h w → RO R h w → Fr h0 w0 h w → xopsR R P T n ops os ρ h K →
    wpList P ops.toArray (QN n h0 w0 K') os (actOf n ρ) w := by
  induction os with
  | nil => intro ρ h w hs hr hf hx; exact ⟨rfl, ρ, h, rfl, hKK _ _ hx, hs, hf⟩
  | cons o os ih =>
    intro ρ h w hs hr hf hx
    have hg := xopgR_sound (Q := QN n h0 w0 K') hT ops hs hr (show xopgR R P T n ops o ρ h (fun ρ' h' => xopsR R P T n ops os ρ' h' K) from hx)
    unfold wpList
    split at hg
    · rename_i hw
      rw [if_pos hw]
      refine .inl (Oper.wp_mono ?_ hg)
      rintro a w1 ⟨ρ', h', rfl, hk, hs', hf'⟩
      exact ih ρ' h' w1 hs' (hr.next hf') (hf.trans hf') hk
    · rename_i hw
      rw [if_neg hw]
      obtain ⟨ρ', h', ha, hk, hs', hf'⟩ := hg
      rw [ha]
      exact ih ρ' h' w hs' (hr.next hf') (hf.trans hf') hk
end
section
variable {R : Hp} {P : Program} {T : Nat → Option Ty} {f : FuncId} {n : Nat} {K : Value → Hp → Prop} {ρ : Env} {h : Hp}

theorem GoodR.step {todo todo' : List Item} (hg : GoodR R P f n K todo' ρ h)
    (hst : ∀ (w : World) (cs : List Frame) (b : Frame), step P (lone (b.at (actOf n ρ) todo) cs w) = .next (lone (b.at (actOf n ρ) todo') cs w)) : GoodR R P f n K todo ρ h := by
  intro w cs b hb hk hs hr
  obtain ⟨v, h', w', fr, h1, h2, h3, h4, h5, h6⟩ := hg w cs b hb hk hs hr
  exact ⟨v, h', w', fr, h1, h2, h3, .head (hst w cs b) h4, h5, h6⟩

theorem GoodR.region {id : Nat} {ops : Array Oper} {k : List Item} {dr : Bool}
    (hwp : ∀ w, Sub h w → RO R h w → (Code.region id ops dr).wp P (QN n h w fun ρ' h' => GoodR R P f n K k ρ' h') (actOf n ρ) w) : GoodR R P f n K (.code (.region id ops dr) :: k) ρ h := by
  intro w cs b hb hk hs hr
  obtain ⟨e, a', w1, ⟨rfl, ρ', h1, rfl, hgood, hs1, hf1⟩, harr⟩ := hwp w hs hr b k cs
  obtain ⟨v, h', w', fr, g1, g2, g3, g4, g5, g6⟩ := hgood w1 cs b hb hk hs1 (hr.next hf1)
  exact ⟨v, h', w', fr, g1, g2, hf1.trans g3, Steps.trans harr g4, g5, g6⟩

theorem GoodR.ret (hT : TOk P T) {fn : Func} (hf : P.funcs[f]? = some fn) (hx : xres T n ρ h fn.results.toList (retv K h)) (k : List Item) : GoodR R P f n K (.code .ret :: k) ρ h := by
  intro w cs b hb hk hs hr
  obtain ⟨v, ⟨h', hle, hkv⟩, hr⟩ := ret_sound hT hf hs hx
  refine ⟨v, h', w, _, hkv, hs.weaken hle, (Fr.refl _ _).weaken hle, .one step_ret, hb, ?_⟩
  exact ⟨rfl, rfl, hk, fn, by simpa [Frame.at, hb] using hf, hr⟩

theorem GoodR.done (hT : TOk P T) {fn : Func} (hf : P.funcs[f]? = some fn) (hx : xres T n ρ h fn.results.toList (retv K h)) : GoodR R P f n K [] ρ h := by
  intro w cs b hb hk hs hr
  obtain ⟨v, ⟨h', hle, hkv⟩, hr⟩ := ret_sound hT hf hs hx
  refine ⟨v, h', w, _, hkv, hs.weaken hle, (Fr.refl _ _).weaken hle, .one step_end, hb, ?_⟩
  exact ⟨rfl, rfl, hk, fn, by simpa [Frame.at, hb] using hf, hr⟩

theorem xsR_sound (hT : TOk P T) {fn : Func} (hf : P.funcs[f]? = some fn) (fuel : Nat) : ∀ (k : List Item) (ρ : Env) (h : Hp), xsR R P T f n fn.results.toList K fuel k ρ h → GoodR R P f n K k ρ h := by
  induction fuel with
  | zero => intro k ρ h hx; exact hx.elim
  | succ fuel ih =>
    intro k ρ h hx
    replace hx : xstR R P T f n fn.results.toList K (fun k ρ h => xsR R P T f n fn.results.toList K fuel k ρ h) k ρ h := hx
    unfold xstR at hx
    split at hx
    · exact GoodR.done hT hf hx
    · rename_i c k
      split at hx
      · exact GoodR.ret hT hf hx k
      · exact (ih _ _ _ hx).step fun w cs b => step_skip
      · rename_i id ops dr
        split at hx
        · refine GoodR.region fun w hs hr => wp_region_list ?_
          have := xopsR_sound hT (K' := fun ρ' h' => GoodR R P f n K k ρ' h') (fun ρ' h' hh => ih _ _ _ hh) ops.toList h w ops.toList ρ h w hs hr (Fr.refl _ _) hx
          simpa using this
        · exact hx.elim
      · exact (ih _ _ _ hx).step fun w cs b => step_seq
      · rename_i c a b'
        split at hx
        · rename_i t ht
          have hc : (actOf n ρ).eval c = .bool t := by rw [actOf_eval]; exact ht
          cases t with
          | true => exact (ih _ _ _ (hx.t rfl)).step fun w cs b => by simpa using step_cond (P := P) (b := b) (k := k) (cs := cs) (w := w) (x := a) (y := b') hc
          | false => exact (ih _ _ _ (hx.f rfl)).step fun w cs b => by simpa using step_cond (P := P) (b := b) (k := k) (cs := cs) (w := w) (x := a) (y := b') hc
        · exact hx.elim
      · exact (ih _ _ _ hx).step fun w cs b => step_block
      · exact hx.run.step fun w cs b => step_loop
      · rename_i id
        split at hx
        · rename_i k' hk
          exact (ih _ _ _ hx).step fun w cs b => step_exit hk
        · exact hx.elim
      · exact hx.elim
    · exact (ih _ _ _ hx).step fun w cs b => step_inBlock
    · exact hx.run.step fun w cs b => step_inLoop
    · exact hx.elim

theorem CallR.of_xf (hT : TOk P T) {fn : Func} (hf : P.funcs[f]? = some fn) (hb : fn.body.isSome = true) (hn : (fn.name == "runtime.NumGoroutine") = false) {args : List Value} (hlen : args.length ≤ fn.ntmps)
    (hx : xfR R P T f fn args h K) : CallR R P f args h K := by
  refine ⟨fun w hs hr => ?_⟩
  have : (callFunc f args.toArray).run P w = .ok (.enter f args.toArray) w := by
    have hb' : fn.body.isNone = false := by cases hh : fn.body <;> simp_all
    simp only [callFunc, Sem.run_bind, run_program, Result.andThen_ok, hf, hn, Bool.false_eq_true, if_false, hb', Sem.run_pure]
  rw [this]
  refine ⟨rfl, ?_⟩
  unfold xfR at hx
  split at hx
  · rename_i c hb
    have hg := xsR_sound hT hf _ _ _ _ hx
    intro cs
    obtain ⟨v, h', w', fr, h1, h2, h3, h4, h5, h6⟩ := hg w cs { (default : Frame) with fn := f, kind := .normal } rfl rfl hs hr
    refine ⟨.returned v, w', fr, ⟨v, h', rfl, h1, h2, h3⟩, ?_, h5, h6⟩
    have henter : Frame.enter P f args.toArray .normal =
        ({ (default : Frame) with fn := f, kind := .normal } : Frame).at (actOf fn.ntmps (args2env args)) [.code c] := by
      simp only [Frame.enter, Frame.at, hf, hb, Option.map_some, Option.getD_some, Option.bind_some, actOf]
      congr 1
      apply Array.ext
      · simp; omega
      · intro i hi1 hi2
        simp only [Array.getElem_ofFn, args2env]
        by_cases hi : i < args.length
        · rw [Array.getElem_append_left (by simpa using hi)]; simp [hi]
        · rw [Array.getElem_append_right (by simpa using hi)]
          simp [List.getElem?_eq_none (Nat.le_of_not_lt hi)]
    rw [henter]
    exact h4
  · exact hx.elim

/-- A loop: an invariant and a measure that falls. -/
theorem LoopR.of_inv {c : Code} {k : List Item} (I : Env → Hp → Prop) (μ : Env → Hp → Nat) (h0 : I ρ h)
    (round : ∀ ρ h, I ρ h → (∀ ρ' h', I ρ' h' → μ ρ' h' < μ ρ h → LoopR R P f n K c k ρ' h') → GoodR R P f n K (.code c :: .inLoop c :: k) ρ h) : LoopR R P f n K c k ρ h := by
  have key : ∀ m ρ h, μ ρ h = m → I ρ h → LoopR R P f n K c k ρ h := by
    intro m
    induction m using Nat.strongRecOn with
    | _ m ih =>
      intro ρ h hm hI
      exact ⟨round ρ h hI fun ρ' h' hI' hlt => ih _ (hm ▸ hlt) ρ' h' rfl hI'⟩
  exact key _ ρ h rfl h0

end
section
variable {R : Hp} {P : Program} {T : Nat → Option Ty} {f : FuncId} {n : Nat} {K : Value → Hp → Prop} {h : Hp}
theorem LoopR.st (hT : TOk P T) {fn : Func} (hf : P.funcs[f]? = some fn) {c : Code} {k : List Item} {ρ : Env} {σ : Type} (vals : σ → List (Nat × Value)) (I : σ → Hp → Prop) (μ : σ → Nat) (x0 : σ)
    (hρ : agrees ρ (vals x0)) (h0 : I x0 h)
    (round : ∀ x ρ h, I x h → (∀ x' ρ' h', I x' h' → μ x' < μ x → agrees ρ' (vals x') → LoopR R P f n K c k ρ' h') →
      xsR R P T f n fn.results.toList K 10000 (.code c :: .inLoop c :: k) (puts ρ (vals x)) h) : LoopR R P f n K c k ρ h := by
  have key : ∀ m x ρ h, μ x = m → I x h → agrees ρ (vals x) → LoopR R P f n K c k ρ h := by
    intro m
    induction m using Nat.strongRecOn with
    | _ m ih =>
      intro x ρ h hm hI ha
      have := round x ρ h hI fun x' ρ' h' hI' hlt ha' => ih _ (hm ▸ hlt) x' ρ' h' rfl hI' ha'
      rw [puts_agrees ha] at this
      exact ⟨xsR_sound hT hf _ _ _ _ this⟩
  exact key _ x0 ρ h rfl h0 hρ

end
end Go.Proofs.YgvalwGreat.X
