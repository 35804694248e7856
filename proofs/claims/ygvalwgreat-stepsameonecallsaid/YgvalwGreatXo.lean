/-
  THE EXECUTOR IS SOUND (second part): the operations.
-/
import Derived.Test.YgvalwGreatXs
set_option linter.unusedVariables false
set_option linter.unusedSimpArgs false
namespace Go.Proofs.YgvalwGreat.X
open Go

def NextK (n : Nat) (h : Hp) (w : World) (K : Env → Hp → Prop) (a : Act) (w' : World) : Prop :=
  ∃ ρ' h', a = actOf n ρ' ∧ K ρ' h' ∧ Sub h' w' ∧ Fr h w h' w'

theorem actOf_evalF (n : Nat) (ρ : Env) : (actOf n ρ).eval = ev n ρ := funext (actOf_eval n ρ)

section
variable {P : Program} {T : Nat → Option Ty} {n : Nat} {o : Oper} {ρ : Env} {h h' : Hp} {w w' : World} {K : Env → Hp → Prop} {Q : Exit → Act → World → Prop} {v : Value}

theorem s_val (hr : (execOp (ev n ρ) o).run P w = .ok (.value v) w') (hk : K (put ρ o.dst v) h') (hs : Sub h' w') (hf : Fr h w h' w') :
    o.wp P (actOf n ρ) w (NextK n h w K) Q := by
  unfold Oper.wp
  rw [actOf_evalF, hr]
  exact ⟨_, h', actOf_put .., hk, hs, hf⟩

theorem s_skip (hr : (execOp (ev n ρ) o).run P w = .ok .skip w') (hk : K (put ρ o.dst undef) h') (hs : Sub h' w') (hf : Fr h w h' w') :
    o.wp P (actOf n ρ) w (NextK n h w K) Q := by
  unfold Oper.wp
  rw [actOf_evalF, hr]
  exact ⟨_, h', actOf_put .., hk, hs, hf⟩

/-- A quiet operation: it gives a value and leaves the world as it is. -/
def QV (P : Program) (n : Nat) (o : Oper) (ρ : Env) (h : Hp) (K : Env → Hp → Prop) : Prop :=
  ∃ v, (∀ w, Sub h w → (execOp (ev n ρ) o).run P w = .ok (.value v) w) ∧ K (put ρ o.dst v) h
theorem QV.wp (hs : Sub h w) (hq : QV P n o ρ h K) : o.wp P (actOf n ρ) w (NextK n h w K) Q := by
  obtain ⟨v, hr, hk⟩ := hq
  exact s_val (hr w hs) hk hs (Fr.refl _ _)

theorem x_move {x} (ho : o.op = .move x) (hx : xop P T n o ρ h K) : QV P n o ρ h K := by
  simp only [xop, ho] at hx
  exact ⟨ev n ρ x, fun w hs => by simp [execOp, ho], (force_sound hx)⟩

theorem x_assign {x} (ho : o.op = .assign x) (hx : xop P T n o ρ h K) : QV P n o ρ h K := by
  simp only [xop, ho] at hx
  exact ⟨ev n ρ x, fun w hs => by simp [execOp, ho], (force_sound hx)⟩

theorem x_pick {c a b} (ho : o.op = .pick c a b) (hx : xop P T n o ρ h K) : QV P n o ρ h K := by
  simp only [xop, ho] at hx
  split at hx
  · rename_i t x y hc ha hb
    refine ⟨.bool (cond t x y), fun w hs => ?_, hx⟩
    simp only [execOp, ho, hc, ha, hb, asBool, Sem.run_bind, Sem.run_pure, Result.andThen_ok]
    cases t <;> rfl
  · rename_i hc _
    refine ⟨ev n ρ a, fun w hs => ?_, (force_sound hx)⟩
    simp [execOp, ho, hc, asBool]
  · rename_i hc _
    refine ⟨ev n ρ b, fun w hs => ?_, (force_sound hx)⟩
    simp [execOp, ho, hc, asBool]
  · exact hx.elim

theorem zero_run (hT : TOk P T) {t y} (ht : T t = some y) (w : World) : ∃ z, (zeroValue t).run P w = .ok z w ∧ z.cells = y.zero.toArray := by
  obtain ⟨i, z, hi, -, -, hz, hc⟩ := (hT t y ht).info
  exact ⟨z, by simp [zeroValue, typeInfo, hi, hz], hc⟩

theorem newRow_run (t : TypeId) (vs : List Value) (w : World) :
    (newRow t vs.toArray).run P w = .ok ⟨w.heap.size, 0, none⟩ (w.alloc (.cells vs.toArray t)) := by
  simp [newRow]

theorem x_box_at {t : TypeId} {vs : List Value} {kk : Nat → Hp → Prop} (hs : Sub h w) (hx : BoxX h t vs kk) :
    kk w.heap.size (hput h w.heap.size (vs, t)) := hx.run _ hs.bd

theorem x_alloc (hT : TOk P T) {t} (ho : o.op = .alloc t) (hs : Sub h w) (hx : xop P T n o ρ h K) : o.wp P (actOf n ρ) w (NextK n h w K) Q := by
  simp only [xop, ho] at hx
  split at hx
  · rename_i y ht
    obtain ⟨z, hz, hc⟩ := zero_run hT ht w
    refine s_val (v := .pointer (some ⟨w.heap.size, 0, none⟩)) ?_ (x_box_at hs hx) (Sub.alloc hs _ _) (Fr.alloc hs _ _)
    simp [execOp, ho, Instr.alloc, hz, newVar, hc, newRow_run]
  · exact hx.elim

theorem x_box {t x} (ho : o.op = .box t x) (hs : Sub h w) (hx : xop P T n o ρ h K) : o.wp P (actOf n ρ) w (NextK n h w K) Q := by
  simp only [xop, ho] at hx
  split at hx
  · rename_i cs hv
    refine s_val (v := .pointer (some ⟨w.heap.size, 0, none⟩)) ?_ (x_box_at hs hx) (Sub.alloc hs _ _) (Fr.alloc hs _ _)
    simp [execOp, ho, Instr.box, newVar, hv, Value.cells, newRow]
  · rename_i hne
    have hx' := force_sound hx
    refine s_val (v := .pointer (some ⟨w.heap.size, 0, none⟩)) ?_ (x_box_at hs hx') (Sub.alloc hs _ _) (Fr.alloc hs _ _)
    have hc : (ev n ρ x).cells = #[ev n ρ x] := by
      cases hv : ev n ρ x <;> simp_all [Value.cells]
    simp [execOp, ho, Instr.box, newVar, hc, newRow]

theorem x_load (hT : TOk P T) {t x} (ho : o.op = .load t x) (hx : xop P T n o ρ h K) : QV P n o ρ h K := by
  simp only [xop, ho] at hx
  split at hx
  · rename_i b off ha
    split at hx
    · rename_i y ht
      obtain ⟨v, hv, hk⟩ := hx.run
      refine ⟨v, fun w hs => ?_, (force_sound hk)⟩
      simp [execOp, ho, Instr.loadAt, Instr.sureAddr, ha, loadVar_run hT ht hs hv]
    · exact hx.elim
  · exact hx.elim

theorem storeVar_run (hT : TOk P T) {t y} (ht : T t = some y) (hs : Sub h w) {b off : Nat} {v : Value} {vs : List Value} (hvs : v.cells = vs.toArray) (hl : vs.length = y.size)
    (h1 : ones vs = true) {c t'} (hb : h b = some (c, t')) (hle : off + vs.length ≤ c.length) :
    ∃ w', (storeVar t ⟨b, off, none⟩ v).run P w = .ok () w' ∧ Sub (hput h b (setSeg c off vs, t')) w' ∧ Fr h w (hput h b (setSeg c off vs, t')) w' := by
  obtain ⟨w', hr, hs', hf'⟩ := storeCells_run (P := P) vs hs (o := off) (i := 0) hb (by simpa using hle) (oneCells_of_ones h1)
  refine ⟨w', ?_, hs', hf'⟩
  simp only [storeVar, Sem.run_bind, sizeOf_run hT ht, Result.andThen_ok, hvs]
  simp [hl, hr]

theorem x_store (hT : TOk P T) {t x y} (ho : o.op = .store t x y) (hs : Sub h w) (hx : xop P T n o ρ h K) : o.wp P (actOf n ρ) w (NextK n h w K) Q := by
  simp only [xop, ho] at hx
  split at hx
  · rename_i b off ha
    split at hx
    · rename_i ty cs ht hv
      obtain ⟨⟨hsz, h1⟩, c, t', hb, hle, hk⟩ := hx
      obtain ⟨w', hr, hs', hf'⟩ := storeVar_run (v := .agg cs) hT ht hs (off := off) (vs := cs.toList) (by simp [Value.cells]) (by simpa using hsz) h1 hb hle
      refine s_skip ?_ hk hs' hf'
      simp [execOp, ho, Instr.storeAt, Instr.sureAddr, ha, hv, hr]
    · rename_i ty ht hne
      have hx' := force_sound hx
      split at hx'
      case h_2 => exact hx'.elim
      rename_i hz0
      rw [Bool.and_eq_true] at hz0
      obtain ⟨hsz0, h1⟩ := hz0
      have hsz := Nat.eq_of_beq_eq_true hsz0
      obtain ⟨c, t', hb, hle, hk⟩ := hx'
      have hc : (ev n ρ y).cells = #[ev n ρ y] := by
        cases hv : ev n ρ y <;> simp_all [Value.cells]
      obtain ⟨w', hr, hs', hf'⟩ := storeVar_run (v := ev n ρ y) hT ht hs (off := off) (vs := [ev n ρ y]) hc (by simp [hsz]) h1 hb hle
      refine s_skip ?_ hk hs' hf'
      simp [execOp, ho, Instr.storeAt, Instr.sureAddr, ha, hr]
    · exact hx.elim
  · exact hx.elim

theorem x_nilCheck {x} (ho : o.op = .nilCheck x) (hx : xop P T n o ρ h K) : QV P n o ρ h K := by
  simp only [xop, ho] at hx
  split at hx
  · rename_i a ha
    exact ⟨.pointer (some a), fun w hs => by simp [execOp, ho, ha], hx⟩
  · exact hx.elim

theorem x_extract {x i} (ho : o.op = .extract x i) (hx : xop P T n o ρ h K) : QV P n o ρ h K := by
  simp only [xop, ho] at hx
  split at hx
  · rename_i vs ha
    split at hx
    · rename_i v hv
      refine ⟨v, fun w hs => ?_, (force_sound hx)⟩
      have : vs[i]? = some v := by simpa using hv
      simp [execOp, ho, ha, Instr.extract, this]
    · exact hx.elim
  · exact hx.elim

theorem x_sliceToArr (hT : TOk P T) {t x} (ho : o.op = .sliceToArrayPointer t x) (hx : xop P T n o ρ h K) : QV P n o ρ h K := by
  simp only [xop, ho] at hx
  split at hx
  · rename_i len e _ _ _ _ a l _ ht ha
    refine ⟨.pointer (some a), fun w hs => ?_, hx.go⟩
    have := hx.ob
    simp [execOp, ho, ha, Instr.arrayAt, underlying, ((hT _ _ ht).u rfl), Nat.not_lt.2 this]
  · exact hx.elim

theorem x_fieldAddr (hT : TOk P T) {s x f} (ho : o.op = .fieldAddr s x f) (hx : xop P T n o ρ h K) : QV P n o ρ h K := by
  simp only [xop, ho] at hx
  split at hx
  · rename_i fs _ _ _ _ b off ht ha
    split at hx
    · rename_i fd hfd
      split at hx
      · rename_i y hy
        split at hx
        case h_2 => exact hx.elim
        rename_i hz0
        refine ⟨.pointer (some ⟨b, off + fd.offset, none⟩), fun w hs => ?_, hx⟩
        have h0 : y.size ≠ 0 := by intro e; rw [e] at hz0; simp at hz0
        obtain ⟨fs', hu, hfl⟩ := (hT _ _ ht).st fs rfl
        obtain ⟨fd', hfd', e1, e2⟩ := flat_get hfl hfd
        simp [execOp, ho, ha, Instr.fieldAt, Instr.sureAddr, underlying, hu, hfd', fieldPlace, e1, e2, sizeOf_run hT hy, h0, add_none]
      · exact hx.elim
    · exact hx.elim
  · exact hx.elim

theorem x_indexAddr (hT : TOk P T) {t x i} (ho : o.op = .indexAddr t x i) (hx : xop P T n o ρ h K) : QV P n o ρ h K := by
  simp only [xop, ho] at hx
  split at hx
  · rename_i len e _ _ _ _ b off k j ht ha hi
    split at hx
    · rename_i y hy
      refine ⟨.pointer (some ⟨b, off + j.toNat * y.size, none⟩), fun w hs => ?_, hx.go⟩
      have h0 := hx.ob
      simp [execOp, ho, ha, hi, Instr.indexAt, Instr.sureAddr, asIntOf, underlying, ((hT _ _ ht).u rfl), sizeOf_run hT hy, h0, add_none]
    · exact hx.elim
  · rename_i e _ _ _ _ base len _ k j ht ha hi
    split at hx
    · rename_i y hy
      have hx := hx.run
      split at hx
      rotate_left
      · exact hx.elim
      rename_i b off _
      refine ⟨.pointer (some ⟨b, off + j.toNat * y.size, none⟩), fun w hs => ?_, hx.2⟩
      have h0 := hx.1
      simp [execOp, ho, ha, hi, Instr.indexAt, asIntOf, underlying, ((hT _ _ ht).u rfl), sizeOf_run hT hy, h0, add_none]
    · exact hx.elim
  · exact hx.elim

theorem x_unOp {op t x} (ho : o.op = .unOp op t x) (hx : xop P T n o ρ h K) : QV P n o ρ h K := by
  simp only [xop, ho] at hx
  split at hx
  · rename_i b ha
    exact ⟨.bool !b, fun w hs => by simp [execOp, ho, ha, Op.unary], hx⟩
  · rename_i k x' ha
    exact ⟨_, fun w hs => by simp [execOp, ho, ha, Op.unary, Op.intBits], hx⟩
  · rename_i k x' ha
    exact ⟨_, fun w hs => by simp [execOp, ho, ha, Op.unary, Op.intArith], hx⟩
  · exact hx.elim

theorem run_ok_value {s : Sem Value} (hr : s.run P w = .ok v w') : (do let x ← s; pure (Next.value x) : Sem Next).run P w = .ok (.value v) w' := by
  simp [hr]

theorem x_binInt {op t x y t2 k k' a b} (ho : o.op = .binOp op t x y t2) (ha : ev n ρ x = .int k a) (hb : ev n ρ y = .int k' b)
    (hx : xop P T n o ρ h K) : QV P n o ρ h K := by
  simp only [xop, ho, ha, hb] at hx
  have hg : ∀ w : World, (eqGuard op t x y (.int k a) (.int k' b)).run P w = .ok () w := by
    intro w; simp only [eqGuard]; split <;> rfl
  cases op
  case shl =>
    simp only [shiftB] at hx
    refine ⟨_, fun w hs => ?_, hx.go⟩
    have := hx.ob
    simp [execOp, ho, ha, hb, hg, binOp, Op.shift, Int.not_lt.2 this]
  case shr =>
    simp only [shiftB] at hx
    refine ⟨_, fun w hs => ?_, hx.go⟩
    have := hx.ob
    simp [execOp, ho, ha, hb, hg, binOp, Op.shift, Int.not_lt.2 this]
  case quo =>
    simp only [intB] at hx
    split at hx
    case h_2 => exact hx.elim
    rename_i hkk
    obtain rfl := of_decide_eq_true hkk
    obtain ⟨hy, hk⟩ := hx
    refine ⟨_, fun w hs => ?_, hk⟩
    simp [execOp, ho, ha, hb, hg, binOp, Op.intDiv, hy]
  case rem =>
    simp only [intB] at hx
    split at hx
    case h_2 => exact hx.elim
    rename_i hkk
    obtain rfl := of_decide_eq_true hkk
    obtain ⟨hy, hk⟩ := hx
    refine ⟨_, fun w hs => ?_, hk⟩
    simp [execOp, ho, ha, hb, hg, binOp, Op.intDiv, hy]
  all_goals
    simp only [intB] at hx
    split at hx
    case h_2 => exact hx.elim
    rename_i hkk
    obtain rfl := of_decide_eq_true hkk
    first
      | exact hx.elim
      | (refine ⟨_, fun w hs => ?_, hx⟩
         simp [execOp, ho, ha, hb, hg, binOp, Op.intArith, Op.intBits, Op.intCmp])

end
end Go.Proofs.YgvalwGreat.X
