/-
  THE EXECUTOR IS SOUND (fifth part): literals, built-ins, calls; the whole operation.
-/
import Derived.Test.YgvalwGreatXq
import Derived.Laws.Tables
set_option linter.unusedVariables false
set_option linter.unusedSimpArgs false
namespace Go.Proofs.YgvalwGreat.X
open Go

theorem evs_sound {n : Nat} {ρ : Env} {os : List Operand} {k : List Value → Prop} (hx : evs n ρ os k) : k (os.map (ev n ρ)) := by
  unfold evs at hx
  induction os generalizing k with
  | nil => exact hx
  | cons o os ih => exact ih (force_sound hx)

theorem forceL_sound {l : List Value} {k : List Value → Prop} (hx : forceL l k) : k l := by
  unfold forceL at hx
  induction l generalizing k with
  | nil => exact hx
  | cons o os ih => exact ih (force_sound hx)

theorem fold_setSeg (off : Nat) (vs : List Value) : ∀ (i : Nat) (cells : List Value) (_ : off + i + vs.length ≤ cells.length),
    (vs.zipIdx i).foldl (fun cs (x : Value × Nat) => cs.setIfInBounds (off + x.2) x.1) cells.toArray = (setSeg cells (off + i) vs).toArray := by
  induction vs with
  | nil => intro i cells _; simp [setSeg_nil]
  | cons v vs ih =>
    intro i cells hl
    have hl' := hl
    simp only [List.length_cons] at hl
    rw [setSeg_cons hl']
    have := ih (i + 1) (cells.set (off + i) v) (by simp; omega)
    simp only [List.zipIdx_cons, List.foldl_cons]
    simp only [List.setIfInBounds_toArray]
    rw [this]
    rfl

theorem fillL_fill (place : Nat → Option (Nat × Nat)) : ∀ (ps : List (Nat × Value)) (cells cs : List Value), fillL place cells ps = some cs → Instr.fill place cells.toArray ps = some cs.toArray := by
  intro ps
  induction ps with
  | nil => intro cells cs hx; simp only [fillL, Option.some.injEq] at hx; subst hx; rfl
  | cons p ps ih =>
    intro cells cs hx
    obtain ⟨i, v⟩ := p
    simp only [fillL] at hx
    simp only [Instr.fill]
    split at hx
    · cases hx
    · rename_i off size hp
      split at hx
      · rename_i hc
        have hv : off + 0 + v.cells.toList.length ≤ cells.length := by simp; omega
        have hf := fold_setSeg off v.cells.toList 0 cells hv
        have h1 : ¬ ((v.cells.size ≠ size || off + v.cells.size > cells.toArray.size) = true) := by
          simp; omega
        simp only [hp]
        rw [if_neg h1]
        rw [← ih _ _ hx]
        refine congrArg (fun z => Instr.fill place z ps) ?_
        rw [← Array.foldl_toList, Array.toList_zipIdx]
        exact hf
      · cases hx

theorem zip_parts (f : Operand → Value) (ps : List (Nat × Operand)) : (ps.map (·.1)).zip ((ps.map (·.2)).map f) = ps.map fun p => (p.1, f p.2) := by
  induction ps with
  | nil => rfl
  | cons p ps ih => simp only [List.map_cons, List.zip_cons_cons, ih]

theorem mapM_get {α β : Type} (g : α → Option β) : ∀ (l : List α) (r : List β), l.mapM g = some r → ∀ i : Nat, r[i]? = l[i]?.bind g := by
  intro l
  induction l with
  | nil => intro r hr i; simp at hr; subst hr; simp
  | cons a l ih =>
    intro r hr i
    simp only [List.mapM_cons, Option.bind_eq_bind, Option.pure_def] at hr
    cases hg : g a with
    | none => simp [hg] at hr
    | some b =>
      cases hl : l.mapM g with
      | none => simp [hg, hl] at hr
      | some r' =>
        simp [hg, hl] at hr
        subst hr
        cases i with
        | zero => simp [hg]
        | succ i => simpa using ih r' hl i

section
variable {P : Program} {T : Nat → Option Ty} {n : Nat} {o : Oper} {ρ : Env} {h h' : Hp} {w w' : World} {K : Env → Hp → Prop} {Q : Exit → Act → World → Prop} {v : Value}

theorem fillL_congr {p q : Nat → Option (Nat × Nat)} (hpq : ∀ i x, p i = some x → q i = some x) : ∀ (ps : List (Nat × Value)) (cells cs : List Value), fillL p cells ps = some cs → fillL q cells ps = some cs := by
  intro ps
  induction ps with
  | nil => intro cells cs hx; exact hx
  | cons a ps ih =>
    intro cells cs hx
    obtain ⟨i, v⟩ := a
    simp only [fillL] at hx ⊢
    split at hx
    · cases hx
    · rename_i off size hp
      rw [hpq _ _ hp]
      simp only
      split at hx
      · rename_i hc; rw [if_pos hc]; exact ih _ _ hx
      · cases hx

theorem x_build (hT : TOk P T) {t ps} (ho : o.op = .build t ps) (hx : xop P T n o ρ h K) : QV P n o ρ h K := by
  simp only [xop, ho] at hx
  split at hx
  · rename_i fs _ _ _ z ht
    have hx := evs_sound hx
    rw [zip_parts] at hx
    split at hx
    · rename_i cs hcs
      have hk := forceL_sound hx
      refine ⟨_, fun w hs => ?_, hk⟩
      obtain ⟨i, z0, hi, -, -, hz, hzc⟩ := (hT _ _ ht).info
      obtain ⟨fs', hu, hfl⟩ := (hT _ _ ht).st fs rfl
      obtain ⟨places, hpl⟩ := Option.isSome_iff_exists.1 ((hT _ _ ht).flds fs' hu)
      have hb : P.built t ((ps.map fun (i, x) => (i, ev n ρ x)).toList) = some cs.toArray := by
        simp only [Program.built, hi, hu, hz, hpl]
        rw [hzc]
        apply fillL_fill
        refine fillL_congr ?_ _ _ _ (by simpa using hcs)
        intro i x hp
        unfold placesOf at hp
        split at hp
        · cases hp
        · rename_i f hf
          split at hp
          · cases hp
          · rename_i y hy
            cases hp
            obtain ⟨i', z', hi', hsz', -, -, -⟩ := (hT _ _ hy).info
            have := mapM_get _ _ _ hpl i
            obtain ⟨fd', hfd', e1, e2⟩ := flat_get hfl hf
            have hfd2 : fs'.toList[i]? = some fd' := by simpa using hfd'
            simpa [hfd2, e1, e2, hi', hsz'] using this
      simp [execOp, ho, run_build w t _ _ hb]
    · exact hx.elim
  · rename_i len e _ _ _ z ht
    split at hx
    · rename_i y he
      have hx := evs_sound hx
      rw [zip_parts] at hx
      split at hx
      · rename_i cs hcs
        have hk := forceL_sound hx
        refine ⟨_, fun w hs => ?_, hk⟩
        obtain ⟨i, z0, hi, -, -, hz, hzc⟩ := (hT _ _ ht).info
        obtain ⟨i', z', hi', hsz', -, -, -⟩ := (hT _ _ he).info
        have hb : P.built t ((ps.map fun (i, x) => (i, ev n ρ x)).toList) = some cs.toArray := by
          have hu : P.underlying t = some (.array len e) := ((hT _ _ ht).u rfl)
          simp only [Program.built, hi, hu, hz, hi', hsz']
          rw [hzc]
          apply fillL_fill
          simpa using hcs
        simp [execOp, ho, run_build w t _ _ hb]
      · exact hx.elim
    · exact hx.elim
  · exact hx.elim

theorem x_buildSlice (hT : TOk P T) {t len ps} (ho : o.op = .buildSlice t len ps) (hs : Sub h w) (hx : xop P T n o ρ h K) : o.wp P (actOf n ρ) w (NextK n h w K) Q := by
  simp only [xop, ho] at hx
  split at hx
  · rename_i e _ _ _ _ ht
    split at hx
    · rename_i y he
      have hx := evs_sound hx
      rw [zip_parts] at hx
      split at hx
      · rename_i cs hcs
        obtain ⟨hle, hk⟩ := hx
        refine s_val (v := .slice (some ⟨w.heap.size, 0, none⟩) len len) ?_ (x_box_at hs hk) (Sub.alloc hs _ _) (Fr.alloc hs _ _)
        obtain ⟨i', z', hi', hsz', -, hz', hzc'⟩ := (hT _ _ he).info
        have hylen := (hT _ _ he).len
        have hf : Instr.fill (fun i => some (i * y.size, y.size)) (zeros y.zero len).toArray (ps.toList.map fun x => (x.1, ev n ρ x.2)) = some cs.toArray :=
          fillL_fill _ _ _ _ hcs
        have hmade : (Array.range (len * y.size)).map (y.zero.toArray[· % y.zero.toArray.size]!) = (zeros y.zero len).toArray := by
          rw [← hylen]; exact made_eq_zeros _ _
        obtain ⟨hpos, hle⟩ := hle
        have h0 : len * y.size ≠ 0 := by omega
        have hpl : (ps.map fun (i, x) => (i, ev n ρ x)).toList = ps.toList.map fun x => (x.1, ev n ρ x.2) := by simp
        simp only [execOp, ho, Instr.buildSlice, Sem.run_bind, underlying, run_program, Result.andThen_ok, ((hT _ _ ht).u rfl), Sem.run_pure, sizeOf_run hT he, hpl]
        rw [if_neg (by omega)]
        simp only [h0, if_false, Sem.run_bind, Sem.run_pure, Result.andThen_ok, zeroValue, typeInfo, run_program, hi', hz', hzc', hmade, hf]
        simp [newRow]
      · exact hx.elim
    · exact hx.elim
  · exact hx.elim

theorem Sub.drew (hs : Sub h w) : Sub h w.drew := hs
theorem Fr.drew (h : Hp) (w : World) : Fr h w h w.drew := ⟨Nat.le_refl _, fun _ _ _ => rfl, fun _ h0 h1 => absurd h0 h1, rfl, rfl⟩

theorem zeroCells_eq (z : List Value) (m : Nat) : Builtin.zeroCells z.toArray m = (zeros z m).toArray := made_eq_zeros z m

/-- append's tail, when the appended cells are known. -/
theorem append_slice (hT : TOk P T) {t u : TypeId} {e e' a1 a2 a3 a4 b1 b2 b3 b4} {y : Ty} (ht : T t = some ⟨.slice e, a1, a2, a3, a4⟩) (hu : T u = some ⟨.slice e', b1, b2, b3, b4⟩) (he : T e = some y) (hs : Sub h w)
    {base xb : Option Addr} {len cap m xc : Nat} {KK : Value → Hp → Prop} (ty : TypeId)
    (hx : AppendX h e y.size y.bytes y.zero base len cap (rd h xb (m * y.size)) m KK) :
    ∃ v h' w', (Builtin.append_ #[t, u] ty #[.slice base len cap, .slice xb m xc]).run P w = .ok v w' ∧ KK v h' ∧ Sub h' w' ∧ Fr h w h' w' := by
  obtain ⟨old, new, hold, hnw, hroom, hin, hgrow⟩ := hx.run
  have hnl := rd_length hnw
  have hol := rd_length hold
  obtain ⟨i, z, hi, hsz, hby, hz, hzc⟩ := (hT _ _ he).info
  have hfirst : ∀ w', Sub h w' → (Builtin.firstCells y.size m (.slice xb m xc)).run P w' = .ok new.toArray w' := fun w' hs' => rd_first hs' hnw
  by_cases hc : len + m ≤ cap
  · have hin := hin hc
    cases base with
    | none =>
      obtain ⟨rfl, hk⟩ := hin
      refine ⟨_, h, w, ?_, hk, hs, Fr.refl _ _⟩
      simp [Builtin.append_, underlying, ((hT _ _ ht).u rfl), ((hT _ _ hu).u rfl), sizeOf_run hT he, Builtin.lenOf, hfirst w hs, hc]
      omega
    | some a =>
      obtain ⟨b, off, sp⟩ := a
      cases sp with
      | some s => exact hin.elim
      | none =>
        obtain ⟨c, t', hb, hle, h1, hk⟩ := hin
        obtain ⟨w', hr, hs', hf'⟩ := storeCells_run (P := P) new hs (b := b) (o := off + len * y.size) (i := 0) hb (by rw [hnl]; rw [Nat.add_mul] at hle; omega) (oneCells_of_ones h1)
        refine ⟨_, _, w', ?_, hk, hs', hf'⟩
        simp [Builtin.append_, underlying, ((hT _ _ ht).u rfl), ((hT _ _ hu).u rfl), sizeOf_run hT he, Builtin.lenOf, hfirst w hs, hc, add_none, hr]
  · have hg : cap < len + m := by omega
    have hgrow := hgrow hg
    have hfit := growslice_fits (need := len + m) (old := cap) (bytes := y.bytes) hg (by omega)
    have hfo : ∀ w', Sub h w' → (Builtin.firstCells y.size len (.slice base len cap)).run P w' = .ok old.toArray w' := fun w' hs' => rd_first hs' hold
    refine ⟨_, _, _, ?_, hgrow (Question.cut (.appendCap (len + m) cap e) (w.tape w.drawn (.appendCap (len + m) cap e))) (by simp [Question.cut]) w.heap.size hs.bd, Sub.alloc hs.drew _ _, (Fr.drew h w).trans (Fr.alloc hs.drew _ _)⟩
    have n1 : ¬ (281474976710656 < Builtin.nextslicecap (len + m) cap * y.bytes) := by omega
    have hb0 : y.bytes ≠ 0 := by have := hx.pos; omega
    simp [Builtin.append_, underlying, ((hT _ _ ht).u rfl), ((hT _ _ hu).u rfl), sizeOf_run hT he, Builtin.lenOf, hc, typeInfo, hi, hby, hb0, n1, Question.forced, hfirst w.drew hs.drew, hfo w.drew hs.drew, zeroValue, hz, hzc, zeroCells_eq, newRow]

theorem append_zerosN (hT : TOk P T) {t u : TypeId} {e k a1 a2 a3 a4 b1 b2 b3 b4} {y : Ty} (ht : T t = some ⟨.slice e, a1, a2, a3, a4⟩) (hu : T u = some ⟨.int k, b1, b2, b3, b4⟩) (he : T e = some y) (hs : Sub h w)
    {base : Option Addr} {len cap m : Nat} {KK : Value → Hp → Prop} (ty : TypeId)
    (hx : AppendX h e y.size y.bytes y.zero base len cap (some (zeros y.zero m)) m KK) :
    ∃ v h' w', (Builtin.append_ #[t, u] ty #[.slice base len cap, .int .i64 (m : Int)]).run P w = .ok v w' ∧ KK v h' ∧ Sub h' w' ∧ Fr h w h' w' := by
  obtain ⟨old, new, hold, hnw, hroom, hin, hgrow⟩ := hx.run
  obtain rfl := Option.some.inj hnw
  have hylen := (hT _ _ he).len
  have hnl : (zeros y.zero m).length = m * y.size := by rw [zeros_length, hylen]
  have hol := rd_length hold
  have hb0 : y.bytes ≠ 0 := by have := hx.pos; omega
  obtain ⟨i, z, hi, hsz, hby, hz, hzc⟩ := (hT _ _ he).info
  have hsum : len + m ≤ 2 ^ 47 := by
    have : (len + m) * 1 ≤ (len + m) * y.bytes := Nat.mul_le_mul_left _ (by omega)
    omega
  have hwr : IntKind.i64.wrap (m : Int) = m := by rw [IntKind.wrap_i64]; omega
  have hneg : ¬ (m : Int) < 0 := by omega
  have hm48 : m * y.bytes ≤ 2 ^ 48 := by
    have : m * y.bytes ≤ (len + m) * y.bytes := Nat.mul_le_mul_right _ (by omega)
    omega
  have hle48 : ¬ (2 ^ 48 < (m : Int) * (y.bytes : Int)) := by
    rw [← Int.natCast_mul]; omega
  have hfirst : ∀ w' : World, ((if m * y.size = 0 then pure #[] else do pure (Builtin.zeroCells (← zeroValue e).cells m) : Sem (Array Value)).run P w') = .ok (zeros y.zero m).toArray w' := by
    intro w'
    split
    · rename_i h0
      have hze : (zeros y.zero m).toArray = #[] := by
        apply Array.eq_empty_of_size_eq_zero
        rw [List.size_toArray, hnl]; exact h0
      simp [hze]
    · simp [zeroValue, typeInfo, hi, hz, hzc, zeroCells_eq]
  have hinfo : ∀ w' : World, (typeInfo e).run P w' = .ok i w' := by intro w'; simp [typeInfo, hi]
  have hund : ∀ w' : World, (underlying t).run P w' = .ok (.slice e) w' := by intro w'; simp [underlying, ((hT _ _ ht).u rfl)]
  have hunu : ∀ w' : World, (underlying u).run P w' = .ok (.int k) w' := by intro w'; simp [underlying, ((hT _ _ hu).u rfl)]
  by_cases hc : len + m ≤ cap
  · have hin := hin hc
    cases base with
    | none =>
      obtain ⟨hm0, hk⟩ := hin
      refine ⟨_, h, w, ?_, hk, hs, Fr.refl _ _⟩
      simp only [Builtin.append_, List.getElem?_toArray, List.getElem?_cons_zero, List.getElem?_cons_succ, Sem.run_bind, hund, hunu, Result.andThen_ok, Sem.run_pure, sizeOf_run hT he, if_true, asInt, asIntOf, hwr, hneg, if_false, hinfo, hby, gt_iff_lt, hle48, Int.toNat_natCast, Bool.not_true, hc, Bool.false_eq_true, hfirst]
    | some a =>
      obtain ⟨b, off, sp⟩ := a
      cases sp with
      | some s => exact hin.elim
      | none =>
        obtain ⟨c, t', hb, hle, h1, hk⟩ := hin
        obtain ⟨w', hr, hs', hf'⟩ := storeCells_run (P := P) (zeros y.zero m) hs (b := b) (o := off + len * y.size) (i := 0) hb (by rw [hnl]; rw [Nat.add_mul] at hle; omega) (oneCells_of_ones h1)
        refine ⟨_, _, w', ?_, hk, hs', hf'⟩
        simp only [Builtin.append_, List.getElem?_toArray, List.getElem?_cons_zero, List.getElem?_cons_succ, Sem.run_bind, hund, hunu, Result.andThen_ok, Sem.run_pure, sizeOf_run hT he, if_true, asInt, asIntOf, hwr, hneg, if_false, hinfo, hby, gt_iff_lt, hle48, Int.toNat_natCast, Bool.not_true, hc, Bool.false_eq_true, hfirst, add_none, hr]
  · have hg : cap < len + m := by omega
    have hgrow := hgrow hg
    have hfit := growslice_fits (need := len + m) (old := cap) (bytes := y.bytes) hg (by omega)
    have hfo : ∀ w', Sub h w' → (Builtin.firstCells y.size len (.slice base len cap)).run P w' = .ok old.toArray w' := fun w' hs' => rd_first hs' hold
    refine ⟨_, _, _, ?_, hgrow (Question.cut (.appendCap (len + m) cap e) (w.tape w.drawn (.appendCap (len + m) cap e))) (by simp [Question.cut]) w.heap.size hs.bd, Sub.alloc hs.drew _ _, (Fr.drew h w).trans (Fr.alloc hs.drew _ _)⟩
    have n1 : ¬ (2 ^ 48 < Builtin.nextslicecap (len + m) cap * y.bytes) := by omega
    have n2 : ¬ (((len + m : Nat) : Int) > IntKind.i64.max ∧ (True ∨ y.bytes = 0)) := by
      have : IntKind.i64.max = 9223372036854775807 := rfl
      rw [this]; omega
    simp only [Builtin.append_, List.getElem?_toArray, List.getElem?_cons_zero, List.getElem?_cons_succ, Sem.run_bind, hund, hunu, Result.andThen_ok, Sem.run_pure, sizeOf_run hT he, if_true, asInt, asIntOf, hwr, hneg, if_false, hinfo, hby, gt_iff_lt, hle48, Int.toNat_natCast, Bool.not_true, hc, Bool.false_eq_true, hfirst, n1, n2]
    simp [Question.forced, hfo w.drew hs.drew, zeroValue, hinfo, hz, hzc, zeroCells_eq, newRow]

theorem append_zeros (hT : TOk P T) {t u : TypeId} {e k a1 a2 a3 a4 b1 b2 b3 b4} {y : Ty} (ht : T t = some ⟨.slice e, a1, a2, a3, a4⟩) (hu : T u = some ⟨.int k, b1, b2, b3, b4⟩) (he : T e = some y) (hs : Sub h w)
    {base : Option Addr} {len cap : Nat} {l : Int} {KK : Value → Hp → Prop} (ty : TypeId) (hl0 : 0 ≤ l)
    (hx : AppendX h e y.size y.bytes y.zero base len cap (some (zeros y.zero l.toNat)) l.toNat KK) :
    ∃ v h' w', (Builtin.append_ #[t, u] ty #[.slice base len cap, .int .i64 l]).run P w = .ok v w' ∧ KK v h' ∧ Sub h' w' ∧ Fr h w h' w' := by
  obtain ⟨m, rfl⟩ := Int.eq_ofNat_of_zero_le hl0
  exact append_zerosN hT ht hu he hs ty hx

end
end Go.Proofs.YgvalwGreat.X
