/-
  THE EXECUTOR IS SOUND (first part): heaps, loads, stores, new blocks.
-/
import Derived.Test.YgvalwGreatX
import Derived.Laws.Cells
import Derived.Laws.World
import Derived.Laws.Append
import Derived.Laws.StructEq
import Derived.Laws.BytesString
set_option linter.unusedVariables false
set_option linter.unusedSimpArgs false
namespace Go.Proofs.YgvalwGreat.X
open Go

def isStruct : TypeDesc → Bool
  | .struct _ => true
  | _ => false

/-- A struct's fields are held by their places and types alone: their names are not typed here. -/
def flat (fs : Array Field) : List (Nat × TypeId) := fs.toList.map fun f => (f.offset, f.type)

structure TyOk (P : Program) (t : Nat) (y : Ty) : Prop where
  u : isStruct y.desc = false → P.underlying t = some y.desc
  st : ∀ fs, y.desc = .struct fs → ∃ fs', P.underlying t = some (.struct fs') ∧ flat fs' = flat fs
  agg : y.agg = (match y.desc with | .struct _ => true | .array _ _ => true | _ => false)
  len : y.zero.length = y.size
  one : ∀ k, y.desc = .int k → y.size = 1
  flds : ∀ fs, P.underlying t = some (.struct fs) → (fs.toList.mapM fun f => (P.info? f.type).map fun i => (f.offset, i.size)).isSome = true
  info : ∃ i z, P.info? t = some i ∧ i.size = y.size ∧ i.bytes = y.bytes ∧ i.zero = some z ∧ z.cells = y.zero.toArray

def TOk (P : Program) (T : Nat → Option Ty) : Prop := ∀ t y, T t = some y → TyOk P t y

theorem force_sound {v : Value} {K : Value → Prop} (h : force v K) : K v := by
  cases v <;> first | exact h | exact h.elim

theorem actOf_eval (n : Nat) (ρ : Env) (o : Operand) : (actOf n ρ).eval o = ev n ρ o := by
  cases o with
  | tmp t =>
    simp only [Act.eval, actOf, ev, Array.getD_eq_getD_getElem?, Array.getElem?_ofFn]
    by_cases ht : t < n
    · have : Nat.blt t n = true := Nat.blt_eq.mpr ht
      simp [ht, this]
    · have : Nat.blt t n = false := by
        cases hb : Nat.blt t n
        · rfl
        · exact absurd (Nat.blt_eq.mp hb) ht
      simp [ht, this]
  | _ => rfl

theorem actOf_put (n : Nat) (ρ : Env) (d : Option Tmp) (v : Value) : (actOf n ρ).put d v = actOf n (put ρ d v) := by
  cases d with
  | none => rfl
  | some d =>
    simp only [Act.put, actOf, put]
    congr 1
    apply Array.ext
    · simp
    · intro i h1 h2
      have hin : i < n := by simpa using h2
      by_cases hi : d = i
      · subst hi; simp [Array.getElem_setIfInBounds]
      · have : Nat.beq i d = false := by
          cases hb : Nat.beq i d
          · rfl
          · exact absurd (Nat.eq_of_beq_eq_true hb).symm hi
        rw [Array.getElem_setIfInBounds_ne (by simpa using hin) hi]
        simp [this]

theorem Sub.lt {h : Hp} {w : World} (hs : Sub h w) {b c t} (hb : h b = some (c, t)) : b < w.heap.size := by
  have := hs b c t hb
  exact (Array.getElem?_eq_some_iff.1 this).1

theorem Sub.none {h : Hp} {w : World} (hs : Sub h w) {b} (hb : w.heap.size ≤ b) : h b = none := by
  cases hh : h b with
  | none => rfl
  | some x => obtain ⟨c, t⟩ := x; have := hs.lt hh; omega

theorem Sub.bd {h : Hp} {w : World} (hs : Sub h w) : Bd h w.heap.size := fun b x hx => by obtain ⟨c, t⟩ := x; exact hs.lt hx

theorem Fr.refl (h : Hp) (w : World) : Fr h w h w := ⟨Nat.le_refl _, fun _ _ _ => rfl, fun _ h0 h1 => absurd h0 h1, rfl, rfl⟩

theorem Fr.trans {h h1 h2 : Hp} {w w1 w2 : World} (a : Fr h w h1 w1) (b : Fr h1 w1 h2 w2) : Fr h w h2 w2 := by
  refine ⟨Nat.le_trans a.size b.size, fun x hx h0 => ?_, fun x h0 hne => ?_, b.os.trans a.os, b.out.trans a.out⟩
  · have h1n : h1 x = none := by
      cases hh : h1 x with
      | none => rfl
      | some y => have := a.new x h0 (by rw [hh]; simp); omega
    rw [b.keep x (Nat.lt_of_lt_of_le hx a.size) h1n, a.keep x hx h0]
  · cases hh : h1 x with
    | none => exact Nat.le_trans a.size (b.new x hh hne)
    | some y => exact a.new x h0 (by rw [hh]; simp)

/-- The heap may forget blocks. -/
theorem Sub.weaken {h h' : Hp} {w : World} (hs : Sub h w) (hle : ∀ b x, h' b = some x → h b = some x) : Sub h' w :=
  fun b c t hb => hs b c t (hle b _ hb)
theorem Fr.weaken {h h1 h2 : Hp} {w w1 : World} (a : Fr h w h1 w1) (hle : ∀ b x, h2 b = some x → h1 b = some x) : Fr h w h2 w1 :=
  ⟨a.size, a.keep, fun b h0 hne => a.new b h0 (by
    cases hh : h2 b with
    | none => exact absurd hh hne
    | some y => rw [hle b y hh]; simp), a.os, a.out⟩

theorem Sub.alloc {h : Hp} {w : World} (hs : Sub h w) (vs : List Value) (t : TypeId) :
    Sub (hput h w.heap.size (vs, t)) (w.alloc (.cells vs.toArray t)) := by
  intro b c t' hb
  simp only [hput] at hb
  split at hb
  · rename_i he; subst he; cases hb; simp only [World.alloc, Array.getElem?_push_size]
  · rename_i he
    have := hs b c t' hb
    have hlt := hs.lt hb
    simp only [World.alloc]
    rw [Array.getElem?_push]
    simp [Nat.ne_of_lt hlt, this]

theorem Fr.alloc {h : Hp} {w : World} (hs : Sub h w) (vs : List Value) (t : TypeId) :
    Fr h w (hput h w.heap.size (vs, t)) (w.alloc (.cells vs.toArray t)) := by
  refine ⟨by simp, fun b hb _ => ?_, fun b h0 hne => ?_, rfl, rfl⟩
  · simp only [World.alloc]; rw [Array.getElem?_push]; simp [Nat.ne_of_lt hb]
  · simp only [hput] at hne
    split at hne
    · omega
    · exact absurd h0 hne

theorem cell_of_sub {h : Hp} {w : World} (hs : Sub h w) {b o : Nat} {c t} (hb : h b = some (c, t)) : w.cell? ⟨b, o, none⟩ = c[o]? := by
  simp [World.cell?, hs b c t hb]

theorem add_none (b o n : Nat) : (⟨b, o, none⟩ : Addr).add n = ⟨b, o + n, none⟩ := by
  unfold Addr.add; split
  · rename_i h; subst h; rfl
  · rfl

theorem seg_length {c : List Value} {o n : Nat} (h : o + n ≤ c.length) : (seg c o n).length = n := by simp [seg]; omega
theorem seg_get {c : List Value} {o n j : Nat} (hj : j < n) : (seg c o n)[j]? = c[o + j]? := by simp [seg, hj]

theorem run_loadCells_seg {P : Program} {h : Hp} {w : World} (hs : Sub h w) {b o n : Nat} {c t} (hb : h b = some (c, t)) (hl : o + n ≤ c.length) :
    (loadCells ⟨b, o, none⟩ n).run P w = .ok (seg c o n).toArray w := by
  have := run_loadCells_list (P := P) (w := w) ⟨b, o, none⟩ (seg c o n) (fun j v hj => by
    have hjn : j < n := by have := (List.getElem?_eq_some_iff.1 hj).1; rw [seg_length hl] at this; exact this
    rw [add_none, cell_of_sub hs hb, ← seg_get hjn]; exact hj)
  rw [seg_length hl] at this
  exact this

theorem isAgg_run {P : Program} {T} (hT : TOk P T) {t y} (ht : T t = some y) (w : World) : (isAgg t).run P w = .ok y.agg w := by
  have hy := hT t y ht
  have hu : ∃ d, P.underlying t = some d ∧ y.agg = (match d with | .struct _ => true | .array _ _ => true | _ => false) := by
    cases hd : y.desc with
    | struct fs =>
      obtain ⟨fs', h1, -⟩ := hy.st fs hd
      exact ⟨_, h1, by rw [hy.agg, hd]⟩
    | _ => exact ⟨_, hy.u (by rw [hd]; rfl), by rw [hy.agg]⟩
  obtain ⟨d, hd, ha⟩ := hu
  simp only [isAgg, Sem.run_bind, underlying, run_program, Result.andThen_ok, hd, Sem.run_pure]
  rw [ha]
  cases d <;> rfl

theorem flat_get {fs fs' : Array Field} (hfl : flat fs' = flat fs) {i : Nat} {fd : Field} (hi : fs.toList[i]? = some fd) :
    ∃ fd', fs'[i]? = some fd' ∧ fd'.offset = fd.offset ∧ fd'.type = fd.type := by
  have h1 : (flat fs)[i]? = some (fd.offset, fd.type) := by simp only [flat, List.getElem?_map, hi, Option.map_some]
  rw [← hfl] at h1
  simp only [flat, List.getElem?_map, Option.map_eq_some_iff] at h1
  obtain ⟨fd', h2, h3⟩ := h1
  exact ⟨fd', by simpa using h2, (Prod.ext_iff.1 h3).1, (Prod.ext_iff.1 h3).2⟩

theorem sizeOf_run {P : Program} {T} (hT : TOk P T) {t y} (ht : T t = some y) (w : World) : (sizeOf t).run P w = .ok y.size w := by
  obtain ⟨i, z, hi, hsz, -, -, -⟩ := (hT t y ht).info
  simp [sizeOf, typeInfo, hi, hsz]

theorem bytes_run {P : Program} {T} (hT : TOk P T) {t y} (ht : T t = some y) : ∃ i, P.info? t = some i ∧ i.bytes = y.bytes ∧ i.size = y.size := by
  obtain ⟨i, z, hi, hsz, hby, -, -⟩ := (hT t y ht).info
  exact ⟨i, hi, hby, hsz⟩

theorem loadVar_run {P : Program} {T} (hT : TOk P T) {t y} (ht : T t = some y) {h : Hp} {w : World} (hs : Sub h w) {b o : Nat} {v}
    (hv : ldV y.agg y.size h b o = some v) : (loadVar t ⟨b, o, none⟩).run P w = .ok v w := by
  simp only [loadVar, Sem.run_bind, isAgg_run hT ht, Result.andThen_ok]
  unfold ldV at hv
  cases hb : h b with
  | none => simp [hb] at hv
  | some x =>
    obtain ⟨c, t'⟩ := x
    simp only [hb] at hv
    cases ha : y.agg with
    | true =>
      simp only [ha] at hv
      split at hv
      · rename_i hl
        cases hv
        simp [sizeOf_run hT ht, run_loadCells_seg hs hb hl]
      · cases hv
    | false =>
      simp only [ha] at hv
      simp [cell_of_sub hs hb, hv]

theorem setSeg_nil (c : List Value) (o : Nat) : setSeg c o [] = c := by simp [setSeg]
theorem setSeg_length {c : List Value} {o : Nat} {vs} (h : o + vs.length ≤ c.length) : (setSeg c o vs).length = c.length := by simp [setSeg]; omega
theorem setSeg_cons {c : List Value} {o : Nat} {v : Value} {vs} (h : o + (v :: vs).length ≤ c.length) :
    setSeg c o (v :: vs) = setSeg (c.set o v) (o + 1) vs := by
  simp only [List.length_cons] at h
  apply List.ext_getElem?
  intro i
  simp only [setSeg, List.getElem?_append, List.length_take, List.length_append, List.length_cons, List.getElem?_drop, List.getElem?_take, List.getElem?_set, List.length_set]
  have e1 : min o c.length = o := by omega
  have e2 : min (o + 1) c.length = o + 1 := by omega
  rw [e1, e2]
  by_cases h1 : i < o
  · have : i < o + (vs.length + 1) := by omega
    have : i < o + 1 + vs.length := by omega
    have : i < o + 1 := by omega
    have : o ≠ i := by omega
    simp [*]
  · by_cases h2 : i = o
    · subst h2
      have : i < i + (vs.length + 1) := by omega
      have : i < i + 1 + vs.length := by omega
      have : i < c.length := by omega
      simp [*]
    · by_cases h3 : i < o + 1 + vs.length
      · have a1 : i < o + (vs.length + 1) := by omega
        have a2 : ¬ i < o + 1 := by omega
        simp only [h1, a1, a2, h3, if_true, if_false]
        have : i - o = (i - (o + 1)) + 1 := by omega
        rw [this]; simp
      · have a1 : ¬ i < o + (vs.length + 1) := by omega
        have a2 : ¬ i < o + 1 := by omega
        simp only [a1, h3, if_false]
        have e3 : o + 1 + vs.length + (i - (o + 1 + vs.length)) = i := by omega
        have e4 : o + (vs.length + 1) + (i - (o + (vs.length + 1))) = i := by omega
        have e5 : o ≠ i := by omega
        simp [e3, e4, e5]

def oneCells (vs : List Value) : Prop := ∀ v ∈ vs, v.oneCell' = true
theorem oneCells_of_ones {vs : List Value} (h : ones vs = true) : oneCells vs := by
  induction vs with
  | nil => intro v hv; simp at hv
  | cons x xs ih =>
    intro v hv
    have hx : x.oneCell' = true ∧ ones xs = true := by
      cases x <;> simp_all [ones, Value.oneCell']
    rcases List.mem_cons.1 hv with rfl | hm
    · exact hx.1
    · exact ih hx.2 v hm

theorem setCell_sub {h : Hp} {w : World} (hs : Sub h w) {b o : Nat} {c t} (hb : h b = some (c, t)) (v : Value) :
    Sub (hput h b (c.set o v, t)) (w.setCell ⟨b, o, none⟩ v) := by
  intro b' c' t' hb'
  simp only [hput] at hb'
  have hw := hs b c t hb
  by_cases he : b' = b
  · subst he
    simp only [if_true] at hb'
    cases hb'
    simp [World.setCell, Array.getElem?_modify, hw]
  · simp only [he, if_false] at hb'
    have := hs b' c' t' hb'
    simp only [World.setCell, Array.getElem?_modify]
    rw [if_neg (fun e => he e.symm)]
    exact this

theorem setCell_fr {h : Hp} {w : World} (hs : Sub h w) {b o : Nat} {c t} (hb : h b = some (c, t)) (v : Value) :
    Fr h w (hput h b (c.set o v, t)) (w.setCell ⟨b, o, none⟩ v) := by
  refine ⟨by simp, fun b' _ h0 => ?_, fun b' h0 hne => ?_, rfl, rfl⟩
  · have he : b ≠ b' := by rintro rfl; rw [hb] at h0; cases h0
    simp [World.setCell, Array.getElem?_modify, he]
  · simp only [hput] at hne
    split at hne
    · rename_i he; subst he; rw [hb] at h0; cases h0
    · exact absurd h0 hne

theorem hput_hput (h : Hp) (b : Nat) (x y : List Value × TypeId) : hput (hput h b x) b y = hput h b y := by
  funext b'; simp only [hput]; split <;> rfl
theorem hput_self {h : Hp} {b : Nat} {x} (hb : h b = some x) : hput h b x = h := by
  funext b'; simp only [hput]; split
  · rename_i he; subst he; exact hb.symm
  · rfl

theorem storeCells_run {P : Program} (vs : List Value) : ∀ {h : Hp} {w : World} (_ : Sub h w) {b o i : Nat} {c t} (_ : h b = some (c, t)) (_ : o + i + vs.length ≤ c.length) (_ : oneCells vs),
    ∃ w', (storeCells ⟨b, o, none⟩ vs i).run P w = .ok () w' ∧ Sub (hput h b (setSeg c (o + i) vs, t)) w' ∧ Fr h w (hput h b (setSeg c (o + i) vs, t)) w' := by
  induction vs with
  | nil =>
    intro h w hs b o i c t hb _ _
    exact ⟨w, rfl, by rw [setSeg_nil, hput_self hb]; exact hs, by rw [setSeg_nil, hput_self hb]; exact Fr.refl _ _⟩
  | cons v vs ih =>
    intro h w hs b o i c t hb hl ho
    have hv : v.oneCell' = true := ho v (by simp)
    have hlt : o + i < c.length := by simp only [List.length_cons] at hl; omega
    have hc : w.cell? ⟨b, o + i, none⟩ = some c[o + i] := by rw [cell_of_sub hs hb]; simp [hlt]
    have hfz : w.frozen? ⟨b, o + i, none⟩ = false := by simp [World.frozen?, hs b c t hb]
    have hst : (store (⟨b, o + i, none⟩ : Addr) v).run P w = .ok () (w.setCell ⟨b, o + i, none⟩ v) := by
      rw [run_store P w _ v _ hv]; simp [hc, hfz]
    obtain ⟨w', hr, hs', hf'⟩ := ih (setCell_sub hs hb (o := o + i) v) (b := b) (o := o) (i := i + 1) (c := c.set (o + i) v) (t := t) (by simp [hput]) (by simp only [List.length_cons, List.length_set] at hl ⊢; omega) (fun x hx => ho x (by simp [hx]))
    have e : setSeg (c.set (o + i) v) (o + (i + 1)) vs = setSeg c (o + i) (v :: vs) := by rw [setSeg_cons hl]; rfl
    rw [hput_hput, e] at hs' hf'
    refine ⟨w', ?_, hs', (setCell_fr hs hb v).trans hf'⟩
    simp only [storeCells, Sem.run_bind, add_none, hst, Result.andThen_ok]
    exact hr

end Go.Proofs.YgvalwGreat.X
