import Derived.Test.YgvalwGreatF26
set_option linter.unusedVariables false
set_option linter.unusedSimpArgs false
namespace Go.Proofs.YgvalwGreat.X
open Go

abbrev Sl := Option Addr × Nat × Nat
def sl (s : Sl) : Value := .slice s.1 s.2.1 s.2.2

theorem flat_len {sz : Nat} : ∀ {es : List (List Value)}, (∀ e ∈ es, e.length = sz) → es.flatten.length = es.length * sz
  | [], _ => by simp
  | e :: es, h => by
    have h1 := h e (List.mem_cons_self ..)
    have h2 := flat_len (es := es) (sz := sz) fun x hx => h x (List.mem_cons_of_mem _ hx)
    simp only [List.flatten_cons, List.length_append, h1, h2, List.length_cons, Nat.succ_mul]; omega
theorem flat_seg {sz : Nat} : ∀ {es : List (List Value)} {pad : List Value} (_ : ∀ e ∈ es, e.length = sz) {k : Nat} (_ : k < es.length), seg (es.flatten ++ pad) (k * sz) sz = es.getD k []
  | [], _, _, _, hk => by simp at hk
  | e :: es, pad, h, k, hk => by
    have h1 := h e (List.mem_cons_self ..)
    cases k with
    | zero => simp [seg, h1]
    | succ k =>
      have h2 := flat_seg (es := es) (pad := pad) (sz := sz) (fun x hx => h x (List.mem_cons_of_mem _ hx)) (k := k) (by simpa using hk)
      rw [List.getD_cons_succ, ← h2]
      simp only [seg, List.flatten_cons, List.append_assoc]
      rw [Nat.succ_mul, Nat.add_comm (k * sz) sz, ← List.drop_drop, ← h1, List.drop_left]
theorem ones_append {a b : List Value} (ha : ones a = true) (hb : ones b = true) : ones (a ++ b) = true := by
  induction a with
  | nil => exact hb
  | cons x a ih => cases x <;> simp_all [ones]
theorem zeros_len (z : List Value) (n : Nat) : (zeros z n).length = n * z.length := by
  unfold zeros
  rw [flat_len (sz := z.length) fun e he => by rw [List.eq_of_mem_replicate he]]
  simp

/-- An array of records of 'sz' cells each. -/
structure Arr (h : Hp) (s : Sl) (sz : Nat) (es : List (List Value)) : Prop where
  rd : rd h s.1 (s.2.1 * sz) = some es.flatten
  len : es.length = s.2.1
  szs : ∀ e ∈ es, e.length = sz
  one : ∀ e ∈ es, ones e = true
  le : s.2.1 ≤ s.2.2
  nil : s.1 = none → s.2.2 = 0

section
variable {h h' h0 : Hp} {s : Sl} {sz : Nat} {es : List (List Value)}
theorem Arr.ext (he : Ext h h') (a : Arr h s sz es) : Arr h' s sz es := ⟨rd_ext he a.rd, a.len, a.szs, a.one, a.le, a.nil⟩
theorem Arr_nil (h : Hp) (sz : Nat) : Arr h (none, 0, 0) sz [] := ⟨by simp [X.rd], rfl, fun e he => (by cases he), fun e he => (by cases he), Nat.le_refl _, fun _ => rfl⟩
theorem getD_mem {k : Nat} (hk : k < es.length) : es.getD k [] ∈ es := by
  simp only [List.getD, List.getElem?_eq_getElem hk, Option.getD_some]; exact List.getElem_mem hk
theorem IdxX.arr {j : Int} {KK : Nat → Nat → Prop} (a : Arr h s sz es) (hs : 0 < sz) (h0 : 0 ≤ j) (h1 : j < s.2.1) (hk : ∀ b off, s.1 = some ⟨b, off, none⟩ → KK b off) : IdxX s.1 s.2.1 j KK := by
  obtain ⟨b, off, e⟩ := rd_base a.rd (Nat.mul_pos (by omega) hs)
  rw [e]
  exact ⟨⟨⟨h0, h1⟩, hk b off e⟩⟩
theorem Arr.get {b off k : Nat} (a : Arr h s sz es) (he : s.1 = some ⟨b, off, none⟩) (hk : k < s.2.1) : ldV true sz h b (off + k * sz) = some (.agg (es.getD k []).toArray) := by
  have hr := a.rd
  rw [he] at hr
  unfold X.rd at hr
  unfold ldV
  cases hb : h b with
  | none => simp [hb] at hr
  | some x =>
    obtain ⟨c, t⟩ := x
    simp only [hb] at hr ⊢
    split at hr
    · rename_i hl
      have hr := Option.some.inj hr
      have hk1 : (k + 1) * sz ≤ s.2.1 * sz := Nat.mul_le_mul_right sz hk
      have : off + k * sz + sz ≤ c.length := by rw [Nat.succ_mul] at hk1; omega
      rw [if_pos this]
      have e2 : seg c (off + k * sz) sz = seg (seg c off (s.2.1 * sz)) (k * sz) sz := by
        rw [Nat.succ_mul] at hk1
        simp only [seg, List.drop_take, List.take_take, List.drop_drop]
        congr 1
        omega
      have := flat_seg (es := es) (pad := []) a.szs (k := k) (by rw [a.len]; exact hk)
      rw [List.append_nil] at this
      rw [e2, hr, this]
    · cases hr
theorem LoadX.elt {b off : Nat} {j : Int} {KK : Value → Prop} (a : Arr h s sz es) (he : s.1 = some ⟨b, off, none⟩) (k : Nat) (hj : j = k) (hk : k < s.2.1) (hK : KK (.agg (es.getD k []).toArray)) :
    LoadX true sz h b (off + j.toNat * sz) KK := by
  subst hj
  exact ⟨_, by simpa using a.get he hk, hK⟩

/-- A list that is being built, in a block that does not stand in the heap 'h0'. -/
structure Bld (h0 h' : Hp) (sz : Nat) (s : Sl) (es : List (List Value)) : Prop where
  ext : Ext h0 h'
  szs : ∀ e ∈ es, e.length = sz
  one : ∀ e ∈ es, ones e = true
  len : es.length = s.2.1
  blk : (s.1 = none ∧ s.2.2 = 0 ∧ es = []) ∨ ∃ m pad t, s.1 = some ⟨m, 0, none⟩ ∧ h0 m = none ∧ h' m = some (es.flatten ++ pad, t) ∧ s.2.1 ≤ s.2.2 ∧ (s.2.2 - s.2.1) * sz ≤ pad.length

theorem Bld.nil (he : Ext h0 h') : Bld h0 h' sz (none, 0, 0) [] := ⟨he, fun e he => (by cases he), fun e he => (by cases he), rfl, .inl ⟨rfl, rfl, rfl⟩⟩
theorem Bld.arr (b : Bld h0 h' sz s es) : Arr h' s sz es := by
  refine ⟨?_, b.len, b.szs, b.one, ?_, ?_⟩
  · rcases b.blk with ⟨h1, h2, h3⟩ | ⟨m, pad, t, h1, h2, h3, h4, h5⟩
    · have := b.len; subst h3; simp at this; rw [h1, ← this]; simp [X.rd]
    · rw [h1, ← b.len]
      have hl := flat_len b.szs
      simp only [X.rd, h3, List.length_append, Nat.zero_add, hl]
      rw [if_pos (by omega)]
      simp [seg, ← hl]
  · rcases b.blk with ⟨h1, h2, h3⟩ | ⟨m, pad, t, h1, h2, h3, h4, h5⟩
    · have := b.len; subst h3; simp at this; omega
    · exact h4
  · intro hn
    rcases b.blk with ⟨h1, h2, h3⟩ | ⟨m, pad, t, h1, h2, h3, h4, h5⟩
    · exact h2
    · rw [h1] at hn; cases hn
theorem Bld.weaken {h1 : Hp} (he : Ext h1 h0) (b : Bld h0 h' sz s es) : Bld h1 h' sz s es := by
  refine ⟨he.trans b.ext, b.szs, b.one, b.len, ?_⟩
  rcases b.blk with h1 | ⟨m, pad, t, h1, h2, h3⟩
  · exact .inl h1
  · refine .inr ⟨m, pad, t, h1, ?_, h3⟩
    cases hx : (‹Hp› : Hp) m with
    | none => rfl
    | some x => rw [he _ _ hx] at h2; cases h2
theorem Ext.both (he : Ext h0 h') {m : Nat} {x} : Ext (hput h0 m x) (hput h' m x) := fun b y hb => by
  by_cases hbm : b = m
  · subst hbm; rw [hput_same] at hb ⊢; exact hb
  · rw [hput_ne hbm] at hb ⊢; exact he _ _ hb
theorem Bld.box {m : Nat} {x} (hm : Bd h' m) (b : Bld h0 h' sz s es) : Bld (hput h0 m x) (hput h' m x) sz s es := by
  refine ⟨b.ext.both, b.szs, b.one, b.len, ?_⟩
  rcases b.blk with h1 | ⟨m1, pad, t, h1, h2, h3, h4⟩
  · exact .inl h1
  · have hne : m1 ≠ m := by
      have := hm m1 _ h3
      omega
    exact .inr ⟨m1, pad, t, h1, by rw [hput_ne hne]; exact h2, by rw [hput_ne hne]; exact h3, h4⟩

theorem AppendX.bld {e : TypeId} {bytes : Nat} {z : List Value} {nw : Option (List Value)} {new : List Value} {K : Value → Hp → Prop} (b : Bld h0 h' sz s es) (hnw : nw = some new) (hsz : new.length = sz) (hz : z.length = sz) (ho : ones new = true)
    (hby : 0 < bytes) (hroom : (s.2.1 + 1) * bytes ≤ 2 ^ 47) (hk : ∀ s' h'', Bld h0 h'' sz s' (es ++ [new]) → K (sl s') h'') : AppendX h' e sz bytes z s.1 s.2.1 s.2.2 nw 1 K := by
  have hl := flat_len b.szs
  have szs' : ∀ x ∈ es ++ [new], x.length = sz := fun x hx => by
    rcases List.mem_append.1 hx with h1 | h1
    · exact b.szs x h1
    · rw [List.mem_singleton.1 h1]; exact hsz
  have one' : ∀ x ∈ es ++ [new], ones x = true := fun x hx => by
    rcases List.mem_append.1 hx with h1 | h1
    · exact b.one x h1
    · rw [List.mem_singleton.1 h1]; exact ho
  refine ⟨hby, es.flatten, new, b.arr.rd, hnw, hroom, ?_, ?_⟩
  · intro hle
    rcases b.blk with ⟨h1, h2, h3⟩ | ⟨m, pad, t, h1, h2, h3, h4, h5⟩
    · omega
    · rw [h1]
      have hpl : sz ≤ pad.length := by
        refine Nat.le_trans ?_ h5
        have : 1 * sz ≤ (s.2.2 - s.2.1) * sz := Nat.mul_le_mul_right sz (by omega)
        omega
      have hlen := b.len
      refine ⟨_, t, h3, ?_, ho, ?_⟩
      · rw [Nat.succ_mul, ← hlen]; simp only [List.length_append, hl]; omega
      · have e1 : setSeg (es.flatten ++ pad) (0 + s.2.1 * sz) new = (es ++ [new]).flatten ++ pad.drop sz := by
          rw [Nat.zero_add, ← hlen, ← hl]
          simp only [setSeg, List.take_left, List.flatten_append, List.flatten_cons, List.flatten_nil, List.append_nil]
          rw [List.drop_append, hsz]
          simp
        rw [e1, ← h1]
        refine hk (s.1, s.2.1 + 1, s.2.2) _ ⟨fun b' x hb => ?_, szs', one', by simp [hlen], .inr ⟨m, pad.drop sz, t, h1, h2, hput_same .., hle, ?_⟩⟩
        · have : b' ≠ m := by rintro rfl; rw [h2] at hb; cases hb
          rw [hput_ne this]; exact b.ext _ _ hb
        · simp only [List.length_drop]
          obtain ⟨d, hd⟩ : ∃ d, s.2.2 - s.2.1 = d + 1 := ⟨s.2.2 - s.2.1 - 1, by omega⟩
          have : s.2.2 - (s.2.1 + 1) = d := by omega
          rw [hd, Nat.succ_mul] at h5
          rw [this]; omega
  · intro hlt nc hnc m hm
    have hlen := b.len
    have hmn : h0 m = none := by
      cases hx : h0 m with
      | none => rfl
      | some x => have := hm m x (b.ext _ _ hx); omega
    refine hk (some ⟨m, 0, none⟩, s.2.1 + 1, nc) _ ⟨fun b' x hb => ?_, szs', one', by simp [hlen], .inr ⟨m, zeros z (nc - (s.2.1 + 1)), e, rfl, hmn, ?_, hnc, ?_⟩⟩
    · have : b' ≠ m := by rintro rfl; rw [hmn] at hb; cases hb
      rw [hput_ne this]; exact b.ext _ _ hb
    · rw [hput_same]; simp
    · rw [zeros_len, hz]; exact Nat.le_refl _
end
end Go.Proofs.YgvalwGreat.X
