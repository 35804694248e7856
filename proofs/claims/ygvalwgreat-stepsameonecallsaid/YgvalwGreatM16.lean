import Derived.Test.YgvalwGreatM15
set_option linter.unusedVariables false
set_option linter.unusedSimpArgs false
namespace Go.Proofs.YgvalwGreat.X
open Go

section
variable {h : Hp} {K : Value → Hp → Prop}
def DI (l : List Int) (D : Nat → Nat) (i f : Nat) : Prop := (∀ j, D j < 2 ^ 64) ∧ l.length ≤ i + f ∧ i ≤ 600 ∧ (∀ a : Nat, i ≤ a → (D (a / 64)).testBit (a % 64) = false) ∧ ∀ a : Nat, a < 512 → isDestI l a = ((D (a / 64)).testBit (a % 64) || walkD f l i a)
theorem bit_upd (D : Nat → Nat) (i a : Nat) : (updN D (i / 64) (D (i / 64) ||| (1 <<< (i % 64)) % 2 ^ 64) (a / 64)).testBit (a % 64) = ((D (a / 64)).testBit (a % 64) || decide (a = i)) := by
  have hm : (1 <<< (i % 64)) % 2 ^ 64 = 2 ^ (i % 64) := by
    rw [Nat.shiftLeft_eq, Nat.one_mul, Nat.mod_eq_of_lt (Nat.pow_lt_pow_right (by decide) (by omega))]
  rw [hm]
  unfold updN
  by_cases h1 : a / 64 = i / 64
  · rw [if_pos h1, Nat.testBit_or, Nat.testBit_two_pow, h1]
    congr 1
    exact decide_eq_decide.2 ⟨fun h => by omega, fun h => by omega⟩
  · rw [if_neg h1, decide_eq_false (by omega), Bool.or_false]
theorem DI.step {l : List Int} {D : Nat → Nat} {i f : Nat} (I : DI l D i f) (hB : isB l) (hl : l.length ≤ 512) (hi : i < l.length) (h91 : l.getD i 0 ≠ 91) : DI l D (i + (1 + (immI (l.getD i 0)).toNat)) (f - 1) := by
  obtain ⟨i1, i2, i3, i4, i5⟩ := I
  have hg := hB.get i
  have hb := immI_bd hg.1
  refine ⟨i1, by omega, by omega, fun a ha => i4 a (by omega), fun a ha => ?_⟩
  rw [i5 a ha]
  obtain ⟨f', rfl⟩ : ∃ f', f = f' + 1 := ⟨f - 1, by omega⟩
  rw [show f' + 1 - 1 = f' by omega]
  by_cases hia : i = a
  · subst hia
    rw [i4 i (Nat.le_refl _), Bool.false_or, Bool.false_or]
    have hw : walkD f' l (i + (1 + (immI (l.getD i 0)).toNat)) (i : Int) = false := by
      cases hc : walkD f' l (i + (1 + (immI (l.getD i 0)).toNat)) (i : Int) with
      | false => rfl
      | true => have := walkD_ge _ _ _ _ hc; omega
    rw [hw]
    unfold walkD
    rw [if_pos hi, if_pos rfl]
    exact beq_eq_false_iff_ne.2 h91
  · congr 1
    conv => lhs; unfold walkD
    rw [if_pos hi, if_neg (by omega), Nat.add_assoc]
theorem DI.hit {l : List Int} {D : Nat → Nat} {i f : Nat} (I : DI l D i f) (hB : isB l) (hl : l.length ≤ 512) (hi : i < l.length) (h91 : l.getD i 0 = 91) : DI l (updN D (i / 64) (D (i / 64) ||| (1 <<< (i % 64)) % 2 ^ 64)) (i + (1 + (immI (l.getD i 0)).toNat)) (f - 1) := by
  obtain ⟨i1, i2, i3, i4, i5⟩ := I
  have hg := hB.get i
  have hb := immI_bd hg.1
  refine ⟨fun j => ?_, by omega, by omega, fun a ha => ?_, fun a ha => ?_⟩
  · unfold updN; split
    · exact Nat.or_lt_two_pow (i1 _) (Nat.mod_lt _ (by decide))
    · exact i1 j
  · rw [bit_upd, i4 a (by omega), decide_eq_false (by omega)]; rfl
  · rw [bit_upd, i5 a ha]
    obtain ⟨f', rfl⟩ : ∃ f', f = f' + 1 := ⟨f - 1, by omega⟩
    rw [show f' + 1 - 1 = f' by omega]
    by_cases hia : i = a
    · subst hia
      rw [i4 i (Nat.le_refl _), decide_eq_true rfl]
      unfold walkD
      rw [if_pos hi, if_pos rfl, h91]; rfl
    · rw [decide_eq_false (fun e => hia e.symm), Bool.or_false]
      congr 1
      conv => lhs; unfold walkD
      rw [if_pos hi, if_neg (by omega), Nat.add_assoc]
set_option maxRecDepth 100000 in
set_option maxHeartbeats 4000000 in
theorem scan_ok {s : Sl} {l : List Int} (hs : BytS h s l) (hl : l.length ≤ 512) (hk : ∀ D : Nat → Nat, (∀ i, D i < 2 ^ 64) → (∀ a, a < 512 → (D (a / 64)).testBit (a % 64) = isDestI l a) → K (.agg (dstC D).toArray) h) : CallX Hval.prog 163 [sl s] h K := by
  have hln := hs.len
  have hB := hs.isB
  refine CallX.of_xf T_ok Hval.func163 rfl (by kernel_rfl) (Nat.le_of_ble_eq_true rfl) ?_; conv => whnf
  refine BoxX.ext fun n2 hn2 en2 => ?_; conv => whnf
  refine BoxX.ext fun n3 hn3 en3 => ?_; conv => whnf
  have hne : n2 ≠ n3 := fun e => by have := hn3.at; rw [← e, hput_same] at this; cases this
  refine CondX.dF (by omega) ?_; conv => whnf
  refine LoopX.st T_ok Hval.func163 (σ := Nat × (Nat → Nat) × Nat) (fun q => [(0, sl s), (2, .pointer (some ⟨n2, 0, none⟩)), (3, .pointer (some ⟨n3, 0, none⟩)), (4, .int .i64 q.1)]) (fun q h' => DI l q.2.1 q.1 q.2.2 ∧ h' = hput (hput h n2 ((78, y78).snd.zero, 78)) n3 (dstC q.2.1, 78)) (fun q => 700 - q.1) (0, (fun _ => 0), l.length) ⟨rfl, rfl, rfl, rfl, trivial⟩ ⟨⟨fun _ => by show 0 < 2 ^ 64; decide, by show l.length ≤ 0 + l.length; omega, by show 0 ≤ 600; omega, fun a _ => by simp, fun a ha => by simp [isDestI]⟩, rfl⟩ ?_
  rintro ⟨i, D, f⟩ ρ h' ⟨I, rfl⟩ ih
  dsimp only at I ih ⊢
  have hs' := (hs.ext en2).ext (Ext.keep (x := (dstC D, 78)) (Ext.refl _) hn3.at)
  have i3 := I.2.2.1
  conv => whnf
  refine CondX.decI (fun hc => ?_) (fun hc => ?_) <;> conv => whnf
  · obtain ⟨b, off, hbo⟩ := rd_base hs.rd (by omega)
    have hg := hB.get i
    have hbi := immI_bd hg.1
    rw [hbo]
    refine IdxX.at (by omega) (by omega) ?_; conv => whnf
    refine LoadX.byte hs' hbo i rfl (by omega) rfl ?_; conv => whnf
    have ei : IntKind.i64.wrap (immI (l.getD i 0)) = ((immI (l.getD i 0)).toNat : Nat) := by rw [wrap_i64 (by omega) (by omega)]; omega
    have ej : IntKind.i64.wrap (1 + ((immI (l.getD i 0)).toNat : Int)) = ((1 + (immI (l.getD i 0)).toNat : Nat) : Int) := by rw [wrap_i64 (by omega) (by omega)]; omega
    have ek : IntKind.i64.wrap ((i : Int) + ((1 + (immI (l.getD i 0)).toNat : Nat) : Int)) = ((i + (1 + (immI (l.getD i 0)).toNat) : Nat) : Int) := by rw [wrap_i64 (by omega) (by omega)]; omega
    refine CondX.eqI (fun h91 => ?_) (fun h91 => ?_) <;> conv => whnf
    · refine DrawX.go T_ok hM Hval.func163 (tb := dr163) rfl (by kernel_rfl) ?_; conv => whnf
      repeat (refine Ob.mk (by first | decide | omega) ?_; conv => whnf)
      rw [td64, show IntKind.i64.wrap ((i / 64 : Nat) : Int) = ((i / 64 : Nat) : Int) from wrap_i64 (by omega) (by omega)]
      refine Ob.mk ⟨by omega, by omega⟩ ?_; conv => whnf
      refine LoadX.fn (hput_same ..) (i / 64) (by rw [Int.toNat_natCast]; show 0 + i / 64 * 1 = _; omega) (by omega) ?_; conv => whnf
      repeat (refine Ob.mk (by first | decide | omega) ?_; conv => whnf)
      rw [tm64]
      repeat (refine Ob.mk (by first | decide | omega) ?_; conv => whnf)
      have e1 : IntKind.u64.wrap (1 * 2 ^ min (((i % 64 : Nat) : Int)).toNat IntKind.u64.bits) = (((1 <<< (i % 64)) % 2 ^ 64 : Nat) : Int) := kshlN 1 (i % 64) (by omega)
      rw [e1, or64 (I.1 _) (Nat.mod_lt _ (by decide))]
      refine StoreX.fn (hput_same ..) (i / 64) (by rw [Int.toNat_natCast]; show 0 + i / 64 * 1 = _; omega) (by omega) ?_
      rw [hput_hput]; conv => whnf
      have eD : fnv 8 (updV (fun j => Value.int .u64 (D j)) (i / 64) (.int .u64 ((D (i / 64) ||| (1 <<< (i % 64)) % 2 ^ 64 : Nat) : Int))) = dstC (updN D (i / 64) (D (i / 64) ||| (1 <<< (i % 64)) % 2 ^ 64)) := fnv_ext fun j _ => by
        unfold updV updN; split <;> rfl
      rw [eD]
      have hs2 := (hs.ext en2).ext (Ext.keep (x := (dstC (updN D (i / 64) (D (i / 64) ||| (1 <<< (i % 64)) % 2 ^ 64)), 78)) (Ext.refl _) hn3.at)
      rw [hbo]
      refine IdxX.at (by omega) (by omega) ?_; conv => whnf
      refine LoadX.byte hs2 hbo i rfl (by omega) rfl ?_; conv => whnf
      refine imm_ok hg.1 hg.2 ?_; conv => whnf
      rw [ei, ej, ek, ← hbo]
      exact ih (_, _, f - 1) _ _ ⟨I.hit hB hl (by omega) h91, rfl⟩ (by dsimp only; omega) ⟨rfl, rfl, rfl, rfl, trivial⟩
    · rw [hbo]
      refine IdxX.at (by omega) (by omega) ?_; conv => whnf
      refine LoadX.byte hs' hbo i rfl (by omega) rfl ?_; conv => whnf
      refine imm_ok hg.1 hg.2 ?_; conv => whnf
      rw [ei, ej, ek, ← hbo]
      exact ih (_, D, f - 1) _ _ ⟨I.step hB hl (by omega) h91, rfl⟩ (by dsimp only; omega) ⟨rfl, rfl, rfl, rfl, trivial⟩
  · have hfin : ∀ a, a < 512 → (D (a / 64)).testBit (a % 64) = isDestI l a := fun a ha => by
      rw [I.2.2.2.2 a ha, walkD_end _ _ (by omega), Bool.or_false]
    refine LoadX.all (c := dstC D) (hput_same ..) rfl ?_; conv => whnf
    refine Ob.mk ⟨rfl, ?_⟩ ?_
    · exact ones_fnv fun _ _ => rfl
    conv => whnf
    refine StoreX.whole (c := (78, y78).snd.zero) (t := 78) (by rw [hput_ne hne]; exact hput_same ..) rfl ?_; conv => whnf
    refine LoadX.all (c := dstC D) (hput_same ..) rfl ?_; conv => whnf
    have hn3h : h n3 = none := by
      cases hx : h n3 with
      | none => rfl
      | some y => have := en2 _ _ hx; rw [hn3.at] at this; cases this
    exact RetX.drop (h' := h) (Ext.keep (Ext.keep en2 hn3h) hn2.at) (hk D I.1 hfin)
end
end Go.Proofs.YgvalwGreat.X
