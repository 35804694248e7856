import Derived.Test.YgvalwGreatF37
set_option linter.unusedVariables false
set_option linter.unusedSimpArgs false
namespace Go.Proofs.YgvalwGreat.X
open Go

theorem Fr.drop {h0 h h' : Hp} {w w' : World} (he : Ext h0 h) (f : Fr h0 w h' w') : Fr h w h' w' := by
  have hn : ∀ b, h b = none → h0 b = none := fun b hb => by
    cases hx : h0 b with
    | none => rfl
    | some x => rw [he _ _ hx] at hb; cases hb
  exact ⟨f.size, fun b hb h1 => f.keep b hb (hn b h1), fun b h1 h2 => f.new b (hn b h1) h2, f.os, f.out⟩
theorem LoopX.drop {P : Program} {f : FuncId} {n : Nat} {K : Value → Hp → Prop} {c : Code} {k : List Item} {ρ : Env} {h0 h : Hp} (he : Ext h0 h) (hl : LoopX P f n K c k ρ h0) : LoopX P f n K c k ρ h := by
  refine ⟨fun w cs b h1 h2 hs => ?_⟩
  obtain ⟨v, h', w', fr, a1, a2, a3, a4⟩ := hl.run w cs b h1 h2 (hs.weaken he)
  exact ⟨v, h', w', fr, a1, a2, a3.drop he, a4⟩
theorem join_putm {hi hm : Hp} {m : Nat} {x} (hin : hi m = none) : hput (join hi hm) m x = join hi (hput hm m x) := by
  funext b
  by_cases hb : b = m
  · subst hb; rw [hput_same, join_r hin, hput_same]
  · rw [hput_ne hb]; unfold join; rw [hput_ne hb]
theorem Dj.newm {hi hm : Hp} (hd : Dj hi hm) {m : Nat} {x} (hin : hi m = none) : Dj hi (hput hm m x) := fun c => by
  by_cases hc : c = m
  · subst hc; exact .inl hin
  · rw [hput_ne hc]; exact hd c
theorem join_none {hi hm : Hp} {m : Nat} (hjn : join hi hm m = none) : hi m = none ∧ hm m = none := by
  have hin : hi m = none := by
    cases hx : hi m with
    | none => rfl
    | some x => rw [join_l hx] at hjn; cases hjn
  exact ⟨hin, by rw [join_r hin] at hjn; exact hjn⟩
theorem BoxX.jm {hi hm : Hp} {t : TypeId} {vs : List Value} {KK : Nat → Hp → Prop} (hd : Dj hi hm)
    (hk : ∀ m, hi m = none → hm m = none → Dj hi (hput hm m (vs, t)) → KK m (join hi (hput hm m (vs, t)))) : BoxX (join hi hm) t vs KK := by
  refine ⟨fun m hmb => ?_⟩
  obtain ⟨hin, hmn⟩ := join_none (hmb.none (Nat.le_refl _))
  rw [join_putm hin]
  exact hk m hin hmn (hd.newm hin)
theorem BoxW.jm {hi hm : Hp} {t : TypeId} {vs : List Value} {KK : Nat → Hp → Prop} (hd : Dj hi hm)
    (hk : ∀ m, hi m = none → hm m = none → Dj hi (hput hm m (vs, t)) → KK m (join hi (hput hm m (vs, t)))) : BoxW (join hi hm) t vs KK := by
  refine ⟨fun m hmb => ?_⟩
  obtain ⟨hin, hmn⟩ := join_none hmb
  rw [join_putm hin]
  exact hk m hin hmn (hd.newm hin)
theorem MakeX.jm {hi hm : Hp} {e : TypeId} {z : List Value} {bytes : Nat} {len cap : Int} {KK : Nat → Hp → Prop} (hd : Dj hi hm) (n : Nat) (hl : len = n) (hc : cap = n) (hp : 0 < bytes) (hr : (n : Int) * bytes ≤ 2 ^ 47)
    (hk : ∀ m, hi m = none → hm m = none → Dj hi (hput hm m (zeros z n, e)) → KK m (join hi (hput hm m (zeros z n, e)))) : MakeX (join hi hm) e z bytes len cap KK := by
  subst hl hc
  refine ⟨hp, by omega, by omega, hr, fun m hmb => ?_⟩
  obtain ⟨hin, hmn⟩ := join_none (hmb.none (Nat.le_refl _))
  rw [join_putm hin, Int.toNat_natCast]
  exact hk m hin hmn (hd.newm hin)
theorem StoreX.jm {hi hm : Hp} {m o : Nat} {c : List Value} {t : TypeId} {vs : List Value} {KK : Hp → Prop} (hd : Dj hi hm) (hb : hm m = some (c, t)) (hl : o + vs.length ≤ c.length) (hk : KK (join hi (hput hm m (setSeg c o vs, t)))) : StoreX (join hi hm) m o vs KK := by
  refine ⟨c, t, join_hm hd hb, hl, ?_⟩
  have hin : hi m = none := by
    rcases hd m with h1 | h1
    · exact h1
    · rw [hb] at h1; cases h1
  rw [join_putm hin]; exact hk

section
variable {h : Hp} {K : Value → Hp → Prop}
theorem ones_flat : ∀ {es : List (List Value)}, (∀ e ∈ es, ones e = true) → ones es.flatten = true
  | [], _ => rfl
  | e :: es, h => ones_append (h e (List.mem_cons_self ..)) (ones_flat fun x hx => h x (List.mem_cons_of_mem _ hx))

theorem Arr.own {m : Nat} {t : TypeId} {sz n : Nat} {es : List (List Value)} (hn : es.length = n) (hs : ∀ e ∈ es, e.length = sz) (ho : ∀ e ∈ es, ones e = true) (hb : h m = some (es.flatten, t)) : Arr h (some ⟨m, 0, none⟩, n, n) sz es := by
  refine ⟨?_, hn, hs, ho, Nat.le_refl _, fun h => by cases h⟩
  have hl := flat_len hs
  rw [hn] at hl
  simp only [X.rd, hb, Nat.zero_add, hl]
  rw [if_pos (Nat.le_refl _)]
  simp only [seg, List.drop_zero]
  rw [List.take_of_length_le (by omega)]


set_option maxRecDepth 100000 in
set_option maxHeartbeats 4000000 in
theorem addrsOf_ok {s : Sl} {es : List (List Value)} (hA : Arr h s 20 es) (hr : s.2.1 < 2 ^ 30)
    (hk : ∀ s' h', Ext h h' → Arr h' s' 20 es → K (sl s') h') : CallX Hval.prog 175 [sl s] h K := by
  refine CallX.of_xf T_ok Hval.func175 rfl (by kernel_rfl) (Nat.le_of_ble_eq_true rfl) ?_; conv => whnf
  have hn := hA.len
  refine CondX.mk (fun hnil => ?_) (fun hnil => ?_) <;> conv => whnf
  · have hnil : s.1 = none := by cases hx : s.1 with | none => rfl | some a => rw [hx] at hnil; cases hnil
    have h0 := hA.nil hnil
    have h1 := hA.le
    have : es = [] := List.eq_nil_of_length_eq_zero (by omega)
    subst this
    exact RetX.same (hk _ _ (Ext.refl _) (Arr_nil h 20))
  · refine ⟨by decide, by omega, by omega, (show ((s.2.1 : Nat) : Int) * 20 ≤ 2 ^ 47 by omega), fun m hm => ?_⟩; conv => whnf
    have hfl := flat_len hA.szs
    refine ⟨es.flatten, ?_, _, _, hput_same .., ?_, ones_flat hA.one, ?_⟩
    · have e : Nat.min s.2.1 ((s.2.1 : Nat) : Int).toNat = s.2.1 := by rw [Int.toNat_natCast]; exact Nat.min_self _
      rw [e]; exact rd_ext (Ext.bd hm) hA.rd
    · rw [zeros_len, hfl, hn]; simp; exact Nat.le_refl _
    conv => whnf
    rw [setSeg_all (by rw [zeros_len, hfl, hn]; simp; rfl), hput_hput]
    exact RetX.same (hk _ _ (Ext.bd hm) (Arr.own hn hA.szs hA.one (hput_same ..)))
set_option maxRecDepth 100000 in
set_option maxHeartbeats 4000000 in
theorem wordsOf_ok {s : Sl} {es : List (List Value)} (hA : Arr h s 32 es) (hr : s.2.1 < 2 ^ 30)
    (hk : ∀ s' h', Ext h h' → Arr h' s' 32 es → K (sl s') h') : CallX Hval.prog 65 [sl s] h K := by
  refine CallX.of_xf T_ok Hval.func65 rfl (by kernel_rfl) (Nat.le_of_ble_eq_true rfl) ?_; conv => whnf
  have hn := hA.len
  refine CondX.mk (fun hnil => ?_) (fun hnil => ?_) <;> conv => whnf
  · have hnil : s.1 = none := by cases hx : s.1 with | none => rfl | some a => rw [hx] at hnil; cases hnil
    have h0 := hA.nil hnil
    have h1 := hA.le
    have : es = [] := List.eq_nil_of_length_eq_zero (by omega)
    subst this
    exact RetX.same (hk _ _ (Ext.refl _) (Arr_nil h 32))
  · refine ⟨by decide, by omega, by omega, (show ((s.2.1 : Nat) : Int) * 32 ≤ 2 ^ 47 by omega), fun m hm => ?_⟩; conv => whnf
    have hfl := flat_len hA.szs
    refine ⟨es.flatten, ?_, _, _, hput_same .., ?_, ones_flat hA.one, ?_⟩
    · have e : Nat.min s.2.1 ((s.2.1 : Nat) : Int).toNat = s.2.1 := by rw [Int.toNat_natCast]; exact Nat.min_self _
      rw [e]; exact rd_ext (Ext.bd hm) hA.rd
    · rw [zeros_len, hfl, hn]; simp; exact Nat.le_refl _
    conv => whnf
    rw [setSeg_all (by rw [zeros_len, hfl, hn]; simp; rfl), hput_hput]
    exact RetX.same (hk _ _ (Ext.bd hm) (Arr.own hn hA.szs hA.one (hput_same ..)))
set_option maxRecDepth 100000 in
set_option maxHeartbeats 4000000 in
theorem natOf_ok {s : Sl} {x : Int} (ha : NtS h s x) (hk : ∀ s' h', Ext h h' → NtS h' s' x → K (sl s') h') : CallX Hval.prog 173 [sl s] h K := by
  refine CallX.of_xf T_ok Hval.func173 rfl (by kernel_rfl) (Nat.le_of_ble_eq_true rfl) ?_; conv => whnf
  obtain ⟨l, hb, e1, e2⟩ := ha
  refine bytesOf_any hb fun b c h' he hb' => ?_; conv => whnf
  exact RetX.same (hk (b, s.2.1, c) _ he ⟨l, hb', e1, e2⟩)
end
end Go.Proofs.YgvalwGreat.X
