import Derived.Test.YgvalwGreatS13
import Derived.Test.YgvalwGreatR1
set_option linter.unusedVariables false
set_option linter.unusedSimpArgs false
namespace Go.Proofs.YgvalwGreat.X
open Go

/-- Bytes that can be read, however many. -/
structure BytL (h : Hp) (s : Sl) (l : List Int) : Prop where
  rd : rd h s.1 s.2.1 = some (bcells l)
  isB : isB l
  len : l.length = s.2.1
/-- Bytes of an input. -/
structure BytI (h : Hp) (s : Sl) (l : List Int) : Prop where
  rd : s.2.1 ≠ 0 → rd h s.1 s.2.1 = some (bcells l)
  isB : isB l
  len : l.length = s.2.1
theorem LoadR.h {R h : Hp} {agg : Bool} {sz b o : Nat} {K : Value → Prop} (c : LoadX agg sz h b o K) : LoadR R agg sz h b o K := by
  obtain ⟨v, h1, h2⟩ := c.run
  exact ⟨v, .inl h1, h2⟩
theorem LoadR.of {R h : Hp} {agg : Bool} {sz b o : Nat} {K : Value → Prop} (v : Value) (h1 : ldV agg sz R b o = some v) (h2 : K v) : LoadR R agg sz h b o K := ⟨v, .inr h1, h2⟩
section
variable {R h : Hp} {K : Value → Hp → Prop} {s : Sl} {l : List Int}
theorem MakeX.byt {len : Int} {KK : Nat → Hp → Prop} (n : Nat) (hl : len = n) (hr : n ≤ 2 ^ 47) (hk : ∀ b, Bd h b → KK b (hput h b (bcells (List.replicate n 0), 5))) : MakeX h 5 z5 1 len len KK := by
  subst hl
  refine ⟨by decide, by omega, by omega, by omega, fun b hb => ?_⟩
  rw [Int.toNat_natCast, zeros_bcells]; exact hk b hb
set_option maxRecDepth 100000 in
set_option maxHeartbeats 4000000 in
theorem copyB_R (hb : BytI R s l) (hr : s.2.1 ≤ 2 ^ 47) (hk1 : l = [] → K (sl nilS) h) (hk : ∀ m, Bd h m → K (.slice (some ⟨m, 0, none⟩) s.2.1 s.2.1) (hput h m (bcells l, 5))) : CallR R Hval.prog 18 [sl s] h K := by
  have hl := hb.len
  obtain ⟨base, len, cap⟩ := s
  dsimp only at hl hr
  refine CallR.of_xf T_ok Hval.func18 rfl (by kernel_rfl) (Nat.le_of_ble_eq_true rfl) ?_; conv => whnf
  cases base with
  | none =>
    have : l = [] := List.eq_nil_of_length_eq_zero (by by_cases h0 : len = 0; omega; have := hb.rd h0; unfold rd at this; split at this <;> simp_all)
    repeat (first | (refine CondX.tt ?_; conv => whnf) | (refine CondX.ff ?_; conv => whnf))
    exact RetX.same (hk1 this)
  | some ad =>
    repeat (first | (refine CondX.tt ?_; conv => whnf) | (refine CondX.ff ?_; conv => whnf))
    refine MakeX.byt len rfl hr fun m hm => ?_; conv => whnf
    refine ⟨bcells l, .inr ?_, ?_⟩
    · by_cases h0 : len = 0
      · have hl0 : l = [] := List.eq_nil_of_length_eq_zero (by omega)
        exact .inr ⟨by show Nat.min len len = 0; rw [h0]; rfl, by rw [hl0]; rfl⟩
      · refine .inl ?_
        show rd R (some ad) (Nat.min len len * 1) = _
        rw [Nat.mul_one, show Nat.min len len = len from Nat.min_self _]; exact hb.rd h0
    refine ⟨bcells (List.replicate len 0), 5, hput_same .., by simp [bcells_length, hl], ones_bcells _, ?_⟩; conv => whnf
    rw [hput_hput, setSeg_all (by simp [bcells_length, hl])]
    exact RetX.same (hk m hm)
theorem bytL_own {m : Nat} (hB : isB l) : BytL (hput h m (bcells l, 5)) (some ⟨m, 0, none⟩, l.length, l.length) l := ⟨rd_own_at (hput_same ..) (by rw [bcells_length]), hB, rfl⟩
theorem bytL_byt (b : BytL h s l) (hr : s.2.1 < 2 ^ 40) (hc : s.2.1 ≤ s.2.2) (hn : s.1 = none → s.2.2 = 0) : BytS h s l := ⟨b.rd, b.isB, hc, hn, hr⟩
set_option maxRecDepth 100000 in
set_option maxHeartbeats 4000000 in
theorem callOf_R {g : Int} (hb : BytI R s l) (hr : s.2.1 ≤ 2 ^ 47) (hk : ∀ s' h', Ext h h' → BytL h' s' l → s'.2.2 = s'.2.1 → (s'.1 = none → s'.2.2 = 0) → K (.agg (txC s' g).toArray) h') : CallR R Hval.prog 8 [sl s, .int .u64 g] h K := by
  rw [← join_hNil h]
  refine CallR.of_xf T_ok Hval.func8 rfl (by kernel_rfl) (Nat.le_of_ble_eq_true rfl) ?_; conv => whnf
  refine BoxX.jm (Dj_hNil h) fun m1 q1 q2 d1 => ?_; conv => whnf
  refine CallX.toR (toA1_ok ?_); conv => whnf
  refine BoxX.jm d1 fun m2 q3 q4 d2 => ?_; conv => whnf
  refine Ob.mk ⟨rfl, rfl⟩ ?_; conv => whnf
  refine StoreX.top d2 (txC nilS 200000) (setSeg_all rfl) (Nat.le_of_ble_eq_true rfl) fun d3 => ?_; conv => whnf
  have hne : m1 ≠ m2 := by rintro rfl; rw [hput_same] at q4; cases q4
  refine copyB_R hb hr (fun hl => ?_) (fun m hm => ?_) <;> conv => whnf
  · refine StoreX.top d3 (txC nilS 200000) rfl (Nat.le_of_ble_eq_true rfl) fun d5 => ?_; conv => whnf
    refine StoreX.top d5 (txC nilS g) rfl (Nat.le_of_ble_eq_true rfl) fun d6 => ?_; conv => whnf
    refine LoadR.h (LoadX.all (join_hm d6 (hput_same ..)) rfl ?_); conv => whnf
    have bm1 : hput (hput hNil m1 ((40, y40).snd.zero, 40)) m2 (txC nilS g, 40) m1 = some ((40, y40).snd.zero, 40) := by rw [hput_ne hne]; exact hput_same ..
    refine Ob.mk ⟨rfl, rfl⟩ ?_; conv => whnf
    refine StoreX.jm d6 bm1 (Nat.le_of_ble_eq_true rfl) ?_; conv => whnf
    refine LoadX.all (c := txC nilS g) (join_hm (Dj.put d6 bm1) (hput_same ..)) rfl ?_; conv => whnf
    exact RetX.drop (Ext.jl _ _) (hk nilS h (Ext.refl h) (by subst hl; exact ⟨rfl, fun d hd => (by cases hd), rfl⟩) rfl (fun _ => rfl))
  · have hmn := join_none (hm.none (Nat.le_refl _))
    rw [join_put]
    have d4 : Dj (hput h m (bcells l, 5)) (hput (hput hNil m1 ((40, y40).snd.zero, 40)) m2 (txC nilS 200000, 40)) := d3.hn hmn.2
    have hx : Ext h (hput h m (bcells l, 5)) := Ext.new hmn.1
    refine StoreX.top d4 (txC (some ⟨m, 0, none⟩, s.2.1, s.2.1) 200000) rfl (Nat.le_of_ble_eq_true rfl) fun d5 => ?_; conv => whnf
    refine StoreX.top d5 (txC (some ⟨m, 0, none⟩, s.2.1, s.2.1) g) rfl (Nat.le_of_ble_eq_true rfl) fun d6 => ?_; conv => whnf
    refine LoadR.h (LoadX.all (join_hm d6 (hput_same ..)) rfl ?_); conv => whnf
    have bm1 : hput (hput hNil m1 ((40, y40).snd.zero, 40)) m2 (txC (some ⟨m, 0, none⟩, s.2.1, s.2.1) g, 40) m1 = some ((40, y40).snd.zero, 40) := by rw [hput_ne hne]; exact hput_same ..
    refine Ob.mk ⟨rfl, rfl⟩ ?_; conv => whnf
    refine StoreX.jm d6 bm1 (Nat.le_of_ble_eq_true rfl) ?_; conv => whnf
    refine LoadX.all (c := txC (some ⟨m, 0, none⟩, s.2.1, s.2.1) g) (join_hm (Dj.put d6 bm1) (hput_same ..)) rfl ?_; conv => whnf
    exact RetX.drop (Ext.jl _ _) (hk (some ⟨m, 0, none⟩, s.2.1, s.2.1) _ hx (by have := bytL_own (h := h) (m := m) hb.isB; rwa [hb.len] at this) rfl (fun h => by cases h))
end
end Go.Proofs.YgvalwGreat.X
