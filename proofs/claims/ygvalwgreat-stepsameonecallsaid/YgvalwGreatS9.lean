import Derived.Test.YgvalwGreatS8
import Derived.Test.YgvalwGreatL1
import Derived.Test.YgvalwGreatV2
set_option linter.unusedVariables false
set_option linter.unusedSimpArgs false
namespace Go.Proofs.YgvalwGreat.X
open Go

theorem dj_join {x y z : Hp} : Dj (join x y) z ↔ Dj x z ∧ Dj y z := by
  constructor
  · intro h
    refine ⟨fun b => ?_, fun b => ?_⟩
    · rcases h b with h1 | h1
      · exact .inl (join_none h1).1
      · exact .inr h1
    · rcases h b with h1 | h1
      · exact .inl (join_none h1).2
      · exact .inr h1
  · rintro ⟨h1, h2⟩ b
    rcases h1 b with q1 | q1
    · rcases h2 b with q2 | q2
      · left; unfold join; rw [q1]; exact q2
      · exact .inr q2
    · exact .inr q1
theorem join_assoc (x y z : Hp) : join (join x y) z = join x (join y z) := by
  funext b
  unfold join
  cases x b with
  | some v => rfl
  | none => rfl
theorem join_comm {x y : Hp} (h : Dj x y) : join x y = join y x := by
  funext b
  unfold join
  rcases h b with h1 | h1
  · rw [h1]
    cases y b <;> rfl
  · rw [h1]
    cases x b <;> rfl
/-- Four parts of one heap. -/
structure D4 (hi a b c : Hp) : Prop where
  ia : Dj hi a
  ib : Dj hi b
  ic : Dj hi c
  ab : Dj a b
  ac : Dj a c
  bc : Dj b c
section
variable {h hi hm hb hc : Hp} {K : Value → Hp → Prop} {eb : Nat} {m : MS} {w : AW} {v : VS} {sD : Sl} {d : List Int} {g s0 l0 : Int}
theorem D4.of (h1 : Dj hi hm) (h2 : Dj (join hi hm) hb) (h3 : Dj (join (join hi hm) hb) hc) : D4 hi hm hb hc :=
  ⟨h1, (dj_join.1 h2).1, (dj_join.1 (dj_join.1 h3).1).1, (dj_join.1 h2).2, (dj_join.1 (dj_join.1 h3).1).2, (dj_join.1 h3).2⟩
theorem D4.e (D : D4 hi hm hb hc) : Dj (join hi hm) hb := dj_join.2 ⟨D.ib, D.ab⟩
theorem D4.y (D : D4 hi hm hb hc) : Dj (join (join hi hm) hb) hc := dj_join.2 ⟨dj_join.2 ⟨D.ic, D.ac⟩, D.bc⟩
theorem D4.s (D : D4 hi hm hb hc) : Dj (join hi hc) (join hm hb) := dj_join.2 ⟨(dj_join.2 ⟨D.ia.comm, D.ib.comm⟩).comm, (dj_join.2 ⟨D.ac, D.bc⟩).comm⟩
theorem D4.turn (D : D4 hi hm hb hc) : join (join (join hi hm) hb) hc = join (join hi hc) (join hm hb) := by
  rw [join_assoc hi hm hb, join_assoc hi (join hm hb) hc, join_comm (dj_join.2 ⟨D.ac, D.bc⟩), ← join_assoc]
theorem D4.back {hi' hc' : Hp} (D : D4 hi hm hb hc) (h1 : Dj hi' hc') (h2 : Dj (join hi' hc') (join hm hb)) : D4 hi' hm hb hc' := by
  have a := dj_join.1 h2
  have b1 := dj_join.1 a.1.comm
  have b2 := dj_join.1 a.2.comm
  exact ⟨b1.1.comm, b1.2.comm, h1, D.ab, b2.1, b2.2⟩
set_option maxRecDepth 100000 in
set_option maxHeartbeats 4000000 in
theorem ebegin_no (I : EI hi hm hb eb m w v) (he : Ext (join hi hm) h) (hD : Byt h sD.1 sD.2.1 sD.2.2 d) (hg : 0 ≤ g ∧ g < 18446744073709551616) (hv : vd d g ≠ 0) (hk : K (.int .u8 (vd d g)) h) : CallX Hval.prog 10 [.pointer (some ⟨eb, 0, none⟩), .agg (txC sD g).toArray] h K := by
  refine CallX.of_xf T_ok Hval.func10 rfl (by kernel_rfl) (Nat.le_of_ble_eq_true rfl) ?_; conv => whnf
  refine BoxX.ext fun m3 hm3 em3 => ?_; conv => whnf
  refine DrawX.go T_ok hM Hval.func10 (tb := dr10) rfl (by kernel_rfl) ?_; conv => whnf
  refine LoadX.all (c := txC sD g) (hput_same ..) rfl ?_; conv => whnf
  refine open_no I (he.trans em3) (hD.ext em3) hg hv ?_; conv => whnf
  repeat (refine Ob.mk (by exact ldV_all (hput_same ..) rfl) ?_; conv => whnf)
  exact RetX.drop em3 hk
set_option maxRecDepth 100000 in
set_option maxHeartbeats 4000000 in
theorem ebegin_ok (I : EI hi hm hb eb m w v) (hD : BytS hi sD d) (hg : 0 ≤ g ∧ g < 18446744073709551616) (hv : vd d g = 0)
    (hk : ∀ hi' hm' m' v', Ext hi hi' → EX hi' hm' hb eb m' 0 (begW w) [begW w] v' (fun _ => []) [] → absM m' 0 (begW w) [begW w] (fun _ => []) s0 l0 = begA w d g s0 l0 → EnvM m' sndA → Rs (spn (begA w d g s0 l0)) v' [begW w] → K (.int .u8 0) (join (join hi' hm') hb)) : CallX Hval.prog 10 [.pointer (some ⟨eb, 0, none⟩), .agg (txC sD g).toArray] (join (join hi hm) hb) K := by
  refine CallX.of_xf T_ok Hval.func10 rfl (by kernel_rfl) (Nat.le_of_ble_eq_true rfl) ?_; conv => whnf
  refine BoxX.jj I.A.V.dj I.dj fun m3 e3 d31 d32 => ?_; conv => whnf
  have e3 := e3 ((txC sD g).toArray.toList, 40)
  have I := I.exti e3 (d31 _) (d32 _)
  have b3 : hput hi m3 ((txC sD g).toArray.toList, 40) m3 = some (txC sD g, 40) := hput_same ..
  have hD := hD.ext e3
  clear d31 d32
  generalize hput hi m3 ((txC sD g).toArray.toList, 40) = h1 at *
  refine DrawX.go T_ok hM Hval.func10 (tb := dr10) rfl (by kernel_rfl) ?_; conv => whnf
  refine LoadX.all (join_l (join_l b3)) rfl ?_; conv => whnf
  refine open_ok (s0 := s0) (l0 := l0) I hD hg hv fun hi' hm' m' v' e2 X ha E R => ?_; conv => whnf
  repeat (refine Ob.mk (by exact ldV_all (join_l (join_l (e2 _ _ b3))) rfl) ?_; conv => whnf)
  exact RetX.same (hk hi' hm' m' v' (e3.trans e2) X ha E R)
set_option maxRecDepth 100000 in
set_option maxHeartbeats 4000000 in
theorem eview_ok {V : VW} (h46 : ∀ (h0 : Hp) (K' : Value → Hp → Prop), Ext h h0 → (∀ h' sS sM sR, Ext h0 h' → VwOK h' V sS sM sR → K' (.agg (V.cells sS sM sR).toArray) h') → CallX Hval.prog 46 [.pointer (some ⟨eb, 0, none⟩)] h0 K')
    (hlen : V.self.length = 20 ∧ V.caller.length = 20) (hk : ∀ h' sS sM sR, Ext h h' → VwOK h' V sS sM sR → K (.agg (V.cells sS sM sR).toArray) h') : CallX Hval.prog 13 [.pointer (some ⟨eb, 0, none⟩)] h K := by
  have hl : ∀ sS sM sR, (V.cells sS sM sR).length = 50 := fun sS sM sR => by simp [VW.cells, vwCells, bcells_length, hlen.1, hlen.2]
  have ho : ∀ sS sM sR, ones (V.cells sS sM sR) = true := fun sS sM sR => ones_append rfl (ones_append (ones_bcells _) (ones_append (ones_bcells _) rfl))
  rw [← join_hNil h]
  refine CallX.of_xf T_ok Hval.func13 rfl (by kernel_rfl) (Nat.le_of_ble_eq_true rfl) ?_; conv => whnf
  refine BoxX.jm (Dj_hNil h) fun m2 q1 q2 d2 => ?_; conv => whnf
  refine CallX.fj d2 (h46 h _ (Ext.refl h) fun h' sS sM sR e1 V1 d3 => ?_); conv => whnf
  refine Ob.mk ⟨by rw [List.size_toArray, hl]; rfl, ho _ _ _⟩ ?_; conv => whnf
  refine StoreX.top d3 (V.cells sS sM sR) (setSeg_all (by rw [List.toList_toArray, hl]; rfl)) (by rw [List.toList_toArray, hl]; decide) fun d4 => ?_; conv => whnf
  refine LoadX.all (join_hm d4 (hput_same ..)) (by rw [hl]; rfl) ?_; conv => whnf
  exact RetX.drop (Ext.jl _ _) (hk h' sS sM sR e1 V1)
end
end Go.Proofs.YgvalwGreat.X
