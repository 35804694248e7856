import Derived.Test.YgvalwGreatY1
set_option linter.unusedVariables false
set_option linter.unusedSimpArgs false
namespace Go.Proofs.YgvalwGreat.X
open Go

section
variable {hi hm h : Hp} {K : Value → Hp → Prop} {c : Nat} {tc : TypeId} {s : YS} {sD : Sl} {g : Int} {d : List Int}
set_option maxRecDepth 100000 in
set_option maxHeartbeats 4000000 in
theorem yprice_j (hd : Dj hi hm) (hc : hm c = some (sCells s, tc)) (E : EnvOK hi s) (hk : ∀ sv hi', Ext hi hi' → Dj hi' hm → NtS hi' sv 0 → K (sl sv) (join hi' hm)) : CallX Hval.prog 32 [.pointer (some ⟨c, 0, none⟩), .agg (txC sD g).toArray] (join hi hm) K := by
  have hbg := big_lt
  have hE : ∀ {hx : Hp}, Ext hi hx → EnvOK hx s := fun {hx} e => ⟨E.env, E.origin, E.oB, E.made, E.price.ext e⟩
  refine CallX.of_xf T_ok Hval.func32 rfl (by kernel_rfl) (Nat.le_of_ble_eq_true rfl) ?_; conv => whnf
  refine BoxX.j hd fun m3 q1 q2 d3 em3 => ?_; conv => whnf
  refine fees_ok (join_l (hput_same ..)) ?_; conv => whnf
  refine BoxX.j d3 fun m5 q3 q4 d5 em5 => ?_; conv => whnf
  refine BoxX.j d5 fun m6 q5 q6 d6 em6 => ?_; conv => whnf
  have b5 := em6 _ _ (hput_same (h := hput hi m3 ((txC sD g).toArray.toList, 40)) (b := m5) (x := ((33, y33).snd.zero, 33)))
  have b6 : hput (hput (hput hi m3 ((txC sD g).toArray.toList, 40)) m5 ((33, y33).snd.zero, 33)) m6 ((33, y33).snd.zero, 33) m6 = some (bcells zz32, 33) := hput_same ..
  have b5 : hput (hput (hput hi m3 ((txC sD g).toArray.toList, 40)) m5 ((33, y33).snd.zero, 33)) m6 ((33, y33).snd.zero, 33) m5 = some (bcells zz32, 33) := b5
  have eA := (em3.trans em5).trans em6
  clear q1 q2 q3 q4 q5 q6 d3 d5 em3 em5 em6
  generalize hput (hput (hput hi m3 ((txC sD g).toArray.toList, 40)) m5 ((33, y33).snd.zero, 33)) m6 ((33, y33).snd.zero, 33) = H at *
  refine Ob.mk ⟨rfl, rfl⟩ ?_; conv => whnf
  refine StoreX.id (join_l b5) rfl ?_; conv => whnf
  refine Ob.mk ⟨rfl, rfl⟩ ?_; conv => whnf
  refine StoreX.id (join_l b6) rfl ?_; conv => whnf
  have y5 : Byt H (some ⟨m5, 0, none⟩) 32 32 zz32 := ⟨rd_own_at b5 rfl, isB_zeros _, Nat.le_refl _, (fun h => by cases h), by decide⟩
  have y6 : Byt H (some ⟨m6, 0, none⟩) 32 32 zz32 := ⟨rd_own_at b6 rfl, isB_zeros _, Nat.le_refl _, (fun h => by cases h), by decide⟩
  repeat (refine Ob.mk (by first | decide | omega) ?_; conv => whnf)
  refine CallX.fj d6 (fromBE_ok y5 fun b n c1 h1 e1 g1 d1 => ?_); conv => whnf
  refine baseFee_ok d1 hc (hE (eA.trans e1)) fun s2 h2 e2 d2 g2 => ?_; conv => whnf
  refine CallX.fj d2 (less_ok (g1.ext e2) g2 fun b3 n3 c3 h3 e3 g3 d3 => ?_); conv => whnf
  have eB := (e1.trans e2).trans e3
  refine DrawX.go T_ok hM Hval.func32 (tb := dr32) rfl (by kernel_rfl) ?_; conv => whnf
  refine baseFee_ok d3 hc (hE (eA.trans eB)) fun s4 h4 e4 d4 g4 => ?_; conv => whnf
  repeat (refine Ob.mk (by first | decide | omega) ?_; conv => whnf)
  refine CallX.fj d4 (fromBE_ok ((y6.ext eB).ext e4) fun b5 n5 c5 h5 e5 g5 d5 => ?_); conv => whnf
  have hl0 : lessI (bv zz32) 0 = 0 := by rw [bv_zz32]; rfl
  rw [hl0] at g3
  rw [bv_zz32] at g5
  refine CallX.fj d5 (minNat_ok g5 ((g3.ext e4).ext e5) fun b6 n6 c6 g6 d6 => ?_); conv => whnf
  refine CallX.fj d6 (addN (g4.ext e5) g6 (by omega) fun b7 n7 c7 h7 e7 g7 d7 => ?_); conv => whnf
  exact RetX.same (hk (b7, n7, c7) _ (((((eA.trans eB).trans e4).trans e5)).trans e7) d7 g7)
end
end Go.Proofs.YgvalwGreat.X
