import Derived.Test.YgvalwGreatB1
set_option linter.unusedVariables false
set_option linter.unusedSimpArgs false
namespace Go.Proofs.YgvalwGreat.X
open Go

/-- The verdict on the staged transaction. -/
def vd (d : List Int) (g : Int) : Int := if 1048576 < g ∨ 1024 < d.length then 3 else if g < intr d then 8 else 0
section
variable {hi hi0 hm hb hl h : Hp} {K : Value → Hp → Prop} {KK : Hp → Prop} {v : VS} {eb : Nat} {w w' : AW} {sn : List AW} {m : MS} {sD : Sl} {g : Int} {d : List Int}
theorem isB_adr (x : Int) (h0 : 0 ≤ x) (h1 : x < 256) : isB (adr x) := (isB_zeros 19).append (isB.cons h0 h1 fun y hy => by cases hy)
theorem env_at (E : ∀ k, k < 120 → stEnv[k]? = some (m.env k)) {k : Nat} {x : Value} (hx : stEnv[k]? = some x) (hk : k < 120) : eC (mC eb m) v (2260 + k) = x := by
  rw [mR_env hk]; exact Option.some.inj ((E k hk).symm.trans hx)
theorem env_seg (E : ∀ k, k < 120 → stEnv[k]? = some (m.env k)) {k n : Nat} {l : List Int} (hl : seg stEnv k n = bcells l) (hk : k + n ≤ 120) : (fnv n fun i => eC (mC eb m) v (2260 + k + i)) = bcells l := by
  have e : ∀ i, i < n → eC (mC eb m) v (2260 + k + i) = (stEnv[k + i]?).getD (.bool false) := fun i hi => by
    rw [Nat.add_assoc, mR_env (by omega), E (k + i) (by omega)]; rfl
  rw [← hl]
  refine List.ext_getElem? fun i => ?_
  unfold fnv seg
  rw [List.getElem?_map, List.getElem?_take, List.getElem?_drop]
  by_cases h : i < n
  · rw [List.getElem?_range h, Option.map_some, e i h, if_pos h, E (k + i) (by omega)]; rfl
  · rw [if_neg h, List.getElem?_eq_none (by simp; omega)]; rfl
set_option maxRecDepth 100000 in
set_option maxHeartbeats 4000000 in
theorem everdict_ok (A : VA hi hm eb (mC eb m) w sn v) (hp : m.phase = 0) (hap : m.applied = 0) (E : ∀ k, k < 120 → stEnv[k]? = some (m.env k)) (hn : (w.acct sndA).nonce = 0) (hc : (w.acct sndA).code = []) (hbal : 0 ≤ (w.acct sndA).bal ∧ (w.acct sndA).bal < W) (he : Ext (join hi hm) h) (hD : Byt h sD.1 sD.2.1 sD.2.2 d) (hg : 0 ≤ g ∧ g < 18446744073709551616) (hk : K (.tuple #[.int .u8 (vd d g), .agg (wc 0).toArray]) h) : CallX Hval.prog 66 [.pointer (some ⟨eb, 0, none⟩), .agg (txC sD g).toArray] h K := by
  have hdl := hD.len
  refine CallX.of_xf T_ok Hval.func66 rfl (by kernel_rfl) (Nat.le_of_ble_eq_true rfl) ?_; conv => whnf
  refine BoxX.ext fun m3 hm3 em3 => ?_; conv => whnf
  refine BoxX.ext fun m5 hm5 em5 => ?_; conv => whnf
  have b3 : hput (hput h m3 ((txC sD g).toArray.toList, 40)) m5 ((75, y75).snd.zero, 75) m3 = some (txC sD g, 40) := em5 _ _ (hput_same ..)
  have b5 : hput (hput h m3 ((txC sD g).toArray.toList, 40)) m5 ((75, y75).snd.zero, 75) m5 = some (wc 0, 75) := hput_same ..
  have eA : Ext h (hput (hput h m3 ((txC sD g).toArray.toList, 40)) m5 ((75, y75).snd.zero, 75)) := em3.trans em5
  generalize hput (hput h m3 ((txC sD g).toArray.toList, 40)) m5 ((75, y75).snd.zero, 75) = H at *
  clear em3 em5 hm3 hm5
  have heH := he.trans eA
  have hbE := A.blk heH
  refine LoadX.fx hbE 2404 rfl (by omega) (x := .int .u8 0) (mR_phase.trans (congrArg _ hp)) ?_; conv => whnf
  repeat (first | (refine CondX.tt ?_; conv => whnf) | (refine CondX.ff ?_; conv => whnf))
  refine LoadX.fx hbE 0 rfl (by omega) mR_S ?_; conv => whnf
  repeat (first | (refine CondX.tt ?_; conv => whnf) | (refine CondX.ff ?_; conv => whnf))
  refine LoadX.fx hbE 2406 rfl (by omega) (x := .int .u8 0) (congrArg _ hap) ?_; conv => whnf
  repeat (first | (refine CondX.tt ?_; conv => whnf) | (refine CondX.ff ?_; conv => whnf))
  refine LoadX.blk b3 (.int .u64 g) rfl ?_; conv => whnf
  refine CondX.decI (fun h1 => ?_) (fun h1 => ?_) <;> conv => whnf
  · repeat (first | (refine CondX.tt ?_; conv => whnf) | (refine CondX.ff ?_; conv => whnf))
    refine DrawX.go T_ok hM Hval.func66 (tb := dr66) rfl (by kernel_rfl) ?_; conv => whnf
    refine LoadX.all b5 rfl ?_; conv => whnf
    refine Ob.mk ⟨rfl, rfl⟩ ?_; conv => whnf
    refine StoreX.id b5 rfl ?_; conv => whnf
    refine LoadX.all b5 rfl ?_; conv => whnf
    refine RetX.drop eA ?_
    rw [show vd d g = 3 by unfold vd; first | (rw [if_pos (by omega)]) | (rw [if_neg (by omega), if_pos (by omega)]) | (rw [if_neg (by omega), if_neg (by omega)])] at hk
    exact hk
  repeat (first | (refine CondX.tt ?_; conv => whnf) | (refine CondX.ff ?_; conv => whnf))
  refine LoadX.blk b3 (sl sD) rfl ?_; conv => whnf
  repeat (first | (refine CondX.tt ?_; conv => whnf) | (refine CondX.ff ?_; conv => whnf))
  refine CondX.decI (fun h2 => ?_) (fun h2 => ?_) <;> conv => whnf
  · repeat (first | (refine CondX.tt ?_; conv => whnf) | (refine CondX.ff ?_; conv => whnf))
    refine DrawX.go T_ok hM Hval.func66 (tb := dr66) rfl (by kernel_rfl) ?_; conv => whnf
    refine LoadX.all b5 rfl ?_; conv => whnf
    refine Ob.mk ⟨rfl, rfl⟩ ?_; conv => whnf
    refine StoreX.id b5 rfl ?_; conv => whnf
    refine LoadX.all b5 rfl ?_; conv => whnf
    refine RetX.drop eA ?_
    rw [show vd d g = 3 by unfold vd; first | (rw [if_pos (by omega)]) | (rw [if_neg (by omega), if_pos (by omega)]) | (rw [if_neg (by omega), if_neg (by omega)])] at hk
    exact hk
  repeat (first | (refine CondX.tt ?_; conv => whnf) | (refine CondX.ff ?_; conv => whnf))
  refine listOK_ok b3 ?_; conv => whnf
  repeat (first | (refine CondX.tt ?_; conv => whnf) | (refine CondX.ff ?_; conv => whnf))
  have hD1 := hD.ext eA
  refine DrawX.go T_ok hM Hval.func66 (tb := dr66) rfl (by kernel_rfl) ?_; conv => whnf
  refine LoadX.fx hbE 0 rfl (by omega) mR_S ?_; conv => whnf
  refine LoadX.of _ (tx_from b3) ?_; conv => whnf
  refine nonce_ok (a := adr 240) rfl (isB_adr 240 (by decide) (by decide)) A heH ?_
  rw [show (w.acct (adr 240)).nonce = 0 from hn]; conv => whnf
  repeat (refine Ob.mk (by first | exact ldV_fn hbE 0 rfl (by omega) | exact tx_from b3) ?_; conv => whnf)
  refine LoadX.blk b3 (.int .u64 0) rfl ?_; conv => whnf
  repeat (first | (refine CondX.tt ?_; conv => whnf) | (refine CondX.ff ?_; conv => whnf))
  refine DrawX.go T_ok hM Hval.func66 (tb := dr66) rfl (by kernel_rfl) ?_; conv => whnf
  refine LoadX.fx hbE 0 rfl (by omega) mR_S ?_; conv => whnf
  refine LoadX.of _ (tx_from b3) ?_; conv => whnf
  refine CallX.rdrop (code_ok (a := adr 240) rfl (isB_adr 240 (by decide) (by decide)) A heH fun sC h' e hs => ⟨_, e, ?_⟩)
  have hsl := hs.len
  rw [show (w.acct (adr 240)).code = [] from hc] at hsl
  rw [show sC = (sC.1, 0, sC.2.2) by rw [show (0 : Nat) = sC.2.1 from hsl]]; conv => whnf
  repeat (refine Ob.mk (by first | exact ldV_fn hbE 0 rfl (by omega) | exact tx_from b3) ?_; conv => whnf)
  repeat (first | (refine CondX.tt ?_; conv => whnf) | (refine CondX.ff ?_; conv => whnf))
  refine LoadX.blk b3 (.bool false) rfl ?_; conv => whnf
  repeat (first | (refine CondX.tt ?_; conv => whnf) | (refine CondX.ff ?_; conv => whnf))
  refine DrawX.go T_ok hM Hval.func66 (tb := dr66) rfl (by kernel_rfl) ?_; conv => whnf
  refine LoadX.blk b3 (.int .u64 g) rfl ?_; conv => whnf
  refine LoadX.all b3 rfl ?_; conv => whnf
  refine eIntr_ok hD1 (by omega) ?_; conv => whnf
  repeat (refine Ob.mk (by first | exact ldV_blk b3 rfl | exact ldV_all b3 rfl) ?_; conv => whnf)
  refine CondX.decI (fun h3 => ?_) (fun h3 => ?_) <;> conv => whnf
  · repeat (first | (refine CondX.tt ?_; conv => whnf) | (refine CondX.ff ?_; conv => whnf))
    refine DrawX.go T_ok hM Hval.func66 (tb := dr66) rfl (by kernel_rfl) ?_; conv => whnf
    refine LoadX.all b5 rfl ?_; conv => whnf
    refine Ob.mk ⟨rfl, rfl⟩ ?_; conv => whnf
    refine StoreX.id b5 rfl ?_; conv => whnf
    refine LoadX.all b5 rfl ?_; conv => whnf
    refine RetX.drop eA ?_
    rw [show vd d g = 8 by unfold vd; first | (rw [if_pos (by omega)]) | (rw [if_neg (by omega), if_pos (by omega)]) | (rw [if_neg (by omega), if_neg (by omega)])] at hk
    exact hk
  repeat (first | (refine CondX.tt ?_; conv => whnf) | (refine CondX.ff ?_; conv => whnf))
  refine DrawX.go T_ok hM Hval.func66 (tb := dr66) rfl (by kernel_rfl) ?_; conv => whnf
  refine LoadX.blk b3 (.int .u64 g) rfl ?_; conv => whnf
  refine LoadX.fx hbE (2260 + 22) rfl (by omega) (env_at E (k := 22) (x := .int .u64 1048576) rfl (by omega)) ?_; conv => whnf
  refine CondX.dF (by omega) ?_; conv => whnf
  repeat (first | (refine CondX.tt ?_; conv => whnf) | (refine CondX.ff ?_; conv => whnf))
  refine LoadX.all b3 rfl ?_; conv => whnf
  refine efees_ok ?_; conv => whnf
  have eH := Ext.refl H
  refine BoxX.ext fun m7 hx ex => ?_; conv => whnf
  have b7 : hput H m7 ((75, y75).snd.zero, 75) m7 = some (wc 0, 75) := hput_same ..
  have eH := eH.trans ex
  have hbE := ex _ _ hbE
  have b3 := ex _ _ b3
  have b5 := ex _ _ b5
  generalize hput H m7 ((75, y75).snd.zero, 75) = H1 at *
  refine BoxX.ext fun m8 hx ex => ?_; conv => whnf
  have b8 : hput H1 m8 ((75, y75).snd.zero, 75) m8 = some (wc 0, 75) := hput_same ..
  have eH := eH.trans ex
  have hbE := ex _ _ hbE
  have b3 := ex _ _ b3
  have b5 := ex _ _ b5
  have b7 := ex _ _ b7
  generalize hput H1 m8 ((75, y75).snd.zero, 75) = H2 at *
  refine Ob.mk ⟨rfl, rfl⟩ ?_; conv => whnf
  refine StoreX.id b7 rfl ?_; conv => whnf
  refine Ob.mk ⟨rfl, rfl⟩ ?_; conv => whnf
  refine StoreX.id b8 rfl ?_; conv => whnf
  refine LoadX.fnA hbE (2260 + 87) rfl (by show _ + 32 ≤ _; omega) ?_
  rw [show (33, y33).snd.size = 32 from rfl, env_seg E (k := 87) (l := List.replicate 32 0) rfl (by omega)]; conv => whnf
  refine fromBytes_ok (l := List.replicate 32 0) rfl (isB_zeros _) ?_
  rw [show bv (List.replicate 32 0) = 0 from rfl]; conv => whnf
  clear ex hx
  refine BoxX.ext fun m9 hx ex => ?_; conv => whnf
  have b9 : hput H2 m9 ((75, y75).snd.zero, 75) m9 = some (wc 0, 75) := hput_same ..
  have eH := eH.trans ex
  have hbE := ex _ _ hbE
  have b3 := ex _ _ b3
  have b5 := ex _ _ b5
  have b7 := ex _ _ b7
  have b8 := ex _ _ b8
  generalize hput H2 m9 ((75, y75).snd.zero, 75) = H3 at *
  refine Ob.mk ⟨rfl, rfl⟩ ?_; conv => whnf
  refine StoreX.id b9 rfl ?_; conv => whnf
  refine LoadX.blk b3 (.int .u64 g) rfl ?_; conv => whnf
  refine LoadX.all b7 rfl ?_; conv => whnf
  have hwg : (#[Value.int .u64 g, .int .u64 0, .int .u64 0, .int .u64 0] : Array Value) = (wc g).toArray := by
    have e0 : g % 18446744073709551616 = g := by omega
    have e1 : g / 18446744073709551616 % 18446744073709551616 = 0 := by omega
    have e2 : g / 340282366920938463463374607431768211456 % 18446744073709551616 = 0 := by omega
    have e3 : g / 6277101735386680763835789423207666416102355444464034512896 % 18446744073709551616 = 0 := by omega
    unfold wc
    rw [e0, e1, e2, e3]
  have hW := W_val
  have gW : g < W := by rw [hW]; omega
  have hW0 := W_pos
  rw [hwg]
  refine eMulOver_ok hg.1 gW (Int.le_refl 0) W_pos ?_
  rw [Int.mul_zero, show (0 : Int) % W = 0 from Int.zero_emod _, show decide (W ≤ 0) = false from decide_eq_false (by omega)]; conv => whnf
  clear ex hx
  refine BoxX.ext fun m10 hx ex => ?_; conv => whnf
  have b10 : hput H3 m10 ((75, y75).snd.zero, 75) m10 = some (wc 0, 75) := hput_same ..
  have eH := eH.trans ex
  have hbE := ex _ _ hbE
  have b3 := ex _ _ b3
  have b5 := ex _ _ b5
  have b7 := ex _ _ b7
  have b8 := ex _ _ b8
  have b9 := ex _ _ b9
  generalize hput H3 m10 ((75, y75).snd.zero, 75) = H4 at *
  refine Ob.mk ⟨rfl, rfl⟩ ?_; conv => whnf
  refine StoreX.id b10 rfl ?_; conv => whnf
  refine DrawX.go T_ok hM Hval.func66 (tb := dr66) rfl (by kernel_rfl) ?_; conv => whnf
  refine LoadX.all b10 rfl ?_; conv => whnf
  refine LoadX.of _ (tx_value b3) ?_; conv => whnf
  refine fromBytes_ok (l := zz32) rfl (isB_zeros _) ?_
  rw [bv_zz32]; conv => whnf
  repeat (refine Ob.mk (by first | exact ldV_all b10 rfl | exact tx_value b3) ?_; conv => whnf)
  refine eAddOver_ok (Int.le_refl 0) W_pos (Int.le_refl 0) W_pos ?_
  rw [Int.add_zero, show (0 : Int) % W = 0 from Int.zero_emod _, show decide (W ≤ 0) = false from decide_eq_false (by omega)]; conv => whnf
  repeat (refine Ob.mk (by first | exact ldV_all b10 rfl | exact tx_value b3) ?_; conv => whnf)
  refine ⟨fun m12 hx => ?_⟩
  conv => whnf
  have b12 : hput H4 m12 ((75, y75).snd.zero, 75) m12 = some (wc 0, 75) := hput_same ..
  have ex := Ext.new (x := ((75, y75).snd.zero, 75)) hx
  have eH := eH.trans ex
  have hbE := ex _ _ hbE
  have b3 := ex _ _ b3
  have b5 := ex _ _ b5
  have b7 := ex _ _ b7
  have b8 := ex _ _ b8
  have b9 := ex _ _ b9
  have b10 := ex _ _ b10
  generalize hput H4 m12 ((75, y75).snd.zero, 75) = H5 at *
  refine Ob.mk ⟨rfl, rfl⟩ ?_; conv => whnf
  refine StoreX.id b12 rfl ?_; conv => whnf
  repeat (refine Ob.mk (by first | exact ldV_all b10 rfl | exact tx_value b3) ?_; conv => whnf)
  refine DrawX.go T_ok hM Hval.func66 (tb := dr66) rfl (by kernel_rfl) ?_; conv => whnf
  repeat (first | (refine CondX.tt ?_; conv => whnf) | (refine CondX.ff ?_; conv => whnf))
  refine LoadX.fx hbE 0 rfl (by omega) mR_S ?_; conv => whnf
  repeat (first | (refine CondX.tt ?_; conv => whnf) | (refine CondX.ff ?_; conv => whnf))
  refine LoadX.of _ (tx_from b3) ?_; conv => whnf
  repeat (first | (refine CondX.tt ?_; conv => whnf) | (refine CondX.ff ?_; conv => whnf))
  refine LoadX.all b12 rfl ?_; conv => whnf
  repeat (first | (refine CondX.tt ?_; conv => whnf) | (refine CondX.ff ?_; conv => whnf))
  refine balance_ok (a := adr 240) rfl (isB_adr 240 (by decide) (by decide)) A (heH.trans eH) ?_; conv => whnf
  repeat (refine Ob.mk (by first | exact ldV_fn hbE 0 rfl (by omega) | exact tx_from b3 | exact ldV_all b12 rfl) ?_; conv => whnf)
  repeat (first | (refine CondX.tt ?_; conv => whnf) | (refine CondX.ff ?_; conv => whnf))
  refine eLt_ok hbal.1 hbal.2 (Int.le_refl 0) W_pos ?_; conv => whnf
  repeat (refine Ob.mk (by first | exact ldV_fn hbE 0 rfl (by omega) | exact tx_from b3 | exact ldV_all b12 rfl) ?_; conv => whnf)
  repeat (first | (refine CondX.tt ?_; conv => whnf) | (refine CondX.ff ?_; conv => whnf))
  refine CondX.bF (CondX.dF (by have := hbal.1; show ¬ (w.acct sndA).bal < 0; omega) ?_); conv => whnf
  refine LoadX.all b8 rfl ?_; conv => whnf
  refine LoadX.all b7 rfl ?_; conv => whnf
  refine eGt_ok (Int.le_refl 0) W_pos (Int.le_refl 0) W_pos ?_; conv => whnf
  repeat (first | (refine CondX.tt ?_; conv => whnf) | (refine CondX.ff ?_; conv => whnf))
  refine LoadX.all b7 rfl ?_; conv => whnf
  refine LoadX.all b9 rfl ?_; conv => whnf
  refine eLt_ok (Int.le_refl 0) W_pos (Int.le_refl 0) W_pos ?_; conv => whnf
  repeat (first | (refine CondX.tt ?_; conv => whnf) | (refine CondX.ff ?_; conv => whnf))
  refine LoadX.all b7 rfl ?_; conv => whnf
  refine LoadX.all b9 rfl ?_; conv => whnf
  refine eSub_ok (Int.le_refl 0) W_pos (Int.le_refl 0) W_pos ?_
  rw [show ((0 : Int) - 0) % W = 0 from Int.zero_emod _]; conv => whnf
  refine Ob.mk ⟨rfl, rfl⟩ ?_; conv => whnf
  refine StoreX.id b5 rfl ?_; conv => whnf
  refine LoadX.all b8 rfl ?_; conv => whnf
  refine LoadX.all b5 rfl ?_; conv => whnf
  refine eLt_ok (Int.le_refl 0) W_pos (Int.le_refl 0) W_pos ?_; conv => whnf
  repeat (first | (refine CondX.tt ?_; conv => whnf) | (refine CondX.ff ?_; conv => whnf))
  refine LoadX.all b9 rfl ?_; conv => whnf
  refine LoadX.all b5 rfl ?_; conv => whnf
  refine eAdd_ok (Int.le_refl 0) W_pos (Int.le_refl 0) W_pos ?_
  rw [show ((0 : Int) + 0) % W = 0 from Int.zero_emod _]; conv => whnf
  refine Ob.mk ⟨rfl, rfl⟩ ?_; conv => whnf
  refine StoreX.id b5 rfl ?_; conv => whnf
  refine LoadX.all b5 rfl ?_; conv => whnf
  rw [show vd d g = 0 by unfold vd; rw [if_neg (by omega), if_neg (by omega)]] at hk
  exact RetX.drop (eA.trans eH) hk
end
end Go.Proofs.YgvalwGreat.X
