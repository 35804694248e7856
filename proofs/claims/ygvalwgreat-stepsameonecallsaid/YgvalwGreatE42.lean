import Derived.Test.YgvalwGreatE41
set_option linter.unusedVariables false
set_option linter.unusedSimpArgs false
namespace Go.Proofs.YgvalwGreat.X
open Go

section
variable {hi hi' hm hm' : Hp} {K : Value → Hp → Prop} {mc : Nat → Value} {v : VS} {eb : Nat}
/-- A change of the slots. -/
theorem VOK.setS (V : VOK hi hm eb mc v) (he : Ext hi hi') (hd : Dj hi' hm') (k : KpT 233 hm hm') {s' : Sl} {sL' : List ESl} {tab' : Nat → Int} (sT : ArrT hm' 233 s' 14 (sL'.map slCells))
    (stab : TabOK 4096 tab' sL'.length (fun i => mixS (sL'.getD i dS).acct (sL'.getD i dS).key.toNat % 4096)) (cok : COK { v.core with sL := sL' }) :
    VOK hi' (hput hm' eb (fnv 27024 (eC mc { v with sS := s', sL := sL', stab := tab' }), 101)) eb mc { v with sS := s', sL := sL', stab := tab' } := by
  have hb : hm' eb = some (fnv 27024 (eC mc v), 101) := k _ _ _ (by decide) V.blk
  have kp : KpT 101 hm' (hput hm' eb (fnv 27024 (eC mc { v with sS := s', sL := sL', stab := tab' }), 101)) := KpT.put hb
  refine ⟨hd.put hb, hput_same .., (V.aT.kp k (by decide)).kp kp (by decide), sT.kp kp (by decide), (V.jT.kp k (by decide)).kp kp (by decide), (V.lT.kp k (by decide)).kp kp (by decide), (V.tT.kp k (by decide)).kp kp (by decide), ?_, V.atab, stab, fun x hx => (V.ac x hx).ext he, fun x hx => (V.jc x hx).ext he, cok⟩
  rcases V.ttT with h1 | ⟨m, h1, h2, h3⟩
  · exact .inl h1
  · exact .inr ⟨m, h1, kp _ _ _ (by decide) (k _ _ _ (by decide) h2), h3⟩
def zS (i : Nat) (k : Int) : ESl := ⟨i, k, 0, 0, false⟩
def cSlot (c : VCore) (i : Nat) (k : Int) : VCore := match idxS c.sL i k with
  | some _ => c
  | none => { c with sL := c.sL ++ [zS i k] }
def atS (c : VCore) (i : Nat) (k : Int) : Nat := match idxS c.sL i k with
  | some j => j
  | none => c.sL.length
theorem cok_slot {c : VCore} {i k : Nat} (C : COK c) (ha : i < c.aL.length) (hk : (k : Int) < W) (hroom : c.sL.length < 2560) (hn : idxS c.sL i k = none) : COK { c with sL := c.sL ++ [zS i k] } := by
  have hW := W_pos
  have hne : ∀ j, j < c.sL.length → ¬ ((c.sL.getD j dS).acct = i ∧ (c.sL.getD j dS).key = k) := fun j hj => of_decide_eq_false (idx_no (d := dS) hn j hj)
  refine ⟨C.fewA, by simp; omega, C.fewT, C.fewJ, C.fewL, C.awf, fun x hx => ?_, C.twf, fun x hx => ?_, C.adis, fun i1 j hi hj he hke => ?_, C.tdis, C.ref, C.nm, C.mks⟩
  · rcases List.mem_append.1 hx with h1 | h1
    · exact C.swf x h1
    · rw [List.mem_singleton.1 h1]; exact ⟨ha, ⟨by show (0 : Int) ≤ k; omega, hk⟩, ⟨by show (0 : Int) ≤ 0; omega, hW⟩, ⟨by show (0 : Int) ≤ 0; omega, hW⟩⟩
  · obtain ⟨⟨h1, h2, h3, h4, h5⟩, h6⟩ := C.jwf x hx
    exact ⟨⟨h1, h2, h3, fun h => by have := h4 h; show x.at_ < (c.sL ++ [zS i k]).length; simp; omega, h5⟩, h6⟩
  · dsimp only at hi hj he hke
    rw [List.length_append, List.length_singleton] at hi hj
    by_cases h1 : i1 = c.sL.length
    · by_cases h2 : j = c.sL.length
      · omega
      · rw [h1, getDl, getDa (show j < c.sL.length by omega)] at he hke
        exact absurd ⟨he.symm, hke.symm⟩ (hne j (by omega))
    · by_cases h2 : j = c.sL.length
      · rw [h2, getDl, getDa (show i1 < c.sL.length by omega)] at he hke
        exact absurd ⟨he, hke⟩ (hne i1 (by omega))
      · rw [getDa (by omega), getDa (by omega)] at he hke
        exact C.sdis i1 j (by omega) (by omega) he hke

set_option maxRecDepth 100000 in
set_option maxHeartbeats 4000000 in
theorem slot_ok {i k : Nat} (ha : i < v.aL.length) (hkW : (k : Int) < W) (V : VOK hi hm eb mc v) (hroom : v.sL.length < 2560)
    (hk : ∀ hm' v', VOK hi hm' eb mc v' → v'.core = cSlot v.core i k → K (.tuple #[.int .i32 (atS v.core i k), .bool true]) (join hi hm')) :
    CallX Hval.prog 140 [.pointer (some ⟨eb, 2435, none⟩), .int .i32 i, .agg (wc k).toArray] (join hi hm) K := by
  have hfA : v.aL.length ≤ 2560 := V.cok.fewA
  refine CallX.of_xf T_ok Hval.func140 rfl (by kernel_rfl) (Nat.le_of_ble_eq_true rfl) ?_; conv => whnf
  refine BoxX.j V.dj fun n1 hin hmn hd1 he1 => ?_; conv => whnf
  have hbx : join (hput hi n1 ((wc k).toArray.toList, 75)) hm n1 = some (wc k, 75) := join_l (hput_same ..)
  refine LoadX.all hbx rfl ?_; conv => whnf
  have hE := Ext.j2 he1 hd1 (Ext.refl hm)
  refine findS (by omega) hkW hE V (fun j hii h1 => ?_) (fun h1 p hp hg => ?_) <;> conv => whnf
  · refine CondX.dT (by omega) ?_; conv => whnf
    refine RetX.drop (h' := join hi hm) hE ?_
    have hk := hk hm v V
    unfold cSlot atS at hk
    rw [show idxS v.core.sL i k = some j from h1] at hk
    exact hk rfl
  · refine CondX.dF (by omega) ?_; conv => whnf
    have hlen := V.sT.len
    rw [List.length_map] at hlen
    have hb1 : join (hput hi n1 ((wc k).toArray.toList, 75)) hm eb = some (fnv 27024 (eC mc v), 101) := join_hm hd1 V.blk
    refine CondX.dF (by omega) ?_; conv => whnf
    repeat (first | (refine CondX.tt ?_; conv => whnf) | (refine CondX.ff ?_; conv => whnf))
    refine LoadX.fn hb1 2436 rfl (by omega) ?_
    rw [eC_s]; conv => whnf
    repeat (first | (refine CondX.tt ?_; conv => whnf) | (refine CondX.ff ?_; conv => whnf))
    refine CondX.dF (by omega) ?_; conv => whnf
    repeat (first | (refine CondX.tt ?_; conv => whnf) | (refine CondX.ff ?_; conv => whnf))
    refine LoadX.fn hb1 2436 rfl (by omega) ?_
    rw [eC_s]; conv => whnf
    have e32 : IntKind.i32.wrap (v.sS.2.1 : Int) = v.sL.length := by rw [wrap_i32 (by omega) (by omega)]; omega
    rw [e32]
    refine DrawX.go T_ok hM Hval.func140 (tb := dr140) rfl (by kernel_rfl) ?_; conv => whnf
    refine LoadX.fn hb1 2436 rfl (by omega) ?_
    rw [eC_s]; conv => whnf
    refine LoadX.all hbx rfl ?_; conv => whnf
    have nlen : (slCells (zS i k)).length = 14 := rfl
    refine Ob.mk (by first | decide | omega) ?_; conv => whnf
    refine BoxX.j (vs := slCells (zS i k)) hd1 fun m8 hin8 hmn8 hd8 he8 => ?_; conv => whnf
    have hb8 : join (hput (hput hi n1 ((wc k).toArray.toList, 75)) m8 (slCells (zS i k), 233)) hm eb = some (fnv 27024 (eC mc v), 101) := join_hm hd8 V.blk
    refine Ob.mk (ldV_fn hb8 2436 rfl (by omega)) ?_; conv => whnf
    refine AppendX.tag (new := slCells (zS i k)) hd8 V.sT (rd_ext (Ext.jl _ _) (rd_own nlen)) nlen rfl rfl (by decide) (Nat.le_trans (Nat.mul_le_mul_right _ (show v.sS.2.1 + 1 ≤ 2560 by omega)) (by decide)) fun s' hm' hd' sT' kp' => ?_; conv => whnf
    have hbm : hm' eb = some (fnv 27024 (eC mc v), 101) := kp' _ _ _ (by decide) V.blk
    refine StoreX.jf hd' hbm 2436 rfl (by omega) fun hd9 => ?_
    rw [show Value.slice s'.1 s'.2.1 s'.2.2 = sl s' from rfl, eU_s] at hd9 ⊢; conv => whnf
    refine Ob.mk ⟨by omega, by omega⟩ ?_; conv => whnf
    refine StoreX.jf hd9 (hput_same ..) (6533 + p) (by rw [Int.toNat_natCast, show (fd 4098 87).offset = 4098 from rfl, show (21, y21).snd.size = 1 from rfl]; omega) (by omega) fun hd10 => ?_
    rw [hput_hput, eU_st hp] at hd10 ⊢; conv => whnf
    have hEi : Ext hi (hput (hput hi n1 ((wc k).toArray.toList, 75)) m8 (slCells (zS i k), 233)) := he1.trans he8
    have hd' := hd'.le hEi
    refine RetX.drop (h' := join hi (hput hm' eb (fnv 27024 (eC mc { v with sS := s', sL := v.sL ++ [zS i k], stab := updN v.stab p v.sL.length }), 101))) (Ext.j2 hEi hd10 (Ext.refl _)) ?_
    have hc : cSlot v.core i k = { v.core with sL := v.sL ++ [zS i k] } := by unfold cSlot; rw [show idxS v.core.sL i k = none from h1]; rfl
    have ha2 : atS v.core i k = v.sL.length := by unfold atS; rw [show idxS v.core.sL i k = none from h1]; rfl
    have V' := V.setS (Ext.refl hi) hd' kp' (s' := s') (sL' := v.sL ++ [zS i k]) (tab' := updN v.stab p v.sL.length) (by rw [List.map_append]; exact sT') ?_ (cok_slot V.cok ha hkW hroom h1)
    · have := hk _ _ V' (by rw [hc]; rfl)
      rw [ha2] at this
      exact this
    · rw [List.length_append, List.length_singleton]
      refine V.stab.add (p := p) ?_ fun i hi => ?_
      · rw [getDl]; exact hg
      · rw [getDa hi]
end
end Go.Proofs.YgvalwGreat.X
