import Derived.Test.YgvalwGreatEB
set_option linter.unusedVariables false
set_option linter.unusedSimpArgs false
namespace Go.Proofs.YgvalwGreat.X
open Go

section
variable {hi hi0 hi' hm hm' : Hp} {K : Value → Hp → Prop} {mc : Nat → Value} {v : VS} {eb : Nat}

set_option maxRecDepth 100000 in
set_option maxHeartbeats 4000000 in
theorem tempOf_ok {a : List Int} {k : Nat} (hl : a.length = 20) (hB : isB a) (hkW : (k : Int) < W) (V : VOK hi hm eb mc v) (hrA : v.aL.length < 2560) (hrT : v.tL.length < 12288)
    (hk : ∀ hm' v', VOK hi hm' eb mc v' → v'.core = cTemp (cAcct v.core a) (atA v.core a) k → K (.tuple #[.int .i32 (atT (cAcct v.core a) (atA v.core a) k), .bool true]) (join hi hm')) :
    CallX Hval.prog 359 [.pointer (some ⟨eb, 2435, none⟩), .agg (bcells a).toArray, .agg (wc k).toArray] (join hi hm) K := by
  have hlen := V.tT.len
  rw [List.length_map] at hlen
  refine CallX.of_xf T_ok Hval.func359 rfl (by kernel_rfl) (Nat.le_of_ble_eq_true rfl) ?_; conv => whnf
  refine BoxX.j V.dj fun n1 hin hmn hd1 he1 => ?_; conv => whnf
  refine BoxX.j hd1 fun n2 hin2 hmn2 hd2 he2 => ?_; conv => whnf
  have hb1 : join (hput (hput hi n1 ((bcells a).toArray.toList, 31)) n2 ((wc k).toArray.toList, 75)) hm eb = some (fnv 27024 (eC mc v), 101) := join_hm hd2 V.blk
  have bx1 : (hput (hput hi n1 ((bcells a).toArray.toList, 31)) n2 ((wc k).toArray.toList, 75)) n1 = some (bcells a, 31) := he2 _ _ (hput_same ..)
  have bx2 : (hput (hput hi n1 ((bcells a).toArray.toList, 31)) n2 ((wc k).toArray.toList, 75)) n2 = some (wc k, 75) := hput_same ..
  have hE := he1.trans he2
  generalize hput (hput hi n1 ((bcells a).toArray.toList, 31)) n2 ((wc k).toArray.toList, 75) = hi1 at *
  have alen : (bcells a).length = (31, y31).snd.size := by rw [bcells_len, hl]; rfl
  refine LoadX.all (join_l bx1) alen ?_; conv => whnf
  refine findA hl hB (Ext.j2 hE hd2 (Ext.refl hm)) V (fun i hii h1 => ?_) (fun h1 p hp hg => ?_) <;> conv => whnf
  · refine CondX.dT (by omega) ?_; conv => whnf
    refine LoadX.all (join_l bx2) rfl ?_; conv => whnf
    have hfA : v.aL.length ≤ 2560 := V.cok.fewA
    have hc0 : cAcct v.core a = v.core := by unfold cAcct; rw [show idxA v.core.aL a = some i from h1]
    have ha0 : atA v.core a = i := by unfold atA; rw [show idxA v.core.aL a = some i from h1]
    refine findT (by omega) hkW (Ext.j2 hE hd2 (Ext.refl hm)) V (fun j hj h2 => ?_) (fun h2 h3 => ?_) (fun h2 h3 p hp hg => ?_) <;> conv => whnf
    · refine CondX.dT (by omega) ?_; conv => whnf
      have hk := hk hm v V
      rw [hc0, ha0] at hk
      unfold cTemp atT at hk
      rw [show idxT v.core.tL i k = some j from h2] at hk
      exact RetX.drop (h' := join hi hm) (Ext.j2 hE hd2 (Ext.refl hm)) (hk rfl)
    · refine CondX.dF (by omega) ?_; conv => whnf
      have hno : idxT v.core.tL (atA v.core a) k = none := by rw [ha0]; exact h3
      refine LoadX.fn hb1 27017 rfl (by omega) ?_
      rw [eC_t]; conv => whnf
      refine CondX.dF (by omega) ?_; conv => whnf
      refine LoadX.all (join_l bx1) alen ?_; conv => whnf
      refine acct_b hE hd2 hl hB V hrA fun hm' v' hd' V' hc' => ?_; conv => whnf
      repeat (first | (refine CondX.tt ?_; conv => whnf) | (refine CondX.ff ?_; conv => whnf))
      have hb' : join hi1 hm' eb = some (fnv 27024 (eC mc v'), 101) := join_hm hd' V'.blk
      refine LoadX.fn hb' 27018 rfl (by omega) ?_
      rw [eC_tt]; conv => whnf
      rcases V'.ttT with ⟨hts, -⟩ | ⟨m, hts, -, -⟩
      · refine CondX.neI (fun _ => ?_) (fun hc => absurd (show v'.ttS.2.1 = 0 by rw [hts]) (by omega)) <;> conv => whnf
        refine MakeX.jm hd' 16384 rfl rfl (by decide) (by decide) fun m hin5 hmn5 hd5 => ?_; conv => whnf
        rw [show zeros (21, y21).snd.zero 16384 = fnv 16384 fun _ => .int .i32 0 from zeros_one _ _] at hd5 ⊢
        have hne : eb ≠ m := by rintro rfl; rw [V'.blk] at hmn5; cases hmn5
        refine StoreX.jf hd5 (by rw [hput_ne hne]; exact V'.blk) 27018 rfl (by omega) fun hd6 => ?_
        rw [show Value.slice (some ⟨m, 0, none⟩) (Int.toNat 16384) (Int.toNat 16384) = sl (some ⟨m, 0, none⟩, 16384, 16384) from rfl, eU_tt] at hd6 ⊢; conv => whnf
        have ett : eC mc { v' with ttS := (some ⟨m, 0, none⟩, 16384, 16384) } 27018 = sl (some ⟨m, 0, none⟩, 16384, 16384) := rfl
        rw [hput_comm hne] at hd6 ⊢
        have hin6 : hi m = none := by
          cases hx : hi m with
          | none => rfl
          | some y => rw [hE _ _ hx] at hin5; cases hin5
        have VN := V'.newT hts hin6 hmn5
        have hbE : hput hm' eb (fnv 27024 (eC mc { v' with ttS := (some ⟨m, 0, none⟩, 16384, 16384) }), 101) eb = some (fnv 27024 (eC mc { v' with ttS := (some ⟨m, 0, none⟩, 16384, 16384) }), 101) := hput_same ..
        rw [show eC mc { v' with ttS := (some ⟨m, 0, none⟩, 16384, 16384), ttab := fun _ => -1 } = eC mc { v' with ttS := (some ⟨m, 0, none⟩, 16384, 16384) } from rfl] at VN
        generalize hput hm' eb (fnv 27024 (eC mc { v' with ttS := (some ⟨m, 0, none⟩, 16384, 16384) }), 101) = hmE at hbE hd6 VN ⊢
        have hdx : ∀ x, Dj hi1 (hput hmE m x) := fun x => by have := hd6.put (y := x) (hput_same ..); rw [hput_hput] at this; exact this
        refine LoadX.fn (join_hm hd6 (by rw [hput_ne hne]; exact hbE)) 27018 rfl (by omega) ?_
        rw [ett]; conv => whnf
        refine LoopX.st T_ok Hval.func359 (σ := Nat) (fun s => [(0, .pointer (some ⟨eb, 2435, none⟩)), (5, .pointer (some ⟨n2, 0, none⟩)), (8, .int .i32 (atA v.core a)), (61, .int .i64 16384), (62, .int .i64 s)]) (fun s h' => s ≤ 16384 ∧ h' = join hi1 (hput hmE m (fnv 16384 fun p => .int .i32 (if p < s then -1 else 0), 21))) (fun s => 16384 - s) 0 ⟨rfl, rfl, rfl, rfl, rfl, trivial⟩ ⟨by omega, rfl⟩ ?_
        rintro s ρ h' ⟨hs, rfl⟩ ih
        conv => whnf
        refine CondX.decI (fun hc => ?_) (fun hc => ?_) <;> conv => whnf
        · refine LoadX.fn (join_hm (hdx _) (by rw [hput_ne hne]; exact hbE)) 27018 rfl (by omega) ?_
          rw [ett]; conv => whnf
          refine IdxX.at (len := 16384) (by omega) (by omega) ?_; conv => whnf
          refine StoreX.jf (hdx _) (hput_same ..) s (by rw [Int.toNat_natCast, show (21, y21).snd.size = 1 from rfl]; omega) (by omega) fun hd7 => ?_
          rw [hput_hput]; conv => whnf
          refine ih (s + 1) _ _ ⟨by omega, ?_⟩ (by omega) ⟨rfl, rfl, rfl, rfl, congrArg (Value.int .i64) (wsucc (by omega)), trivial⟩
          congr 3
          refine fnv_ext fun q _ => ?_
          unfold updV
          dsimp only
          by_cases h1 : q = s
          · rw [if_pos h1, if_pos (by omega)]
          · rw [if_neg h1]
            by_cases h2 : q < s
            · rw [if_pos h2, if_pos (by omega)]
            · rw [if_neg h2, if_neg (by omega)]
        · have : s = 16384 := by omega
          subst this
          rw [show (fnv 16384 fun p => Value.int .i32 (if p < 16384 then -1 else 0)) = fnv 16384 fun _ => .int .i32 (-1) from fnv_ext fun i hi => by rw [if_pos hi]]
          obtain ⟨v3, hm3, hd3, V3, hc3, hts3, e3⟩ : ∃ v3 hm3, Dj hi1 hm3 ∧ VOK hi hm3 eb mc v3 ∧ v3.core = cAcct v.core a ∧ v3.ttS = (some ⟨m, 0, none⟩, 16384, 16384) ∧ join hi1 (hput hmE m (fnv 16384 fun _ => Value.int .i32 (-1), 21)) = join hi1 hm3 := ⟨_, _, hdx _, VN, hc', rfl, rfl⟩
          rw [e3]
          refine LoadX.all (join_l bx2) rfl ?_; conv => whnf
          have hno3 : idxT v3.tL (atA v.core a) k = none := by rw [show v3.tL = v3.core.tL from rfl, hc3]; unfold cAcct; split <;> exact hno
          have ha3 : atA v.core a < v3.aL.length := by rw [show v3.aL = v3.core.aL from rfl, hc3]; exact atA_lt
          have hf3 : v3.aL.length ≤ 2560 := V3.cok.fewA
          refine findT (by omega) hkW (Ext.j2 hE hd3 (Ext.refl hm3)) V3 (fun j hj h2 => absurd (h2.symm.trans hno3) (by simp)) (fun h2 _ => absurd (h2.symm.trans hts3) (by intro hc; cases hc)) (fun _ _ p hp hg => ?_) <;> conv => whnf
          refine CondX.dF (by omega) ?_; conv => whnf
          have hlen3 := V3.tT.len
          rw [List.length_map] at hlen3
          have hL3 : v3.tL.length < 12288 := by rw [show v3.tL = v3.core.tL from rfl, hc3]; unfold cAcct; split <;> exact hrT
          have hb3 : join hi1 hm3 eb = some (fnv 27024 (eC mc v3), 101) := join_hm hd3 V3.blk
          refine LoadX.fn hb3 27017 rfl (by omega) ?_
          rw [eC_t]; conv => whnf
          have e32 : IntKind.i32.wrap (v3.tS.2.1 : Int) = v3.tL.length := by rw [wrap_i32 (by omega) (by omega)]; omega
          rw [e32]
          refine DrawX.go T_ok hM Hval.func359 (tb := dr359) rfl (by kernel_rfl) ?_; conv => whnf
          refine LoadX.fn hb3 27017 rfl (by omega) ?_
          rw [eC_t]; conv => whnf
          refine LoadX.all (join_l bx2) rfl ?_; conv => whnf
          refine Ob.mk (by first | decide | omega) ?_; conv => whnf
          refine BoxX.j (vs := tpCells (zT (atA v.core a) k)) hd3 fun m8 hin8 hmn8 hd8 he8 => ?_; conv => whnf
          have hb8 := join_hm hd8 V3.blk
          refine Ob.mk (ldV_fn hb8 27017 rfl (by omega)) ?_; conv => whnf
          refine AppendX.tag (new := tpCells (zT (atA v.core a) k)) hd8 V3.tT (rd_ext (Ext.jl _ _) (rd_own rfl)) rfl rfl rfl (by decide) (Nat.le_trans (Nat.mul_le_mul_right _ (show v3.tS.2.1 + 1 ≤ 12288 by omega)) (by decide)) fun s' hm4 hd4 tT4 kp4 => ?_; conv => whnf
          have hbm : hm4 eb = some (fnv 27024 (eC mc v3), 101) := kp4 _ _ _ (by decide) V3.blk
          refine StoreX.jf hd4 hbm 27017 rfl (by omega) fun hd9 => ?_
          rw [show Value.slice s'.1 s'.2.1 s'.2.2 = sl s' from rfl, eU_t] at hd9 ⊢; conv => whnf
          have ett : eC mc { v3 with tS := s' } 27018 = sl (some ⟨m, 0, none⟩, 16384, 16384) := by rw [eC_tt]; exact congrArg sl hts3
          refine LoadX.fn (join_hm hd9 (hput_same ..)) 27018 rfl (by omega) ?_
          rw [ett]; conv => whnf
          refine IdxX.at (len := 16384) (by omega) (by omega) ?_; conv => whnf
          have hmt : hm3 m = some (fnv 16384 fun p => .int .i32 (v3.ttab p), 21) := by
            rcases V3.ttT with h1 | ⟨m', h1, h2, h3⟩
            · rw [h1.1] at hts3; cases hts3
            · have e : (some ⟨m', 0, none⟩ : Option Addr) = some ⟨m, 0, none⟩ := congrArg (fun s : Sl => s.1) (h1.symm.trans hts3)
              cases e; exact h2
          have hmt4 := kp4 _ _ _ (by decide) hmt
          have hne : eb ≠ m := tag_ne hbm hmt4 (by decide)
          refine StoreX.jf hd9 (by rw [hput_ne hne.symm]; exact hmt4) p (by rw [Int.toNat_natCast, show (21, y21).snd.size = 1 from rfl]; omega) hp fun hd10 => ?_
          rw [show updV (fun p => Value.int .i32 (v3.ttab p)) p (.int .i32 v3.tL.length) = fun q => .int .i32 (updN v3.ttab p v3.tL.length q) by funext q; unfold updV updN; split <;> rfl] at hd10 ⊢; conv => whnf
          have hEi := hE.trans he8
          refine RetX.drop (h' := join hi (hput (hput hm4 eb (fnv 27024 (eC mc { v3 with tS := s' }), 101)) m (fnv 16384 fun q => .int .i32 (updN v3.ttab p v3.tL.length q), 21))) (Ext.j2 hEi hd10 (Ext.refl _)) ?_
          have V4 := V3.addT hts3 (hd4.le hEi) kp4 (s' := s') (x := zT (atA v.core a) k) (p := p) (by rw [List.map_append]; exact tT4) hg (cok_temp V3.cok ha3 hkW hL3 hno3)
          have := hk _ _ V4 (by rw [← hc3]; unfold cTemp; rw [show idxT v3.core.tL (atA v.core a) k = none from hno3]; rfl)
          rw [← hc3, show atT v3.core (atA v.core a) k = v3.tL.length by unfold atT; rw [show idxT v3.core.tL (atA v.core a) k = none from hno3]; rfl] at this
          exact this
      · refine CondX.neI (fun hc => absurd (show v'.ttS.2.1 = 16384 by rw [hts]) (by omega)) (fun _ => ?_) <;> conv => whnf
        repeat (first | (refine CondX.tt ?_; conv => whnf) | (refine CondX.ff ?_; conv => whnf))
        obtain ⟨v3, hm3, hd3, V3, hc3, hts3, e3⟩ : ∃ v3 hm3, Dj hi1 hm3 ∧ VOK hi hm3 eb mc v3 ∧ v3.core = cAcct v.core a ∧ v3.ttS = (some ⟨m, 0, none⟩, 16384, 16384) ∧ join hi1 hm' = join hi1 hm3 := ⟨v', hm', hd', V', hc', hts, rfl⟩
        rw [e3]
        refine LoadX.all (join_l bx2) rfl ?_; conv => whnf
        have hno3 : idxT v3.tL (atA v.core a) k = none := by rw [show v3.tL = v3.core.tL from rfl, hc3]; unfold cAcct; split <;> exact hno
        have ha3 : atA v.core a < v3.aL.length := by rw [show v3.aL = v3.core.aL from rfl, hc3]; exact atA_lt
        have hf3 : v3.aL.length ≤ 2560 := V3.cok.fewA
        refine findT (by omega) hkW (Ext.j2 hE hd3 (Ext.refl hm3)) V3 (fun j hj h2 => absurd (h2.symm.trans hno3) (by simp)) (fun h2 _ => absurd (h2.symm.trans hts3) (by intro hc; cases hc)) (fun _ _ p hp hg => ?_) <;> conv => whnf
        refine CondX.dF (by omega) ?_; conv => whnf
        have hlen3 := V3.tT.len
        rw [List.length_map] at hlen3
        have hL3 : v3.tL.length < 12288 := by rw [show v3.tL = v3.core.tL from rfl, hc3]; unfold cAcct; split <;> exact hrT
        have hb3 : join hi1 hm3 eb = some (fnv 27024 (eC mc v3), 101) := join_hm hd3 V3.blk
        refine LoadX.fn hb3 27017 rfl (by omega) ?_
        rw [eC_t]; conv => whnf
        have e32 : IntKind.i32.wrap (v3.tS.2.1 : Int) = v3.tL.length := by rw [wrap_i32 (by omega) (by omega)]; omega
        rw [e32]
        refine DrawX.go T_ok hM Hval.func359 (tb := dr359) rfl (by kernel_rfl) ?_; conv => whnf
        refine LoadX.fn hb3 27017 rfl (by omega) ?_
        rw [eC_t]; conv => whnf
        refine LoadX.all (join_l bx2) rfl ?_; conv => whnf
        refine Ob.mk (by first | decide | omega) ?_; conv => whnf
        refine BoxX.j (vs := tpCells (zT (atA v.core a) k)) hd3 fun m8 hin8 hmn8 hd8 he8 => ?_; conv => whnf
        have hb8 := join_hm hd8 V3.blk
        refine Ob.mk (ldV_fn hb8 27017 rfl (by omega)) ?_; conv => whnf
        refine AppendX.tag (new := tpCells (zT (atA v.core a) k)) hd8 V3.tT (rd_ext (Ext.jl _ _) (rd_own rfl)) rfl rfl rfl (by decide) (Nat.le_trans (Nat.mul_le_mul_right _ (show v3.tS.2.1 + 1 ≤ 12288 by omega)) (by decide)) fun s' hm4 hd4 tT4 kp4 => ?_; conv => whnf
        have hbm : hm4 eb = some (fnv 27024 (eC mc v3), 101) := kp4 _ _ _ (by decide) V3.blk
        refine StoreX.jf hd4 hbm 27017 rfl (by omega) fun hd9 => ?_
        rw [show Value.slice s'.1 s'.2.1 s'.2.2 = sl s' from rfl, eU_t] at hd9 ⊢; conv => whnf
        have ett : eC mc { v3 with tS := s' } 27018 = sl (some ⟨m, 0, none⟩, 16384, 16384) := by rw [eC_tt]; exact congrArg sl hts3
        refine LoadX.fn (join_hm hd9 (hput_same ..)) 27018 rfl (by omega) ?_
        rw [ett]; conv => whnf
        refine IdxX.at (len := 16384) (by omega) (by omega) ?_; conv => whnf
        have hmt : hm3 m = some (fnv 16384 fun p => .int .i32 (v3.ttab p), 21) := by
          rcases V3.ttT with h1 | ⟨m', h1, h2, h3⟩
          · rw [h1.1] at hts3; cases hts3
          · have e : (some ⟨m', 0, none⟩ : Option Addr) = some ⟨m, 0, none⟩ := congrArg (fun s : Sl => s.1) (h1.symm.trans hts3)
            cases e; exact h2
        have hmt4 := kp4 _ _ _ (by decide) hmt
        have hne : eb ≠ m := tag_ne hbm hmt4 (by decide)
        refine StoreX.jf hd9 (by rw [hput_ne hne.symm]; exact hmt4) p (by rw [Int.toNat_natCast, show (21, y21).snd.size = 1 from rfl]; omega) hp fun hd10 => ?_
        rw [show updV (fun p => Value.int .i32 (v3.ttab p)) p (.int .i32 v3.tL.length) = fun q => .int .i32 (updN v3.ttab p v3.tL.length q) by funext q; unfold updV updN; split <;> rfl] at hd10 ⊢; conv => whnf
        have hEi := hE.trans he8
        refine RetX.drop (h' := join hi (hput (hput hm4 eb (fnv 27024 (eC mc { v3 with tS := s' }), 101)) m (fnv 16384 fun q => .int .i32 (updN v3.ttab p v3.tL.length q), 21))) (Ext.j2 hEi hd10 (Ext.refl _)) ?_
        have V4 := V3.addT hts3 (hd4.le hEi) kp4 (s' := s') (x := zT (atA v.core a) k) (p := p) (by rw [List.map_append]; exact tT4) hg (cok_temp V3.cok ha3 hkW hL3 hno3)
        have := hk _ _ V4 (by rw [← hc3]; unfold cTemp; rw [show idxT v3.core.tL (atA v.core a) k = none from hno3]; rfl)
        rw [← hc3, show atT v3.core (atA v.core a) k = v3.tL.length by unfold atT; rw [show idxT v3.core.tL (atA v.core a) k = none from hno3]; rfl] at this
        exact this
    · refine CondX.dF (by omega) ?_; conv => whnf
      have hno : idxT v.core.tL (atA v.core a) k = none := by rw [ha0]; exact h3
      refine LoadX.fn hb1 27017 rfl (by omega) ?_
      rw [eC_t]; conv => whnf
      refine CondX.dF (by omega) ?_; conv => whnf
      refine LoadX.all (join_l bx1) alen ?_; conv => whnf
      refine acct_b hE hd2 hl hB V hrA fun hm' v' hd' V' hc' => ?_; conv => whnf
      repeat (first | (refine CondX.tt ?_; conv => whnf) | (refine CondX.ff ?_; conv => whnf))
      have hb' : join hi1 hm' eb = some (fnv 27024 (eC mc v'), 101) := join_hm hd' V'.blk
      refine LoadX.fn hb' 27018 rfl (by omega) ?_
      rw [eC_tt]; conv => whnf
      rcases V'.ttT with ⟨hts, -⟩ | ⟨m, hts, -, -⟩
      · refine CondX.neI (fun _ => ?_) (fun hc => absurd (show v'.ttS.2.1 = 0 by rw [hts]) (by omega)) <;> conv => whnf
        refine MakeX.jm hd' 16384 rfl rfl (by decide) (by decide) fun m hin5 hmn5 hd5 => ?_; conv => whnf
        rw [show zeros (21, y21).snd.zero 16384 = fnv 16384 fun _ => .int .i32 0 from zeros_one _ _] at hd5 ⊢
        have hne : eb ≠ m := by rintro rfl; rw [V'.blk] at hmn5; cases hmn5
        refine StoreX.jf hd5 (by rw [hput_ne hne]; exact V'.blk) 27018 rfl (by omega) fun hd6 => ?_
        rw [show Value.slice (some ⟨m, 0, none⟩) (Int.toNat 16384) (Int.toNat 16384) = sl (some ⟨m, 0, none⟩, 16384, 16384) from rfl, eU_tt] at hd6 ⊢; conv => whnf
        have ett : eC mc { v' with ttS := (some ⟨m, 0, none⟩, 16384, 16384) } 27018 = sl (some ⟨m, 0, none⟩, 16384, 16384) := rfl
        rw [hput_comm hne] at hd6 ⊢
        have hin6 : hi m = none := by
          cases hx : hi m with
          | none => rfl
          | some y => rw [hE _ _ hx] at hin5; cases hin5
        have VN := V'.newT hts hin6 hmn5
        have hbE : hput hm' eb (fnv 27024 (eC mc { v' with ttS := (some ⟨m, 0, none⟩, 16384, 16384) }), 101) eb = some (fnv 27024 (eC mc { v' with ttS := (some ⟨m, 0, none⟩, 16384, 16384) }), 101) := hput_same ..
        rw [show eC mc { v' with ttS := (some ⟨m, 0, none⟩, 16384, 16384), ttab := fun _ => -1 } = eC mc { v' with ttS := (some ⟨m, 0, none⟩, 16384, 16384) } from rfl] at VN
        generalize hput hm' eb (fnv 27024 (eC mc { v' with ttS := (some ⟨m, 0, none⟩, 16384, 16384) }), 101) = hmE at hbE hd6 VN ⊢
        have hdx : ∀ x, Dj hi1 (hput hmE m x) := fun x => by have := hd6.put (y := x) (hput_same ..); rw [hput_hput] at this; exact this
        refine LoadX.fn (join_hm hd6 (by rw [hput_ne hne]; exact hbE)) 27018 rfl (by omega) ?_
        rw [ett]; conv => whnf
        refine LoopX.st T_ok Hval.func359 (σ := Nat) (fun s => [(0, .pointer (some ⟨eb, 2435, none⟩)), (5, .pointer (some ⟨n2, 0, none⟩)), (8, .int .i32 (atA v.core a)), (61, .int .i64 16384), (62, .int .i64 s)]) (fun s h' => s ≤ 16384 ∧ h' = join hi1 (hput hmE m (fnv 16384 fun p => .int .i32 (if p < s then -1 else 0), 21))) (fun s => 16384 - s) 0 ⟨rfl, rfl, rfl, rfl, rfl, trivial⟩ ⟨by omega, rfl⟩ ?_
        rintro s ρ h' ⟨hs, rfl⟩ ih
        conv => whnf
        refine CondX.decI (fun hc => ?_) (fun hc => ?_) <;> conv => whnf
        · refine LoadX.fn (join_hm (hdx _) (by rw [hput_ne hne]; exact hbE)) 27018 rfl (by omega) ?_
          rw [ett]; conv => whnf
          refine IdxX.at (len := 16384) (by omega) (by omega) ?_; conv => whnf
          refine StoreX.jf (hdx _) (hput_same ..) s (by rw [Int.toNat_natCast, show (21, y21).snd.size = 1 from rfl]; omega) (by omega) fun hd7 => ?_
          rw [hput_hput]; conv => whnf
          refine ih (s + 1) _ _ ⟨by omega, ?_⟩ (by omega) ⟨rfl, rfl, rfl, rfl, congrArg (Value.int .i64) (wsucc (by omega)), trivial⟩
          congr 3
          refine fnv_ext fun q _ => ?_
          unfold updV
          dsimp only
          by_cases h1 : q = s
          · rw [if_pos h1, if_pos (by omega)]
          · rw [if_neg h1]
            by_cases h2 : q < s
            · rw [if_pos h2, if_pos (by omega)]
            · rw [if_neg h2, if_neg (by omega)]
        · have : s = 16384 := by omega
          subst this
          rw [show (fnv 16384 fun p => Value.int .i32 (if p < 16384 then -1 else 0)) = fnv 16384 fun _ => .int .i32 (-1) from fnv_ext fun i hi => by rw [if_pos hi]]
          obtain ⟨v3, hm3, hd3, V3, hc3, hts3, e3⟩ : ∃ v3 hm3, Dj hi1 hm3 ∧ VOK hi hm3 eb mc v3 ∧ v3.core = cAcct v.core a ∧ v3.ttS = (some ⟨m, 0, none⟩, 16384, 16384) ∧ join hi1 (hput hmE m (fnv 16384 fun _ => Value.int .i32 (-1), 21)) = join hi1 hm3 := ⟨_, _, hdx _, VN, hc', rfl, rfl⟩
          rw [e3]
          refine LoadX.all (join_l bx2) rfl ?_; conv => whnf
          have hno3 : idxT v3.tL (atA v.core a) k = none := by rw [show v3.tL = v3.core.tL from rfl, hc3]; unfold cAcct; split <;> exact hno
          have ha3 : atA v.core a < v3.aL.length := by rw [show v3.aL = v3.core.aL from rfl, hc3]; exact atA_lt
          have hf3 : v3.aL.length ≤ 2560 := V3.cok.fewA
          refine findT (by omega) hkW (Ext.j2 hE hd3 (Ext.refl hm3)) V3 (fun j hj h2 => absurd (h2.symm.trans hno3) (by simp)) (fun h2 _ => absurd (h2.symm.trans hts3) (by intro hc; cases hc)) (fun _ _ p hp hg => ?_) <;> conv => whnf
          refine CondX.dF (by omega) ?_; conv => whnf
          have hlen3 := V3.tT.len
          rw [List.length_map] at hlen3
          have hL3 : v3.tL.length < 12288 := by rw [show v3.tL = v3.core.tL from rfl, hc3]; unfold cAcct; split <;> exact hrT
          have hb3 : join hi1 hm3 eb = some (fnv 27024 (eC mc v3), 101) := join_hm hd3 V3.blk
          refine LoadX.fn hb3 27017 rfl (by omega) ?_
          rw [eC_t]; conv => whnf
          have e32 : IntKind.i32.wrap (v3.tS.2.1 : Int) = v3.tL.length := by rw [wrap_i32 (by omega) (by omega)]; omega
          rw [e32]
          refine DrawX.go T_ok hM Hval.func359 (tb := dr359) rfl (by kernel_rfl) ?_; conv => whnf
          refine LoadX.fn hb3 27017 rfl (by omega) ?_
          rw [eC_t]; conv => whnf
          refine LoadX.all (join_l bx2) rfl ?_; conv => whnf
          refine Ob.mk (by first | decide | omega) ?_; conv => whnf
          refine BoxX.j (vs := tpCells (zT (atA v.core a) k)) hd3 fun m8 hin8 hmn8 hd8 he8 => ?_; conv => whnf
          have hb8 := join_hm hd8 V3.blk
          refine Ob.mk (ldV_fn hb8 27017 rfl (by omega)) ?_; conv => whnf
          refine AppendX.tag (new := tpCells (zT (atA v.core a) k)) hd8 V3.tT (rd_ext (Ext.jl _ _) (rd_own rfl)) rfl rfl rfl (by decide) (Nat.le_trans (Nat.mul_le_mul_right _ (show v3.tS.2.1 + 1 ≤ 12288 by omega)) (by decide)) fun s' hm4 hd4 tT4 kp4 => ?_; conv => whnf
          have hbm : hm4 eb = some (fnv 27024 (eC mc v3), 101) := kp4 _ _ _ (by decide) V3.blk
          refine StoreX.jf hd4 hbm 27017 rfl (by omega) fun hd9 => ?_
          rw [show Value.slice s'.1 s'.2.1 s'.2.2 = sl s' from rfl, eU_t] at hd9 ⊢; conv => whnf
          have ett : eC mc { v3 with tS := s' } 27018 = sl (some ⟨m, 0, none⟩, 16384, 16384) := by rw [eC_tt]; exact congrArg sl hts3
          refine LoadX.fn (join_hm hd9 (hput_same ..)) 27018 rfl (by omega) ?_
          rw [ett]; conv => whnf
          refine IdxX.at (len := 16384) (by omega) (by omega) ?_; conv => whnf
          have hmt : hm3 m = some (fnv 16384 fun p => .int .i32 (v3.ttab p), 21) := by
            rcases V3.ttT with h1 | ⟨m', h1, h2, h3⟩
            · rw [h1.1] at hts3; cases hts3
            · have e : (some ⟨m', 0, none⟩ : Option Addr) = some ⟨m, 0, none⟩ := congrArg (fun s : Sl => s.1) (h1.symm.trans hts3)
              cases e; exact h2
          have hmt4 := kp4 _ _ _ (by decide) hmt
          have hne : eb ≠ m := tag_ne hbm hmt4 (by decide)
          refine StoreX.jf hd9 (by rw [hput_ne hne.symm]; exact hmt4) p (by rw [Int.toNat_natCast, show (21, y21).snd.size = 1 from rfl]; omega) hp fun hd10 => ?_
          rw [show updV (fun p => Value.int .i32 (v3.ttab p)) p (.int .i32 v3.tL.length) = fun q => .int .i32 (updN v3.ttab p v3.tL.length q) by funext q; unfold updV updN; split <;> rfl] at hd10 ⊢; conv => whnf
          have hEi := hE.trans he8
          refine RetX.drop (h' := join hi (hput (hput hm4 eb (fnv 27024 (eC mc { v3 with tS := s' }), 101)) m (fnv 16384 fun q => .int .i32 (updN v3.ttab p v3.tL.length q), 21))) (Ext.j2 hEi hd10 (Ext.refl _)) ?_
          have V4 := V3.addT hts3 (hd4.le hEi) kp4 (s' := s') (x := zT (atA v.core a) k) (p := p) (by rw [List.map_append]; exact tT4) hg (cok_temp V3.cok ha3 hkW hL3 hno3)
          have := hk _ _ V4 (by rw [← hc3]; unfold cTemp; rw [show idxT v3.core.tL (atA v.core a) k = none from hno3]; rfl)
          rw [← hc3, show atT v3.core (atA v.core a) k = v3.tL.length by unfold atT; rw [show idxT v3.core.tL (atA v.core a) k = none from hno3]; rfl] at this
          exact this
      · refine CondX.neI (fun hc => absurd (show v'.ttS.2.1 = 16384 by rw [hts]) (by omega)) (fun _ => ?_) <;> conv => whnf
        repeat (first | (refine CondX.tt ?_; conv => whnf) | (refine CondX.ff ?_; conv => whnf))
        obtain ⟨v3, hm3, hd3, V3, hc3, hts3, e3⟩ : ∃ v3 hm3, Dj hi1 hm3 ∧ VOK hi hm3 eb mc v3 ∧ v3.core = cAcct v.core a ∧ v3.ttS = (some ⟨m, 0, none⟩, 16384, 16384) ∧ join hi1 hm' = join hi1 hm3 := ⟨v', hm', hd', V', hc', hts, rfl⟩
        rw [e3]
        refine LoadX.all (join_l bx2) rfl ?_; conv => whnf
        have hno3 : idxT v3.tL (atA v.core a) k = none := by rw [show v3.tL = v3.core.tL from rfl, hc3]; unfold cAcct; split <;> exact hno
        have ha3 : atA v.core a < v3.aL.length := by rw [show v3.aL = v3.core.aL from rfl, hc3]; exact atA_lt
        have hf3 : v3.aL.length ≤ 2560 := V3.cok.fewA
        refine findT (by omega) hkW (Ext.j2 hE hd3 (Ext.refl hm3)) V3 (fun j hj h2 => absurd (h2.symm.trans hno3) (by simp)) (fun h2 _ => absurd (h2.symm.trans hts3) (by intro hc; cases hc)) (fun _ _ p hp hg => ?_) <;> conv => whnf
        refine CondX.dF (by omega) ?_; conv => whnf
        have hlen3 := V3.tT.len
        rw [List.length_map] at hlen3
        have hL3 : v3.tL.length < 12288 := by rw [show v3.tL = v3.core.tL from rfl, hc3]; unfold cAcct; split <;> exact hrT
        have hb3 : join hi1 hm3 eb = some (fnv 27024 (eC mc v3), 101) := join_hm hd3 V3.blk
        refine LoadX.fn hb3 27017 rfl (by omega) ?_
        rw [eC_t]; conv => whnf
        have e32 : IntKind.i32.wrap (v3.tS.2.1 : Int) = v3.tL.length := by rw [wrap_i32 (by omega) (by omega)]; omega
        rw [e32]
        refine DrawX.go T_ok hM Hval.func359 (tb := dr359) rfl (by kernel_rfl) ?_; conv => whnf
        refine LoadX.fn hb3 27017 rfl (by omega) ?_
        rw [eC_t]; conv => whnf
        refine LoadX.all (join_l bx2) rfl ?_; conv => whnf
        refine Ob.mk (by first | decide | omega) ?_; conv => whnf
        refine BoxX.j (vs := tpCells (zT (atA v.core a) k)) hd3 fun m8 hin8 hmn8 hd8 he8 => ?_; conv => whnf
        have hb8 := join_hm hd8 V3.blk
        refine Ob.mk (ldV_fn hb8 27017 rfl (by omega)) ?_; conv => whnf
        refine AppendX.tag (new := tpCells (zT (atA v.core a) k)) hd8 V3.tT (rd_ext (Ext.jl _ _) (rd_own rfl)) rfl rfl rfl (by decide) (Nat.le_trans (Nat.mul_le_mul_right _ (show v3.tS.2.1 + 1 ≤ 12288 by omega)) (by decide)) fun s' hm4 hd4 tT4 kp4 => ?_; conv => whnf
        have hbm : hm4 eb = some (fnv 27024 (eC mc v3), 101) := kp4 _ _ _ (by decide) V3.blk
        refine StoreX.jf hd4 hbm 27017 rfl (by omega) fun hd9 => ?_
        rw [show Value.slice s'.1 s'.2.1 s'.2.2 = sl s' from rfl, eU_t] at hd9 ⊢; conv => whnf
        have ett : eC mc { v3 with tS := s' } 27018 = sl (some ⟨m, 0, none⟩, 16384, 16384) := by rw [eC_tt]; exact congrArg sl hts3
        refine LoadX.fn (join_hm hd9 (hput_same ..)) 27018 rfl (by omega) ?_
        rw [ett]; conv => whnf
        refine IdxX.at (len := 16384) (by omega) (by omega) ?_; conv => whnf
        have hmt : hm3 m = some (fnv 16384 fun p => .int .i32 (v3.ttab p), 21) := by
          rcases V3.ttT with h1 | ⟨m', h1, h2, h3⟩
          · rw [h1.1] at hts3; cases hts3
          · have e : (some ⟨m', 0, none⟩ : Option Addr) = some ⟨m, 0, none⟩ := congrArg (fun s : Sl => s.1) (h1.symm.trans hts3)
            cases e; exact h2
        have hmt4 := kp4 _ _ _ (by decide) hmt
        have hne : eb ≠ m := tag_ne hbm hmt4 (by decide)
        refine StoreX.jf hd9 (by rw [hput_ne hne.symm]; exact hmt4) p (by rw [Int.toNat_natCast, show (21, y21).snd.size = 1 from rfl]; omega) hp fun hd10 => ?_
        rw [show updV (fun p => Value.int .i32 (v3.ttab p)) p (.int .i32 v3.tL.length) = fun q => .int .i32 (updN v3.ttab p v3.tL.length q) by funext q; unfold updV updN; split <;> rfl] at hd10 ⊢; conv => whnf
        have hEi := hE.trans he8
        refine RetX.drop (h' := join hi (hput (hput hm4 eb (fnv 27024 (eC mc { v3 with tS := s' }), 101)) m (fnv 16384 fun q => .int .i32 (updN v3.ttab p v3.tL.length q), 21))) (Ext.j2 hEi hd10 (Ext.refl _)) ?_
        have V4 := V3.addT hts3 (hd4.le hEi) kp4 (s' := s') (x := zT (atA v.core a) k) (p := p) (by rw [List.map_append]; exact tT4) hg (cok_temp V3.cok ha3 hkW hL3 hno3)
        have := hk _ _ V4 (by rw [← hc3]; unfold cTemp; rw [show idxT v3.core.tL (atA v.core a) k = none from hno3]; rfl)
        rw [← hc3, show atT v3.core (atA v.core a) k = v3.tL.length by unfold atT; rw [show idxT v3.core.tL (atA v.core a) k = none from hno3]; rfl] at this
        exact this
  · refine CondX.dF (by omega) ?_; conv => whnf
    have hno : idxT v.core.tL (atA v.core a) k = none := idxT_new V.cok h1
    refine CondX.dF (by omega) ?_; conv => whnf
    refine LoadX.fn hb1 27017 rfl (by omega) ?_
    rw [eC_t]; conv => whnf
    refine CondX.dF (by omega) ?_; conv => whnf
    refine LoadX.all (join_l bx1) alen ?_; conv => whnf
    refine acct_b hE hd2 hl hB V hrA fun hm' v' hd' V' hc' => ?_; conv => whnf
    repeat (first | (refine CondX.tt ?_; conv => whnf) | (refine CondX.ff ?_; conv => whnf))
    have hb' : join hi1 hm' eb = some (fnv 27024 (eC mc v'), 101) := join_hm hd' V'.blk
    refine LoadX.fn hb' 27018 rfl (by omega) ?_
    rw [eC_tt]; conv => whnf
    rcases V'.ttT with ⟨hts, -⟩ | ⟨m, hts, -, -⟩
    · refine CondX.neI (fun _ => ?_) (fun hc => absurd (show v'.ttS.2.1 = 0 by rw [hts]) (by omega)) <;> conv => whnf
      refine MakeX.jm hd' 16384 rfl rfl (by decide) (by decide) fun m hin5 hmn5 hd5 => ?_; conv => whnf
      rw [show zeros (21, y21).snd.zero 16384 = fnv 16384 fun _ => .int .i32 0 from zeros_one _ _] at hd5 ⊢
      have hne : eb ≠ m := by rintro rfl; rw [V'.blk] at hmn5; cases hmn5
      refine StoreX.jf hd5 (by rw [hput_ne hne]; exact V'.blk) 27018 rfl (by omega) fun hd6 => ?_
      rw [show Value.slice (some ⟨m, 0, none⟩) (Int.toNat 16384) (Int.toNat 16384) = sl (some ⟨m, 0, none⟩, 16384, 16384) from rfl, eU_tt] at hd6 ⊢; conv => whnf
      have ett : eC mc { v' with ttS := (some ⟨m, 0, none⟩, 16384, 16384) } 27018 = sl (some ⟨m, 0, none⟩, 16384, 16384) := rfl
      rw [hput_comm hne] at hd6 ⊢
      have hin6 : hi m = none := by
        cases hx : hi m with
        | none => rfl
        | some y => rw [hE _ _ hx] at hin5; cases hin5
      have VN := V'.newT hts hin6 hmn5
      have hbE : hput hm' eb (fnv 27024 (eC mc { v' with ttS := (some ⟨m, 0, none⟩, 16384, 16384) }), 101) eb = some (fnv 27024 (eC mc { v' with ttS := (some ⟨m, 0, none⟩, 16384, 16384) }), 101) := hput_same ..
      rw [show eC mc { v' with ttS := (some ⟨m, 0, none⟩, 16384, 16384), ttab := fun _ => -1 } = eC mc { v' with ttS := (some ⟨m, 0, none⟩, 16384, 16384) } from rfl] at VN
      generalize hput hm' eb (fnv 27024 (eC mc { v' with ttS := (some ⟨m, 0, none⟩, 16384, 16384) }), 101) = hmE at hbE hd6 VN ⊢
      have hdx : ∀ x, Dj hi1 (hput hmE m x) := fun x => by have := hd6.put (y := x) (hput_same ..); rw [hput_hput] at this; exact this
      refine LoadX.fn (join_hm hd6 (by rw [hput_ne hne]; exact hbE)) 27018 rfl (by omega) ?_
      rw [ett]; conv => whnf
      refine LoopX.st T_ok Hval.func359 (σ := Nat) (fun s => [(0, .pointer (some ⟨eb, 2435, none⟩)), (5, .pointer (some ⟨n2, 0, none⟩)), (8, .int .i32 (atA v.core a)), (61, .int .i64 16384), (62, .int .i64 s)]) (fun s h' => s ≤ 16384 ∧ h' = join hi1 (hput hmE m (fnv 16384 fun p => .int .i32 (if p < s then -1 else 0), 21))) (fun s => 16384 - s) 0 ⟨rfl, rfl, rfl, rfl, rfl, trivial⟩ ⟨by omega, rfl⟩ ?_
      rintro s ρ h' ⟨hs, rfl⟩ ih
      conv => whnf
      refine CondX.decI (fun hc => ?_) (fun hc => ?_) <;> conv => whnf
      · refine LoadX.fn (join_hm (hdx _) (by rw [hput_ne hne]; exact hbE)) 27018 rfl (by omega) ?_
        rw [ett]; conv => whnf
        refine IdxX.at (len := 16384) (by omega) (by omega) ?_; conv => whnf
        refine StoreX.jf (hdx _) (hput_same ..) s (by rw [Int.toNat_natCast, show (21, y21).snd.size = 1 from rfl]; omega) (by omega) fun hd7 => ?_
        rw [hput_hput]; conv => whnf
        refine ih (s + 1) _ _ ⟨by omega, ?_⟩ (by omega) ⟨rfl, rfl, rfl, rfl, congrArg (Value.int .i64) (wsucc (by omega)), trivial⟩
        congr 3
        refine fnv_ext fun q _ => ?_
        unfold updV
        dsimp only
        by_cases h1 : q = s
        · rw [if_pos h1, if_pos (by omega)]
        · rw [if_neg h1]
          by_cases h2 : q < s
          · rw [if_pos h2, if_pos (by omega)]
          · rw [if_neg h2, if_neg (by omega)]
      · have : s = 16384 := by omega
        subst this
        rw [show (fnv 16384 fun p => Value.int .i32 (if p < 16384 then -1 else 0)) = fnv 16384 fun _ => .int .i32 (-1) from fnv_ext fun i hi => by rw [if_pos hi]]
        obtain ⟨v3, hm3, hd3, V3, hc3, hts3, e3⟩ : ∃ v3 hm3, Dj hi1 hm3 ∧ VOK hi hm3 eb mc v3 ∧ v3.core = cAcct v.core a ∧ v3.ttS = (some ⟨m, 0, none⟩, 16384, 16384) ∧ join hi1 (hput hmE m (fnv 16384 fun _ => Value.int .i32 (-1), 21)) = join hi1 hm3 := ⟨_, _, hdx _, VN, hc', rfl, rfl⟩
        rw [e3]
        refine LoadX.all (join_l bx2) rfl ?_; conv => whnf
        have hno3 : idxT v3.tL (atA v.core a) k = none := by rw [show v3.tL = v3.core.tL from rfl, hc3]; unfold cAcct; split <;> exact hno
        have ha3 : atA v.core a < v3.aL.length := by rw [show v3.aL = v3.core.aL from rfl, hc3]; exact atA_lt
        have hf3 : v3.aL.length ≤ 2560 := V3.cok.fewA
        refine findT (by omega) hkW (Ext.j2 hE hd3 (Ext.refl hm3)) V3 (fun j hj h2 => absurd (h2.symm.trans hno3) (by simp)) (fun h2 _ => absurd (h2.symm.trans hts3) (by intro hc; cases hc)) (fun _ _ p hp hg => ?_) <;> conv => whnf
        refine CondX.dF (by omega) ?_; conv => whnf
        have hlen3 := V3.tT.len
        rw [List.length_map] at hlen3
        have hL3 : v3.tL.length < 12288 := by rw [show v3.tL = v3.core.tL from rfl, hc3]; unfold cAcct; split <;> exact hrT
        have hb3 : join hi1 hm3 eb = some (fnv 27024 (eC mc v3), 101) := join_hm hd3 V3.blk
        refine LoadX.fn hb3 27017 rfl (by omega) ?_
        rw [eC_t]; conv => whnf
        have e32 : IntKind.i32.wrap (v3.tS.2.1 : Int) = v3.tL.length := by rw [wrap_i32 (by omega) (by omega)]; omega
        rw [e32]
        refine DrawX.go T_ok hM Hval.func359 (tb := dr359) rfl (by kernel_rfl) ?_; conv => whnf
        refine LoadX.fn hb3 27017 rfl (by omega) ?_
        rw [eC_t]; conv => whnf
        refine LoadX.all (join_l bx2) rfl ?_; conv => whnf
        refine Ob.mk (by first | decide | omega) ?_; conv => whnf
        refine BoxX.j (vs := tpCells (zT (atA v.core a) k)) hd3 fun m8 hin8 hmn8 hd8 he8 => ?_; conv => whnf
        have hb8 := join_hm hd8 V3.blk
        refine Ob.mk (ldV_fn hb8 27017 rfl (by omega)) ?_; conv => whnf
        refine AppendX.tag (new := tpCells (zT (atA v.core a) k)) hd8 V3.tT (rd_ext (Ext.jl _ _) (rd_own rfl)) rfl rfl rfl (by decide) (Nat.le_trans (Nat.mul_le_mul_right _ (show v3.tS.2.1 + 1 ≤ 12288 by omega)) (by decide)) fun s' hm4 hd4 tT4 kp4 => ?_; conv => whnf
        have hbm : hm4 eb = some (fnv 27024 (eC mc v3), 101) := kp4 _ _ _ (by decide) V3.blk
        refine StoreX.jf hd4 hbm 27017 rfl (by omega) fun hd9 => ?_
        rw [show Value.slice s'.1 s'.2.1 s'.2.2 = sl s' from rfl, eU_t] at hd9 ⊢; conv => whnf
        have ett : eC mc { v3 with tS := s' } 27018 = sl (some ⟨m, 0, none⟩, 16384, 16384) := by rw [eC_tt]; exact congrArg sl hts3
        refine LoadX.fn (join_hm hd9 (hput_same ..)) 27018 rfl (by omega) ?_
        rw [ett]; conv => whnf
        refine IdxX.at (len := 16384) (by omega) (by omega) ?_; conv => whnf
        have hmt : hm3 m = some (fnv 16384 fun p => .int .i32 (v3.ttab p), 21) := by
          rcases V3.ttT with h1 | ⟨m', h1, h2, h3⟩
          · rw [h1.1] at hts3; cases hts3
          · have e : (some ⟨m', 0, none⟩ : Option Addr) = some ⟨m, 0, none⟩ := congrArg (fun s : Sl => s.1) (h1.symm.trans hts3)
            cases e; exact h2
        have hmt4 := kp4 _ _ _ (by decide) hmt
        have hne : eb ≠ m := tag_ne hbm hmt4 (by decide)
        refine StoreX.jf hd9 (by rw [hput_ne hne.symm]; exact hmt4) p (by rw [Int.toNat_natCast, show (21, y21).snd.size = 1 from rfl]; omega) hp fun hd10 => ?_
        rw [show updV (fun p => Value.int .i32 (v3.ttab p)) p (.int .i32 v3.tL.length) = fun q => .int .i32 (updN v3.ttab p v3.tL.length q) by funext q; unfold updV updN; split <;> rfl] at hd10 ⊢; conv => whnf
        have hEi := hE.trans he8
        refine RetX.drop (h' := join hi (hput (hput hm4 eb (fnv 27024 (eC mc { v3 with tS := s' }), 101)) m (fnv 16384 fun q => .int .i32 (updN v3.ttab p v3.tL.length q), 21))) (Ext.j2 hEi hd10 (Ext.refl _)) ?_
        have V4 := V3.addT hts3 (hd4.le hEi) kp4 (s' := s') (x := zT (atA v.core a) k) (p := p) (by rw [List.map_append]; exact tT4) hg (cok_temp V3.cok ha3 hkW hL3 hno3)
        have := hk _ _ V4 (by rw [← hc3]; unfold cTemp; rw [show idxT v3.core.tL (atA v.core a) k = none from hno3]; rfl)
        rw [← hc3, show atT v3.core (atA v.core a) k = v3.tL.length by unfold atT; rw [show idxT v3.core.tL (atA v.core a) k = none from hno3]; rfl] at this
        exact this
    · refine CondX.neI (fun hc => absurd (show v'.ttS.2.1 = 16384 by rw [hts]) (by omega)) (fun _ => ?_) <;> conv => whnf
      repeat (first | (refine CondX.tt ?_; conv => whnf) | (refine CondX.ff ?_; conv => whnf))
      obtain ⟨v3, hm3, hd3, V3, hc3, hts3, e3⟩ : ∃ v3 hm3, Dj hi1 hm3 ∧ VOK hi hm3 eb mc v3 ∧ v3.core = cAcct v.core a ∧ v3.ttS = (some ⟨m, 0, none⟩, 16384, 16384) ∧ join hi1 hm' = join hi1 hm3 := ⟨v', hm', hd', V', hc', hts, rfl⟩
      rw [e3]
      refine LoadX.all (join_l bx2) rfl ?_; conv => whnf
      have hno3 : idxT v3.tL (atA v.core a) k = none := by rw [show v3.tL = v3.core.tL from rfl, hc3]; unfold cAcct; split <;> exact hno
      have ha3 : atA v.core a < v3.aL.length := by rw [show v3.aL = v3.core.aL from rfl, hc3]; exact atA_lt
      have hf3 : v3.aL.length ≤ 2560 := V3.cok.fewA
      refine findT (by omega) hkW (Ext.j2 hE hd3 (Ext.refl hm3)) V3 (fun j hj h2 => absurd (h2.symm.trans hno3) (by simp)) (fun h2 _ => absurd (h2.symm.trans hts3) (by intro hc; cases hc)) (fun _ _ p hp hg => ?_) <;> conv => whnf
      refine CondX.dF (by omega) ?_; conv => whnf
      have hlen3 := V3.tT.len
      rw [List.length_map] at hlen3
      have hL3 : v3.tL.length < 12288 := by rw [show v3.tL = v3.core.tL from rfl, hc3]; unfold cAcct; split <;> exact hrT
      have hb3 : join hi1 hm3 eb = some (fnv 27024 (eC mc v3), 101) := join_hm hd3 V3.blk
      refine LoadX.fn hb3 27017 rfl (by omega) ?_
      rw [eC_t]; conv => whnf
      have e32 : IntKind.i32.wrap (v3.tS.2.1 : Int) = v3.tL.length := by rw [wrap_i32 (by omega) (by omega)]; omega
      rw [e32]
      refine DrawX.go T_ok hM Hval.func359 (tb := dr359) rfl (by kernel_rfl) ?_; conv => whnf
      refine LoadX.fn hb3 27017 rfl (by omega) ?_
      rw [eC_t]; conv => whnf
      refine LoadX.all (join_l bx2) rfl ?_; conv => whnf
      refine Ob.mk (by first | decide | omega) ?_; conv => whnf
      refine BoxX.j (vs := tpCells (zT (atA v.core a) k)) hd3 fun m8 hin8 hmn8 hd8 he8 => ?_; conv => whnf
      have hb8 := join_hm hd8 V3.blk
      refine Ob.mk (ldV_fn hb8 27017 rfl (by omega)) ?_; conv => whnf
      refine AppendX.tag (new := tpCells (zT (atA v.core a) k)) hd8 V3.tT (rd_ext (Ext.jl _ _) (rd_own rfl)) rfl rfl rfl (by decide) (Nat.le_trans (Nat.mul_le_mul_right _ (show v3.tS.2.1 + 1 ≤ 12288 by omega)) (by decide)) fun s' hm4 hd4 tT4 kp4 => ?_; conv => whnf
      have hbm : hm4 eb = some (fnv 27024 (eC mc v3), 101) := kp4 _ _ _ (by decide) V3.blk
      refine StoreX.jf hd4 hbm 27017 rfl (by omega) fun hd9 => ?_
      rw [show Value.slice s'.1 s'.2.1 s'.2.2 = sl s' from rfl, eU_t] at hd9 ⊢; conv => whnf
      have ett : eC mc { v3 with tS := s' } 27018 = sl (some ⟨m, 0, none⟩, 16384, 16384) := by rw [eC_tt]; exact congrArg sl hts3
      refine LoadX.fn (join_hm hd9 (hput_same ..)) 27018 rfl (by omega) ?_
      rw [ett]; conv => whnf
      refine IdxX.at (len := 16384) (by omega) (by omega) ?_; conv => whnf
      have hmt : hm3 m = some (fnv 16384 fun p => .int .i32 (v3.ttab p), 21) := by
        rcases V3.ttT with h1 | ⟨m', h1, h2, h3⟩
        · rw [h1.1] at hts3; cases hts3
        · have e : (some ⟨m', 0, none⟩ : Option Addr) = some ⟨m, 0, none⟩ := congrArg (fun s : Sl => s.1) (h1.symm.trans hts3)
          cases e; exact h2
      have hmt4 := kp4 _ _ _ (by decide) hmt
      have hne : eb ≠ m := tag_ne hbm hmt4 (by decide)
      refine StoreX.jf hd9 (by rw [hput_ne hne.symm]; exact hmt4) p (by rw [Int.toNat_natCast, show (21, y21).snd.size = 1 from rfl]; omega) hp fun hd10 => ?_
      rw [show updV (fun p => Value.int .i32 (v3.ttab p)) p (.int .i32 v3.tL.length) = fun q => .int .i32 (updN v3.ttab p v3.tL.length q) by funext q; unfold updV updN; split <;> rfl] at hd10 ⊢; conv => whnf
      have hEi := hE.trans he8
      refine RetX.drop (h' := join hi (hput (hput hm4 eb (fnv 27024 (eC mc { v3 with tS := s' }), 101)) m (fnv 16384 fun q => .int .i32 (updN v3.ttab p v3.tL.length q), 21))) (Ext.j2 hEi hd10 (Ext.refl _)) ?_
      have V4 := V3.addT hts3 (hd4.le hEi) kp4 (s' := s') (x := zT (atA v.core a) k) (p := p) (by rw [List.map_append]; exact tT4) hg (cok_temp V3.cok ha3 hkW hL3 hno3)
      have := hk _ _ V4 (by rw [← hc3]; unfold cTemp; rw [show idxT v3.core.tL (atA v.core a) k = none from hno3]; rfl)
      rw [← hc3, show atT v3.core (atA v.core a) k = v3.tL.length by unfold atT; rw [show idxT v3.core.tL (atA v.core a) k = none from hno3]; rfl] at this
      exact this
end
end Go.Proofs.YgvalwGreat.X
