import Derived.Test.YgvalwGreatE42
set_option linter.unusedVariables false
set_option linter.unusedSimpArgs false
namespace Go.Proofs.YgvalwGreat.X
open Go

section
variable {hi hi0 hi' hm hm' : Hp} {K : Value → Hp → Prop} {mc : Nat → Value} {v : VS} {eb : Nat} {P : Program} {f : FuncId} {args : List Value}
theorem join_over {h1 : Hp} (he : Ext hi0 h1) (hd : Dj (join h1 hm) (rest hi0 hi)) : join (join h1 hm) (rest hi0 hi) = join (join h1 (rest hi0 hi)) hm := by
  funext b
  unfold join
  cases h2 : h1 b with
  | some x => rfl
  | none =>
    dsimp only
    cases h3 : rest hi0 hi b with
    | none => cases hm b <;> rfl
    | some x =>
      cases h4 : hm b with
      | none => rfl
      | some y =>
        rcases hd b with h5 | h5
        · rw [join_r h2, h4] at h5; cases h5
        · rw [h3] at h5; cases h5
theorem Dj_over (he : Ext hi0 hi) (hd : Dj hi hm) : Dj (join hi0 hm) (rest hi0 hi) := fun b => by
  unfold rest
  cases h1 : hi0 b with
  | some x => exact .inr rfl
  | none =>
    rw [join_r h1]
    exact (hd b).symm
/-- A call on a part of the immutable heap: the rest stays. -/
theorem CallX.bx (he : Ext hi0 hi) (hd : Dj hi hm) {Q : Value → Hp → Prop} (hc : CallX P f args (join hi0 hm) (fun v h' => ∃ hm', h' = join hi0 hm' ∧ Dj hi0 hm' ∧ Q v hm')) (hk : ∀ v hm', Dj hi hm' → Q v hm' → K v (join hi hm')) : CallX P f args (join hi hm) K := by
  have hd0 := Dj_over he hd
  have e : join hi hm = join (join hi0 hm) (rest hi0 hi) := by rw [join_over (Ext.refl hi0) hd0, join_rest he]
  rw [e]
  refine CallX.frame hd0 hc fun v h' hd' => ?_
  rintro ⟨hm', rfl, dj0, q⟩
  rw [join_over (Ext.refl hi0) hd', join_rest he]
  refine hk v hm' (fun b => ?_) q
  cases h4 : hm' b with
  | none => exact .inr rfl
  | some y =>
    refine .inl ?_
    rcases hd' b with h5 | h5
    · unfold join at h5
      cases h6 : hi0 b with
      | some z => rw [h6] at h5; cases h5
      | none => rw [h6] at h5; rw [h4] at h5; cases h5
    · unfold rest at h5
      cases h6 : hi0 b with
      | some z =>
        rcases dj0 b with h7 | h7
        · rw [h6] at h7; cases h7
        · rw [h4] at h7; cases h7
      | none => rw [h6] at h5; exact h5
/-- The same where the immutable heap may grow. -/
theorem CallX.bg (he : Ext hi0 hi) (hd : Dj hi hm) {Q : Value → Hp → Hp → Prop} (hc : CallX P f args (join hi0 hm) (fun v h' => ∃ hi1 hm', h' = join hi1 hm' ∧ Ext hi0 hi1 ∧ Dj hi1 hm' ∧ Q v hi1 hm')) (hk : ∀ v hi1 hi2 hm', Ext hi hi2 → Ext hi1 hi2 → Dj hi2 hm' → Q v hi1 hm' → K v (join hi2 hm')) : CallX P f args (join hi hm) K := by
  have hd0 := Dj_over he hd
  have e : join hi hm = join (join hi0 hm) (rest hi0 hi) := by rw [join_over (Ext.refl hi0) hd0, join_rest he]
  rw [e]
  refine CallX.frame hd0 hc fun v h' hd' => ?_
  rintro ⟨hi1, hm', rfl, he1, dj0, q⟩
  rw [join_over he1 hd']
  refine hk v hi1 _ hm' (fun b x hb => ?_) (Ext.jl _ _) (fun b => ?_) q
  · cases h1 : hi1 b with
    | some y =>
      rw [join_l h1]
      cases h2 : hi0 b with
      | some z =>
        have e1 := he1 _ _ h2
        have e2 := he _ _ h2
        rw [h1] at e1; rw [hb] at e2; rw [e1, e2]
      | none =>
        rcases hd' b with h3 | h3
        · rw [join_l h1] at h3; cases h3
        · unfold rest at h3; rw [h2] at h3; rw [hb] at h3; cases h3
    | none =>
      rw [join_r h1]
      exact rest_get hb (by
        cases h2 : hi0 b with
        | none => rfl
        | some z => rw [he1 _ _ h2] at h1; cases h1)
  · cases h4 : hm' b with
    | none => exact .inr rfl
    | some y =>
      refine .inl ?_
      have h6 : hi1 b = none := by
        rcases dj0 b with h7 | h7
        · exact h7
        · rw [h4] at h7; cases h7
      rw [join_r h6]
      rcases hd' b with h5 | h5
      · rw [join_r h6, h4] at h5; cases h5
      · exact h5
theorem acct_b {a : List Int} (he : Ext hi0 hi) (hd : Dj hi hm) (hl : a.length = 20) (hB : isB a) (V : VOK hi0 hm eb mc v) (hroom : v.aL.length < 2560)
    (hk : ∀ hm' v', Dj hi hm' → VOK hi0 hm' eb mc v' → v'.core = cAcct v.core a → K (.tuple #[.int .i32 (atA v.core a), .bool true]) (join hi hm')) :
    CallX Hval.prog 138 [.pointer (some ⟨eb, 2435, none⟩), .agg (bcells a).toArray] (join hi hm) K :=
  CallX.bx he hd (Q := fun x hm' => ∃ v', VOK hi0 hm' eb mc v' ∧ v'.core = cAcct v.core a ∧ x = .tuple #[.int .i32 (atA v.core a), .bool true])
    (acct_ok hl hB V hroom fun hm' v' V' h1 => ⟨hm', rfl, V'.dj, v', V', h1, rfl⟩) fun x hm' hd' ⟨v', V', h1, h2⟩ => h2 ▸ hk hm' v' hd' V' h1
theorem slot_b {i k : Nat} (he : Ext hi0 hi) (hd : Dj hi hm) (ha : i < v.aL.length) (hkW : (k : Int) < W) (V : VOK hi0 hm eb mc v) (hroom : v.sL.length < 2560)
    (hk : ∀ hm' v', Dj hi hm' → VOK hi0 hm' eb mc v' → v'.core = cSlot v.core i k → K (.tuple #[.int .i32 (atS v.core i k), .bool true]) (join hi hm')) :
    CallX Hval.prog 140 [.pointer (some ⟨eb, 2435, none⟩), .int .i32 i, .agg (wc k).toArray] (join hi hm) K :=
  CallX.bx he hd (Q := fun x hm' => ∃ v', VOK hi0 hm' eb mc v' ∧ v'.core = cSlot v.core i k ∧ x = .tuple #[.int .i32 (atS v.core i k), .bool true])
    (slot_ok ha hkW V hroom fun hm' v' V' h1 => ⟨hm', rfl, V'.dj, v', V', h1, rfl⟩) fun x hm' hd' ⟨v', V', h1, h2⟩ => h2 ▸ hk hm' v' hd' V' h1
theorem atA_lt {c : VCore} {a : List Int} : atA c a < (cAcct c a).aL.length := by
  unfold atA cAcct
  cases h : idxA c.aL a with
  | some i => exact (idx_get (d := dA) h).1
  | none => simp

set_option maxRecDepth 100000 in
set_option maxHeartbeats 4000000 in
theorem slotOf_ok {a : List Int} {k : Nat} (hl : a.length = 20) (hB : isB a) (hkW : (k : Int) < W) (V : VOK hi hm eb mc v) (hrA : v.aL.length < 2560) (hrS : v.sL.length < 2560)
    (hk : ∀ hm' v', VOK hi hm' eb mc v' → v'.core = cSlot (cAcct v.core a) (atA v.core a) k → K (.tuple #[.int .i32 (atS (cAcct v.core a) (atA v.core a) k), .bool true]) (join hi hm')) :
    CallX Hval.prog 229 [.pointer (some ⟨eb, 2435, none⟩), .agg (bcells a).toArray, .agg (wc k).toArray] (join hi hm) K := by
  have hlen := V.sT.len
  rw [List.length_map] at hlen
  refine CallX.of_xf T_ok Hval.func229 rfl (by kernel_rfl) (Nat.le_of_ble_eq_true rfl) ?_; conv => whnf
  refine BoxX.j V.dj fun n1 hin hmn hd1 he1 => ?_; conv => whnf
  refine BoxX.j hd1 fun n2 hin2 hmn2 hd2 he2 => ?_; conv => whnf
  have hb1 : join (hput (hput hi n1 ((bcells a).toArray.toList, 31)) n2 ((wc k).toArray.toList, 75)) hm eb = some (fnv 27024 (eC mc v), 101) := join_hm hd2 V.blk
  have bx1 : (hput (hput hi n1 ((bcells a).toArray.toList, 31)) n2 ((wc k).toArray.toList, 75)) n1 = some (bcells a, 31) := he2 _ _ (hput_same ..)
  have bx2 : (hput (hput hi n1 ((bcells a).toArray.toList, 31)) n2 ((wc k).toArray.toList, 75)) n2 = some (wc k, 75) := hput_same ..
  have hE := he1.trans he2
  generalize hput (hput hi n1 ((bcells a).toArray.toList, 31)) n2 ((wc k).toArray.toList, 75) = hi1 at *
  have alen : (bcells a).length = (31, y31).snd.size := by rw [bcells_len, hl]; rfl
  have main : CallX Hval.prog 138 [.pointer (some ⟨eb, 2435, none⟩), .agg (bcells a).toArray] (join hi1 hm) (fun x h' => ∃ hm' v', Dj hi1 hm' ∧ VOK hi hm' eb mc v' ∧ v'.core = cAcct v.core a ∧ x = .tuple #[.int .i32 (atA v.core a), .bool true] ∧ h' = join hi1 hm') :=
    acct_b hE hd2 hl hB V hrA fun hm' v' h1 h2 h3 => ⟨hm', v', h1, h2, h3, rfl, rfl⟩
  refine LoadX.all (join_l bx1) alen ?_; conv => whnf
  refine findA hl hB (Ext.j2 hE hd2 (Ext.refl hm)) V (fun i hii h1 => ?_) (fun h1 p hp hg => ?_) <;> conv => whnf
  · refine CondX.dF (by omega) ?_; conv => whnf
    repeat (first | (refine CondX.tt ?_; conv => whnf) | (refine CondX.ff ?_; conv => whnf))
    refine LoadX.all (join_l bx1) alen ?_; conv => whnf
    refine CallX.mono main ?_
    rintro x h' ⟨hm', v', hd', V', hc', rfl, rfl⟩
    conv => whnf
    repeat (first | (refine CondX.tt ?_; conv => whnf) | (refine CondX.ff ?_; conv => whnf))
    refine LoadX.all (join_l bx2) rfl ?_; conv => whnf
    refine slot_b hE hd' (i := atA v.core a) (by rw [show v'.aL = v'.core.aL from rfl, hc']; exact atA_lt) hkW V' (by rw [show v'.sL = v'.core.sL from rfl, hc']; unfold cAcct; split <;> exact hrS) fun hm2 v2 hd3 V2 hc2 => ?_; conv => whnf
    rw [hc'] at hc2 ⊢
    refine RetX.drop (h' := join hi hm2) (Ext.j2 hE hd3 (Ext.refl _)) (hk hm2 v2 V2 hc2)
  · refine CondX.dT (by omega) ?_; conv => whnf
    repeat (first | (refine CondX.tt ?_; conv => whnf) | (refine CondX.ff ?_; conv => whnf))
    refine LoadX.fn hb1 2436 rfl (by omega) ?_
    rw [eC_s]; conv => whnf
    repeat (first | (refine CondX.tt ?_; conv => whnf) | (refine CondX.ff ?_; conv => whnf))
    refine CondX.dF (by omega) ?_; conv => whnf
    repeat (first | (refine CondX.tt ?_; conv => whnf) | (refine CondX.ff ?_; conv => whnf))
    refine LoadX.all (join_l bx1) alen ?_; conv => whnf
    refine CallX.mono main ?_
    rintro x h' ⟨hm', v', hd', V', hc', rfl, rfl⟩
    conv => whnf
    repeat (first | (refine CondX.tt ?_; conv => whnf) | (refine CondX.ff ?_; conv => whnf))
    refine LoadX.all (join_l bx2) rfl ?_; conv => whnf
    refine slot_b hE hd' (i := atA v.core a) (by rw [show v'.aL = v'.core.aL from rfl, hc']; exact atA_lt) hkW V' (by rw [show v'.sL = v'.core.sL from rfl, hc']; unfold cAcct; split <;> exact hrS) fun hm2 v2 hd3 V2 hc2 => ?_; conv => whnf
    rw [hc'] at hc2 ⊢
    refine RetX.drop (h' := join hi hm2) (Ext.j2 hE hd3 (Ext.refl _)) (hk hm2 v2 V2 hc2)
end
end Go.Proofs.YgvalwGreat.X
