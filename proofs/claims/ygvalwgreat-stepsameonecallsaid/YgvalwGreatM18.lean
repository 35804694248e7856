import Derived.Test.YgvalwGreatM17
set_option linter.unusedVariables false
set_option linter.unusedSimpArgs false
namespace Go.Proofs.YgvalwGreat.X
open Go

section
variable {hi hm h : Hp} {K : Value → Hp → Prop} {v : VS} {eb : Nat} {w : AW} {sn : List AW} {m : MS} {t : Nat}
theorem VA.slotW {mc : Nat → Value} (A : VA hi hm eb mc w sn v) (a : List Int) (k : Int) : 0 ≤ (w.acct a).slot k ∧ (w.acct a).slot k < W := by
  rw [← A.abs]
  show 0 ≤ (gS v.core a k).val ∧ (gS v.core a k).val < W
  unfold gS
  have hW := W_pos
  split
  · split
    · rename_i j hj
      exact (A.V.cok.swf _ (getDm (d := dS) (idxS_get hj).1)).2.2.1
    · exact ⟨Int.le_refl 0, hW⟩
  · exact ⟨Int.le_refl 0, hW⟩
theorem VA.tempW' {mc : Nat → Value} (A : VA hi hm eb mc w sn v) (a : List Int) (k : Int) : 0 ≤ w.temp a k ∧ w.temp a k < W := by
  rw [← A.abs]
  show 0 ≤ (gT v.core a k).val ∧ (gT v.core a k).val < W
  unfold gT
  have hW := W_pos
  split
  · split
    · rename_i j hj
      exact (A.V.cok.twf _ (getDm (d := dT) (idxT_get hj).1)).2.2
    · exact ⟨Int.le_refl 0, hW⟩
  · exact ⟨Int.le_refl 0, hW⟩
theorem VA.balW' {mc : Nat → Value} (A : VA hi hm eb mc w sn v) (a : List Int) : (0 ≤ (w.acct a).bal ∧ (w.acct a).bal < W) ∧ 0 ≤ (w.acct a).nonce ∧ (w.acct a).nonce < 18446744073709551616 := by
  rw [← A.abs]
  show (0 ≤ (gA v.core a).bal ∧ (gA v.core a).bal < W) ∧ 0 ≤ (gA v.core a).nonce ∧ (gA v.core a).nonce < 18446744073709551616
  unfold gA
  have hW := W_pos
  split
  · rename_i i hi
    have := A.V.cok.awf _ (getDm (d := dA) (idxA_get hi).1)
    exact ⟨this.2.2, this.2.1⟩
  · exact ⟨⟨Int.le_refl 0, hW⟩, Int.le_refl 0, by show (0 : Int) < 18446744073709551616; decide⟩
theorem isB_addrI (x : Int) : isB (addrI x) := isB_be _ _
set_option maxRecDepth 100000 in
set_option maxHeartbeats 4000000 in
theorem access_okM {a : Nat} (M : MA hi hm eb m t w sn v) (he : Ext (join hi hm) h) (ha : (a : Int) < W) (hk : K (.int .u64 (accA w (addrI a))) h) : CallX Hval.prog 343 [.pointer (some ⟨eb, 0, none⟩), .agg (wc a).toArray] h K := by
  refine CallX.of_xf T_ok Hval.func343 rfl (by kernel_rfl) (Nat.le_of_ble_eq_true rfl) ?_; conv => whnf
  refine BoxX.ext fun n1 hn1 en1 => ?_; conv => whnf
  have hb := M.blk (he.trans en1)
  refine DrawX.go T_ok hM Hval.func343 (tb := dr343) rfl (by kernel_rfl) ?_; conv => whnf
  refine LoadX.fn hb 0 rfl (by omega) ?_
  rw [mR_S]; conv => whnf
  refine LoadX.all (c := wc a) (hput_same ..) rfl ?_; conv => whnf
  refine addrOf_okM ha ?_; conv => whnf
  repeat (refine Ob.mk (by first | exact ldV_fn hb 0 rfl (by omega) | exact ldV_all (hput_same ..) rfl) ?_; conv => whnf)
  refine isWarmAcct_ok (addrI_length _) (isB_addrI _) M.A (he.trans en1) ?_; conv => whnf
  have hk := hk
  unfold accA at hk
  cases hw : w.warmA (addrI a) with
  | true =>
    refine CondX.tt ?_; conv => whnf
    rw [hw, if_pos rfl] at hk
    exact RetX.drop (Ext.bd hn1) hk
  | false =>
    refine CondX.ff ?_; conv => whnf
    rw [hw, if_neg (by decide)] at hk
    exact RetX.drop (Ext.bd hn1) hk
set_option maxRecDepth 100000 in
set_option maxHeartbeats 4000000 in
theorem writes_okM {o : Int} {c : Nat} (M : MA hi hm eb m t w sn v) (he : Ext (join hi hm) h) (h2 : argM m t 2 = c) (hk : K (.bool (writesI o c)) h) : CallX Hval.prog 247 [.pointer (some ⟨eb, 0, none⟩), .pointer (some ⟨eb, 1803 + t * 65, none⟩), .int .u8 o] h K := by
  have qc := h2 ▸ (argM_W M 2).2
  have fin : ∀ b : Bool, writesI o c = b → K (.bool b) h := fun b hb => by rw [← hb]; exact hk
  have tt : (o = 85 ∨ o = 93 ∨ o = 255 ∨ (160 ≤ o ∧ o ≤ 164) ∨ o = 240 ∨ o = 245) → writesI o c = true := fun hh => decide_eq_true (by rcases hh with h | h | h | h | h | h <;> simp [h])
  refine CallX.of_xf T_ok Hval.func247 rfl (by kernel_rfl) (Nat.le_of_ble_eq_true rfl) ?_; conv => whnf
  refine CondX.eqI (fun g1 => ?_) (fun g1 => ?_)
  · subst g1; conv => whnf
    repeat (first | (refine CondX.tt ?_; conv => whnf) | (refine CondX.ff ?_; conv => whnf))
    exact RetX.same (fin true (tt (by omega)))
  conv => whnf
  refine CondX.eqI (fun g2 => ?_) (fun g2 => ?_)
  · subst g2; conv => whnf
    repeat (first | (refine CondX.tt ?_; conv => whnf) | (refine CondX.ff ?_; conv => whnf))
    exact RetX.same (fin true (tt (by omega)))
  conv => whnf
  by_cases g3 : 160 ≤ o ∧ o ≤ 164
  · refine CondX.dT (by omega) ?_; conv => whnf
    repeat (first | ((with_reducible refine CondX.tt ?_); conv => whnf) | ((with_reducible refine CondX.ff ?_); conv => whnf) | ((with_reducible refine CondX.nT ?_); conv => whnf) | ((with_reducible refine CondX.nF ?_); conv => whnf) | (with_reducible refine CondX.bF ?_) | (with_reducible refine CondX.bT ?_))
    refine CondX.dT (by omega) ?_; conv => whnf
    repeat (first | ((with_reducible refine CondX.tt ?_); conv => whnf) | ((with_reducible refine CondX.ff ?_); conv => whnf) | ((with_reducible refine CondX.nT ?_); conv => whnf) | ((with_reducible refine CondX.nF ?_); conv => whnf) | (with_reducible refine CondX.bF ?_) | (with_reducible refine CondX.bT ?_))
    refine CondX.dT (by omega) ?_; conv => whnf
    exact RetX.same (fin true (tt (by omega)))
  have tail : writesI o c = (decide (o = 240) || decide (o = 245) || decide (o = 255) || (decide (o = 241) && !decide ((c : Int) = 0))) := by
    unfold writesI
    rw [Bool.eq_iff_iff]
    simp
    omega
  by_cases g4 : 160 ≤ o
  · refine CondX.dT (by omega) ?_; conv => whnf
    repeat (first | ((with_reducible refine CondX.tt ?_); conv => whnf) | ((with_reducible refine CondX.ff ?_); conv => whnf) | ((with_reducible refine CondX.nT ?_); conv => whnf) | ((with_reducible refine CondX.nF ?_); conv => whnf) | (with_reducible refine CondX.bF ?_) | (with_reducible refine CondX.bT ?_))
    refine CondX.dF (by omega) ?_; conv => whnf
    refine CondX.eqI (fun g5 => ?_) (fun g5 => ?_)
    · subst g5; conv => whnf
      repeat (first | (refine CondX.tt ?_; conv => whnf) | (refine CondX.ff ?_; conv => whnf))
      exact RetX.same (fin true (tt (by omega)))
    conv => whnf
    refine CondX.eqI (fun g6 => ?_) (fun g6 => ?_)
    · subst g6; conv => whnf
      repeat (first | (refine CondX.tt ?_; conv => whnf) | (refine CondX.ff ?_; conv => whnf))
      exact RetX.same (fin true (tt (by omega)))
    conv => whnf
    refine CondX.eqI (fun g7 => ?_) (fun g7 => ?_)
    · subst g7; conv => whnf
      repeat (first | (refine CondX.tt ?_; conv => whnf) | (refine CondX.ff ?_; conv => whnf))
      exact RetX.same (fin true (tt (by omega)))
    conv => whnf
    refine CondX.eqI (fun g8 => ?_) (fun g8 => ?_)
    · subst g8; conv => whnf
      refine arg_okM (i := 2) M he (by decide) ?_
      rw [h2]; conv => whnf
      refine BoxX.ext fun n1 hn1 en1 => ?_; conv => whnf
      refine Ob.mk ⟨rfl, rfl⟩ ?_; conv => whnf
      refine StoreX.whole (c := (75, y75).snd.zero) (t := 75) (hput_same ..) rfl ?_
      rw [hput_hput]; conv => whnf
      refine LoadX.all (c := wc c) (hput_same ..) rfl ?_; conv => whnf
      refine eIsZero' (by omega) qc ?_; conv => whnf
      exact RetX.drop (Ext.bd hn1) (fin _ (by rw [tail]; rfl))
    conv => whnf
    exact RetX.same (fin false (by rw [tail, decide_eq_false g5, decide_eq_false g6, decide_eq_false g7, decide_eq_false g8]; rfl))
  · refine CondX.dF (by omega) ?_; conv => whnf
    repeat (first | ((with_reducible refine CondX.tt ?_); conv => whnf) | ((with_reducible refine CondX.ff ?_); conv => whnf) | ((with_reducible refine CondX.nT ?_); conv => whnf) | ((with_reducible refine CondX.nF ?_); conv => whnf) | (with_reducible refine CondX.bF ?_) | (with_reducible refine CondX.bT ?_))
    refine CondX.eqI (fun g5 => ?_) (fun g5 => ?_)
    · subst g5; conv => whnf
      repeat (first | (refine CondX.tt ?_; conv => whnf) | (refine CondX.ff ?_; conv => whnf))
      exact RetX.same (fin true (tt (by omega)))
    conv => whnf
    refine CondX.eqI (fun g6 => ?_) (fun g6 => ?_)
    · subst g6; conv => whnf
      repeat (first | (refine CondX.tt ?_; conv => whnf) | (refine CondX.ff ?_; conv => whnf))
      exact RetX.same (fin true (tt (by omega)))
    conv => whnf
    refine CondX.eqI (fun g7 => ?_) (fun g7 => ?_)
    · subst g7; conv => whnf
      repeat (first | (refine CondX.tt ?_; conv => whnf) | (refine CondX.ff ?_; conv => whnf))
      exact RetX.same (fin true (tt (by omega)))
    conv => whnf
    refine CondX.eqI (fun g8 => ?_) (fun g8 => ?_)
    · subst g8; conv => whnf
      refine arg_okM (i := 2) M he (by decide) ?_
      rw [h2]; conv => whnf
      refine BoxX.ext fun n1 hn1 en1 => ?_; conv => whnf
      refine Ob.mk ⟨rfl, rfl⟩ ?_; conv => whnf
      refine StoreX.whole (c := (75, y75).snd.zero) (t := 75) (hput_same ..) rfl ?_
      rw [hput_hput]; conv => whnf
      refine LoadX.all (c := wc c) (hput_same ..) rfl ?_; conv => whnf
      refine eIsZero' (by omega) qc ?_; conv => whnf
      exact RetX.drop (Ext.bd hn1) (fin _ (by rw [tail]; rfl))
    conv => whnf
    exact RetX.same (fin false (by rw [tail, decide_eq_false g5, decide_eq_false g6, decide_eq_false g7, decide_eq_false g8]; rfl))
set_option maxRecDepth 100000 in
set_option maxHeartbeats 4000000 in
theorem past_okM {a b : Nat} (M : MA hi hm eb m t w sn v) (he : Ext (join hi hm) h) (ha : (a : Int) < W) (hb : (b : Int) < W) (hk : K (.bool (decide (m.ret.length < a + b))) h) : CallX Hval.prog 249 [.pointer (some ⟨eb, 0, none⟩), .agg (wc a).toArray, .agg (wc b).toArray] h K := by
  have hr := M.ret.len
  have hrm := M.ret.room
  have hW64 : (18446744073709551616 : Int) < W := by rw [W_val]; decide
  have fin : ∀ x : Bool, decide (m.ret.length < a + b) = x → K (.bool x) h := fun x hx => by rw [← hx]; exact hk
  refine CallX.of_xf T_ok Hval.func249 rfl (by kernel_rfl) (Nat.le_of_ble_eq_true rfl) ?_; conv => whnf
  refine BoxX.ext fun n1 hn1 en1 => ?_; conv => whnf
  refine BoxX.ext fun n2 hn2 en2 => ?_; conv => whnf
  refine LoadX.all (c := wc a) (en2 _ _ (hput_same ..)) rfl ?_; conv => whnf
  refine LoadX.all (c := wc b) (hput_same ..) rfl ?_; conv => whnf
  refine eAddOver_ok (by omega) ha (by omega) hb ?_; conv => whnf
  refine BoxX.ext fun n3 hn3 en3 => ?_; conv => whnf
  refine Ob.mk ⟨rfl, rfl⟩ ?_; conv => whnf
  refine StoreX.whole (c := (75, y75).snd.zero) (t := 75) (hput_same ..) rfl ?_
  rw [hput_hput]; conv => whnf
  have hdr := (en1.trans en2).trans (Ext.keep (x := ((wc (((a : Int) + b) % W)).toArray.toList, 75)) (Ext.refl _) hn3.at)
  have hbE := M.blk (he.trans hdr)
  obtain ⟨c, hc⟩ : ∃ c : Nat, ((a : Int) + b) % W = c := ⟨_, (Int.toNat_of_nonneg (emodW _).1).symm⟩
  have hcW : (c : Int) < W := hc ▸ (emodW _).2
  rw [hc] at hdr hbE ⊢
  refine LoadX.all (c := wc c) (hput_same ..) rfl ?_; conv => whnf
  refine eU64_ok hcW ?_; conv => whnf
  by_cases hov : W ≤ (a : Int) + b
  · rw [decide_eq_true hov]
    repeat (first | ((with_reducible refine CondX.tt ?_); conv => whnf) | ((with_reducible refine CondX.ff ?_); conv => whnf) | ((with_reducible refine CondX.nT ?_); conv => whnf) | ((with_reducible refine CondX.nF ?_); conv => whnf) | (with_reducible refine CondX.bF ?_) | (with_reducible refine CondX.bT ?_))
    exact RetX.drop hdr (fin true (decide_eq_true (by omega)))
  · rw [decide_eq_false hov]
    have hab : c = a + b := by
      rw [Int.emod_eq_of_lt (by omega) (by omega)] at hc
      omega
    repeat (first | ((with_reducible refine CondX.tt ?_); conv => whnf) | ((with_reducible refine CondX.ff ?_); conv => whnf) | ((with_reducible refine CondX.nT ?_); conv => whnf) | ((with_reducible refine CondX.nF ?_); conv => whnf) | (with_reducible refine CondX.bF ?_) | (with_reducible refine CondX.bT ?_))
    by_cases h64 : (c : Int) < 18446744073709551616
    · rw [decide_eq_true h64, if_pos h64]
      repeat (first | ((with_reducible refine CondX.tt ?_); conv => whnf) | ((with_reducible refine CondX.ff ?_); conv => whnf) | ((with_reducible refine CondX.nT ?_); conv => whnf) | ((with_reducible refine CondX.nF ?_); conv => whnf) | (with_reducible refine CondX.bF ?_) | (with_reducible refine CondX.bT ?_))
      refine LoadX.fn hbE 2259 rfl (by omega) ?_
      rw [mR_ret]; conv => whnf
      repeat (first | ((with_reducible refine CondX.tt ?_); conv => whnf) | ((with_reducible refine CondX.ff ?_); conv => whnf) | ((with_reducible refine CondX.nT ?_); conv => whnf) | ((with_reducible refine CondX.nF ?_); conv => whnf) | (with_reducible refine CondX.bF ?_) | (with_reducible refine CondX.bT ?_))
      rw [show IntKind.u64.wrap (m.retS.2.1 : Int) = m.retS.2.1 by rw [wrap_u64']; omega]
      refine RetX.drop hdr (fin _ ?_)
      rw [show ∀ x : Bool, (bif false then true else x) = x from fun x => rfl]
      exact decide_eq_decide.2 (by omega)
    · rw [decide_eq_false h64]
      repeat (first | ((with_reducible refine CondX.tt ?_); conv => whnf) | ((with_reducible refine CondX.ff ?_); conv => whnf) | ((with_reducible refine CondX.nT ?_); conv => whnf) | ((with_reducible refine CondX.nF ?_); conv => whnf) | (with_reducible refine CondX.bF ?_) | (with_reducible refine CondX.bT ?_))
      exact RetX.drop hdr (fin true (decide_eq_true (by omega)))
theorem walkD_lt (f : Nat) (l : List Int) (i : Nat) (a : Int) (h : walkD f l i a = true) : a < l.length := by
  induction f generalizing i with
  | zero => unfold walkD at h; cases h
  | succ f ih =>
    unfold walkD at h
    split at h
    · split at h
      · omega
      · exact ih _ h
    · cases h
set_option maxRecDepth 100000 in
set_option maxHeartbeats 4000000 in
theorem good_okM {a : Nat} (M : MA hi hm eb m t w sn v) (he : Ext (join hi hm) h) (ha : (a : Int) < W) (hk : K (.bool (isDestI (m.fr t).code a)) h) : CallX Hval.prog 254 [.pointer (some ⟨eb, 1803 + t * 65, none⟩), .agg (wc a).toArray] h K := by
  have F := M.f
  have h7 := M.t7
  have hcl := F.code.len
  have h512 := F.cl
  have no : (m.fr t).code.length ≤ a → K (.bool false) h := fun hge => by
    have : isDestI (m.fr t).code a = false := by
      cases hc : isDestI (m.fr t).code a with
      | false => rfl
      | true => have := walkD_lt _ _ _ _ hc; omega
    rw [this] at hk; exact hk
  refine CallX.of_xf T_ok Hval.func254 rfl (by kernel_rfl) (Nat.le_of_ble_eq_true rfl) ?_; conv => whnf
  refine BoxX.ext fun n1 hn1 en1 => ?_; conv => whnf
  have hbE := M.blk (he.trans en1)
  refine LoadX.all (c := wc a) (hput_same ..) rfl ?_; conv => whnf
  refine eU64_ok ha ?_; conv => whnf
  by_cases h64 : (a : Int) < 18446744073709551616
  · rw [decide_eq_true h64, if_pos h64]
    repeat (first | ((with_reducible refine CondX.tt ?_); conv => whnf) | ((with_reducible refine CondX.ff ?_); conv => whnf) | ((with_reducible refine CondX.nT ?_); conv => whnf) | ((with_reducible refine CondX.nF ?_); conv => whnf) | (with_reducible refine CondX.bF ?_) | (with_reducible refine CondX.bT ?_))
    refine LoadX.fn hbE (1803 + t * 65 + 53) rfl (by omega) ?_
    rw [mR_cs h7]; conv => whnf
    repeat (first | ((with_reducible refine CondX.tt ?_); conv => whnf) | ((with_reducible refine CondX.ff ?_); conv => whnf) | ((with_reducible refine CondX.nT ?_); conv => whnf) | ((with_reducible refine CondX.nF ?_); conv => whnf) | (with_reducible refine CondX.bF ?_) | (with_reducible refine CondX.bT ?_))
    rw [show IntKind.u64.wrap ((m.fr t).cs.2.1 : Int) = (m.fr t).cs.2.1 by rw [wrap_u64']; omega]
    refine CondX.decI (fun h1 => ?_) (fun h1 => ?_) <;> conv => whnf
    · repeat (first | ((with_reducible refine CondX.tt ?_); conv => whnf) | ((with_reducible refine CondX.ff ?_); conv => whnf) | ((with_reducible refine CondX.nT ?_); conv => whnf) | ((with_reducible refine CondX.nF ?_); conv => whnf) | (with_reducible refine CondX.bF ?_) | (with_reducible refine CondX.bT ?_))
      refine CondX.dT (by omega) ?_; conv => whnf
      repeat (first | ((with_reducible refine CondX.tt ?_); conv => whnf) | ((with_reducible refine CondX.ff ?_); conv => whnf) | ((with_reducible refine CondX.nT ?_); conv => whnf) | ((with_reducible refine CondX.nF ?_); conv => whnf) | (with_reducible refine CondX.bF ?_) | (with_reducible refine CondX.bT ?_))
      rw [show IntKind.u16.wrap (a : Int) = a by rw [wrap_u16]; omega]
      obtain ⟨D, d1, d2, d3⟩ := F.dst
      refine isDest_okM (D := D) (at_ := a) hbE (by show 1803 + t * 65 + 55 + 8 ≤ 27024; omega) (fun i hi => by rw [show (1803 + t * 65 + (fd 55 78).offset) = 1803 + t * 65 + 55 from rfl, mR_dst h7 hi, d1]) d2 (by omega) ?_; conv => whnf
      repeat (first | ((with_reducible refine CondX.tt ?_); conv => whnf) | ((with_reducible refine CondX.ff ?_); conv => whnf) | ((with_reducible refine CondX.nT ?_); conv => whnf) | ((with_reducible refine CondX.nF ?_); conv => whnf) | (with_reducible refine CondX.bF ?_) | (with_reducible refine CondX.bT ?_))
      rw [d3 a (by omega)]
      exact RetX.drop (Ext.bd hn1) hk
    · repeat (first | ((with_reducible refine CondX.tt ?_); conv => whnf) | ((with_reducible refine CondX.ff ?_); conv => whnf) | ((with_reducible refine CondX.nT ?_); conv => whnf) | ((with_reducible refine CondX.nF ?_); conv => whnf) | (with_reducible refine CondX.bF ?_) | (with_reducible refine CondX.bT ?_))
      exact RetX.drop (Ext.bd hn1) (no (by omega))
  · rw [decide_eq_false h64]
    repeat (first | ((with_reducible refine CondX.tt ?_); conv => whnf) | ((with_reducible refine CondX.ff ?_); conv => whnf) | ((with_reducible refine CondX.nT ?_); conv => whnf) | ((with_reducible refine CondX.nF ?_); conv => whnf) | (with_reducible refine CondX.bF ?_) | (with_reducible refine CondX.bT ?_))
    exact RetX.drop (Ext.bd hn1) (no (by omega))
end
end Go.Proofs.YgvalwGreat.X
