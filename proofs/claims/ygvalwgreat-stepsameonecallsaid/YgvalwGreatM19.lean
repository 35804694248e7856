import Derived.Test.YgvalwGreatM18
set_option linter.unusedVariables false
set_option linter.unusedSimpArgs false
namespace Go.Proofs.YgvalwGreat.X
open Go

section
variable {hi hi0 hm h : Hp} {K : Value → Hp → Prop} {v : VS} {eb : Nat} {w w' : AW} {sn : List AW} {m : MS} {t : Nat} {a : List Int}
theorem MA.setV {hi' hm' : Hp} {v' : VS} {sn' : List AW} (M : MA hi hm eb m t w sn v) (he : Ext hi hi') (A : VA hi' hm' eb (mC eb m) w' sn' v') : MA hi' hm' eb m t w' sn' v' :=
  ⟨A, M.phase, M.top, M.t7, fun i h => let F := M.fok i h; ⟨F.sb, F.sp, F.pc, F.gas, F.self, F.caller, F.val, F.code.ext he, F.cl, F.input.ext he, F.dst⟩, M.stw, M.ret.ext he⟩
theorem warm_has {mc : Nat → Value} (A : VA hi hm eb mc w sn v) (h : w.warmA a = true) : hasA v a = true := by
  rw [← A.abs] at h
  have h : (gA v.core a).warm = true := h
  unfold hasA
  cases hx : idxA v.aL a with
  | some i => rfl
  | none => rw [gA_none (c := v.core) hx] at h; cases h
theorem warmW_id (h : w.warmA a = true) : warmW w a = w := by
  unfold warmW
  congr 1
  funext b
  by_cases hb : b = a
  · rw [hb, h]; rfl
  · rw [decide_eq_false hb, Bool.or_false]
theorem Up.le {v v' : VS} {a b c d a' b' c' d' : Nat} (u : Up v v' a b c d) (h1 : a ≤ a') (h2 : b ≤ b') (h3 : c ≤ c') (h4 : d ≤ d') : Up v v' a' b' c' d' :=
  ⟨Nat.le_trans u.a (by omega), Nat.le_trans u.s (by omega), Nat.le_trans u.t (by omega), Nat.le_trans u.j (by omega), u.has, u.nl⟩
theorem newA_le (v : VS) (a : List Int) : newA v a ≤ 1 := by unfold newA; split <;> omega
def WaK (hi : Hp) (eb : Nat) (m : MS) (t : Nat) (w : AW) (sn : List AW) (v : VS) (a : List Int) (K : Value → Hp → Prop) : Prop := ∀ hm' v', MA hi hm' eb m t (warmW w a) sn v' → Up v v' 1 0 0 1 → hasA v' a = true → K (.bool true) (join hi hm')
set_option maxRecDepth 100000 in
set_option maxHeartbeats 4000000 in
theorem warmAcct_okM (hl : a.length = 20) (hB : isB a) (M : MA hi hm eb m t w sn v) (hrA : v.aL.length < 2560) (hrJ : v.jL.length < 65536) (hk : WaK hi eb m t w sn v a K) : CallX Hval.prog 277 [.pointer (some ⟨eb, 0, none⟩), .agg (bcells a).toArray] (join hi hm) K := by
  refine CallX.of_xf T_ok Hval.func277 rfl (by kernel_rfl) (Nat.le_of_ble_eq_true rfl) ?_; conv => whnf
  refine BoxX.j M.A.V.dj fun n1 hin hmn hd1 hE => ?_; conv => whnf
  have bx1 : (hput hi n1 ((bcells a).toArray.toList, 31)) n1 = some (bcells a, 31) := hput_same ..
  generalize hput hi n1 ((bcells a).toArray.toList, 31) = hi1 at *
  have alen : (bcells a).length = (31, y31).snd.size := by rw [bcells_len, hl]; rfl
  have hEj := Ext.j2 hE hd1 (Ext.refl hm)
  have hb := M.blk hEj
  refine DrawX.go T_ok hM Hval.func277 (tb := dr277) rfl (by kernel_rfl) ?_; conv => whnf
  refine LoadX.fn hb 0 rfl (by omega) ?_
  rw [mR_S]; conv => whnf
  refine LoadX.all (join_l bx1) alen ?_; conv => whnf
  refine isWarmAcct_ok hl hB M.A hEj ?_; conv => whnf
  repeat (refine Ob.mk (by first | exact ldV_fn hb 0 rfl (by omega) | exact ldV_all (join_l bx1) (by rw [alen])) ?_; conv => whnf)
  cases hw : w.warmA a with
  | true =>
    repeat (first | (refine CondX.tt ?_; conv => whnf) | (refine CondX.ff ?_; conv => whnf))
    refine RetX.drop (h' := join hi hm) hEj (hk hm v (by rw [warmW_id hw]; exact M) (Up.refl.le (by omega) (by omega) (by omega) (by omega)) (warm_has M.A hw))
  | false =>
    repeat (first | (refine CondX.tt ?_; conv => whnf) | (refine CondX.ff ?_; conv => whnf))
    refine LoadX.fn hb 0 rfl (by omega) ?_
    rw [mR_S]; conv => whnf
    repeat (first | (refine CondX.tt ?_; conv => whnf) | (refine CondX.ff ?_; conv => whnf))
    refine LoadX.all (join_l bx1) alen ?_; conv => whnf
    repeat (first | (refine CondX.tt ?_; conv => whnf) | (refine CondX.ff ?_; conv => whnf))
    refine CallX.bx hE hd1 (Q := fun y hm' => ∃ v', VA hi hm' eb (mC eb m) (wrmW w a true) sn v' ∧ Up v v' (newA v a) 0 0 1 ∧ hasA v' a = true ∧ y = .bool true) (warmAcct_ok hl hB M.A hrA hrJ fun hm' v' A' u' h' => ⟨hm', rfl, A'.V.dj, v', A', u', h', rfl⟩) ?_
    rintro y hm' hd' ⟨v', A', u', h', rfl⟩
    conv => whnf
    exact RetX.drop (h' := join hi hm') (Ext.j2 hE hd' (Ext.refl _)) (hk hm' v' (by rw [warmW_eq]; exact M.setV (Ext.refl hi) A') (u'.le (newA_le v a) (by omega) (by omega) (by omega)) h')
theorem warmAcct_b (he : Ext hi0 hi) (hd : Dj hi hm) (hl : a.length = 20) (hB : isB a) (M : MA hi0 hm eb m t w sn v) (hrA : v.aL.length < 2560) (hrJ : v.jL.length < 65536)
    (hk : ∀ hm' v', Dj hi hm' → MA hi0 hm' eb m t (warmW w a) sn v' → Up v v' 1 0 0 1 → hasA v' a = true → K (.bool true) (join hi hm')) : CallX Hval.prog 277 [.pointer (some ⟨eb, 0, none⟩), .agg (bcells a).toArray] (join hi hm) K :=
  CallX.bx he hd (Q := fun y hm' => ∃ v', MA hi0 hm' eb m t (warmW w a) sn v' ∧ Up v v' 1 0 0 1 ∧ hasA v' a = true ∧ y = .bool true)
    (warmAcct_okM hl hB M hrA hrJ fun hm' v' M' u h' => ⟨hm', rfl, M'.A.V.dj, v', M', u, h', rfl⟩) fun y hm' hd' ⟨v', M', u, h', e⟩ => e ▸ hk hm' v' hd' M' u h'
set_option maxRecDepth 100000 in
set_option maxHeartbeats 4000000 in
theorem taken_okM (hl : a.length = 20) (hB : isB a) (M : MA hi hm eb m t w sn v) (he : Ext (join hi hm) h) (hk : ∀ h', Ext h h' → K (.bool (decide (0 < (w.acct a).nonce ∨ 0 < (w.acct a).code.length))) h') : CallX Hval.prog 83 [.pointer (some ⟨eb, 0, none⟩), .agg (bcells a).toArray] h K := by
  have alen : (bcells a).length = (31, y31).snd.size := by rw [bcells_len, hl]; rfl
  refine CallX.of_xf T_ok Hval.func83 rfl (by kernel_rfl) (Nat.le_of_ble_eq_true rfl) ?_; conv => whnf
  refine BoxX.ext fun n1 hn1 en1 => ?_; conv => whnf
  have hb := M.blk (he.trans en1)
  refine DrawX.go T_ok hM Hval.func83 (tb := dr83) rfl (by kernel_rfl) ?_; conv => whnf
  refine LoadX.fn hb 0 rfl (by omega) ?_
  rw [mR_S]; conv => whnf
  refine LoadX.all (c := bcells a) (hput_same ..) alen ?_; conv => whnf
  refine nonce_ok hl hB M.A (he.trans en1) ?_; conv => whnf
  repeat (refine Ob.mk (by first | exact ldV_fn hb 0 rfl (by omega) | exact ldV_all (c := bcells a) (hput_same ..) (by rw [alen])) ?_; conv => whnf)
  refine CondX.decI (fun h1 => ?_) (fun h1 => ?_) <;> conv => whnf
  · repeat (first | ((with_reducible refine CondX.tt ?_); conv => whnf) | ((with_reducible refine CondX.ff ?_); conv => whnf) | ((with_reducible refine CondX.nT ?_); conv => whnf) | ((with_reducible refine CondX.nF ?_); conv => whnf) | (with_reducible refine CondX.bF ?_) | (with_reducible refine CondX.bT ?_))
    have := hk _ en1
    rw [decide_eq_true (.inl (by omega))] at this
    exact RetX.same this
  · repeat (first | ((with_reducible refine CondX.tt ?_); conv => whnf) | ((with_reducible refine CondX.ff ?_); conv => whnf) | ((with_reducible refine CondX.nT ?_); conv => whnf) | ((with_reducible refine CondX.nF ?_); conv => whnf) | (with_reducible refine CondX.bF ?_) | (with_reducible refine CondX.bT ?_))
    refine LoadX.fn hb 0 rfl (by omega) ?_
    rw [mR_S]; conv => whnf
    repeat (first | ((with_reducible refine CondX.tt ?_); conv => whnf) | ((with_reducible refine CondX.ff ?_); conv => whnf) | ((with_reducible refine CondX.nT ?_); conv => whnf) | ((with_reducible refine CondX.nF ?_); conv => whnf) | (with_reducible refine CondX.bF ?_) | (with_reducible refine CondX.bT ?_))
    refine LoadX.all (c := bcells a) (hput_same ..) alen ?_; conv => whnf
    repeat (first | ((with_reducible refine CondX.tt ?_); conv => whnf) | ((with_reducible refine CondX.ff ?_); conv => whnf) | ((with_reducible refine CondX.nT ?_); conv => whnf) | ((with_reducible refine CondX.nF ?_); conv => whnf) | (with_reducible refine CondX.bF ?_) | (with_reducible refine CondX.bT ?_))
    refine code_ok hl hB M.A (he.trans en1) fun s h' e1 hs => ?_; conv => whnf
    have hsl := hs.len
    repeat (refine Ob.mk (by first | exact ldV_fn (e1 _ _ hb) 0 rfl (by omega) | exact ldV_all (c := bcells a) (e1 _ _ (hput_same ..)) (by rw [alen])) ?_; conv => whnf)
    repeat (first | ((with_reducible refine CondX.tt ?_); conv => whnf) | ((with_reducible refine CondX.ff ?_); conv => whnf) | ((with_reducible refine CondX.nT ?_); conv => whnf) | ((with_reducible refine CondX.nF ?_); conv => whnf) | (with_reducible refine CondX.bF ?_) | (with_reducible refine CondX.bT ?_))
    refine RetX.same ?_
    have := hk _ (en1.trans e1)
    refine cast (congrArg (fun y => K (.bool y) h') ?_) this
    show decide _ = decide _
    exact decide_eq_decide.2 (by omega)
set_option maxRecDepth 100000 in
set_option maxHeartbeats 4000000 in
theorem sstore_okM {x y : Nat} (M : MA hi hm eb m t w sn v) (he : Ext (join hi hm) h) (h0 : argM m t 0 = x) (h1 : argM m t 1 = y)
    (hk : K (.tuple #[.int .u64 (sstoreC ((w.acct (m.fr t).self).slot x) y (!w.warmS (m.fr t).self x)), .int .u64 (sstoreP ((w.acct (m.fr t).self).slot x) y), .int .u64 0]) h) : CallX Hval.prog 344 [.pointer (some ⟨eb, 0, none⟩), .pointer (some ⟨eb, 1803 + t * 65, none⟩)] h K := by
  have F := M.f
  have h7 := M.t7
  have q0 := h0 ▸ (argM_W M 0).2
  have q1 := h1 ▸ (argM_W M 1).2
  obtain ⟨z, hz⟩ : ∃ z : Nat, (w.acct (m.fr t).self).slot x = z := ⟨_, (Int.toNat_of_nonneg (M.A.slotW _ _).1).symm⟩
  have hzW : (z : Int) < W := hz ▸ (M.A.slotW _ _).2
  rw [hz] at hk
  refine CallX.of_xf T_ok Hval.func344 rfl (by kernel_rfl) (Nat.le_of_ble_eq_true rfl) ?_; conv => whnf
  refine arg_okM (i := 0) M he (by decide) ?_
  rw [h0]; conv => whnf
  refine BoxX.ext fun n1 hn1 en1 => ?_; conv => whnf
  refine Ob.mk ⟨rfl, rfl⟩ ?_; conv => whnf
  refine StoreX.whole (c := (75, y75).snd.zero) (t := 75) (hput_same ..) rfl ?_
  rw [hput_hput]; conv => whnf
  have en1' : Ext h (hput h n1 ((wc x).toArray.toList, 75)) := Ext.new hn1.at
  have he1 := he.trans en1'
  have hb := M.blk he1
  refine DrawX.go T_ok hM Hval.func344 (tb := dr344) rfl (by kernel_rfl) ?_; conv => whnf
  refine LoadX.fn hb 0 rfl (by omega) ?_
  rw [mR_S]; conv => whnf
  have hself : (fnv (31, y31).snd.size fun i => eC (mC eb m) v (1803 + t * 65 + 9 + i)) = bcells (m.fr t).self := mR_self h7 F.self.1
  refine LoadX.fnA hb (1803 + t * 65 + 9) rfl (by show 1803 + t * 65 + 9 + 20 ≤ 27024; omega) ?_
  rw [hself]; conv => whnf
  refine LoadX.all (c := wc x) (hput_same ..) rfl ?_; conv => whnf
  refine peek_ok F.self.1 F.self.2 q0 M.A he1 ?_
  rw [hz]; conv => whnf
  refine ⟨fun n2 hn2 => ?_⟩
  conv => whnf
  refine ⟨fun n3 hn3 => ?_⟩
  conv => whnf
  have hn23 : n2 ≠ n3 := fun e => by rw [← e, hput_same] at hn3; cases hn3
  have en2 : Ext (hput h n1 ((wc x).toArray.toList, 75)) (hput (hput h n1 ((wc x).toArray.toList, 75)) n2 ((75, y75).snd.zero, 75)) := Ext.new hn2
  have en3 : Ext (hput (hput h n1 ((wc x).toArray.toList, 75)) n2 ((75, y75).snd.zero, 75)) (hput (hput (hput h n1 ((wc x).toArray.toList, 75)) n2 ((75, y75).snd.zero, 75)) n3 ((75, y75).snd.zero, 75)) := Ext.new hn3
  have hn3' : hput h n1 ((wc x).toArray.toList, 75) n3 = none := by rw [hput_ne hn23.symm] at hn3; exact hn3
  refine Ob.mk ⟨rfl, rfl⟩ ?_; conv => whnf
  refine StoreX.whole (c := (75, y75).snd.zero) (t := 75) (by rw [hput_ne hn23]; exact hput_same ..) rfl ?_; conv => whnf
  have hx2 : Ext (hput h n1 ((wc x).toArray.toList, 75)) (hput (hput (hput (hput h n1 ((wc x).toArray.toList, 75)) n2 ((75, y75).snd.zero, 75)) n3 ((75, y75).snd.zero, 75)) n2 ((wc z).toArray.toList, 75)) := Ext.keep (en2.trans en3) hn2
  refine Ob.mk ⟨rfl, rfl⟩ ?_; conv => whnf
  refine StoreX.whole (c := (75, y75).snd.zero) (t := 75) (by rw [hput_ne hn23.symm]; exact hput_same ..) rfl ?_; conv => whnf
  have hx3 := Ext.keep (x := ((wc 0).toArray.toList, 75)) hx2 hn3'
  have c2 : hput (hput (hput (hput (hput h n1 ((wc x).toArray.toList, 75)) n2 ((75, y75).snd.zero, 75)) n3 ((75, y75).snd.zero, 75)) n2 ((wc z).toArray.toList, 75)) n3 ((wc 0).toArray.toList, 75) n2 = some (wc z, 75) := by rw [hput_ne hn23]; exact hput_same ..
  have c3 : hput (hput (hput (hput (hput h n1 ((wc x).toArray.toList, 75)) n2 ((75, y75).snd.zero, 75)) n3 ((75, y75).snd.zero, 75)) n2 ((wc z).toArray.toList, 75)) n3 ((wc 0).toArray.toList, 75) n3 = some (wc 0, 75) := hput_same ..
  generalize hput (hput (hput (hput (hput h n1 ((wc x).toArray.toList, 75)) n2 ((75, y75).snd.zero, 75)) n3 ((75, y75).snd.zero, 75)) n2 ((wc z).toArray.toList, 75)) n3 ((wc 0).toArray.toList, 75) = H at hx3 c2 c3 ⊢
  have hdr := en1'.trans hx3
  refine DrawX.go T_ok hM Hval.func344 (tb := dr344) rfl (by kernel_rfl) ?_; conv => whnf
  refine LoadX.all c3 rfl ?_; conv => whnf
  refine LoadX.all c2 rfl ?_; conv => whnf
  refine arg_okM (i := 1) M (he.trans hdr) (by decide) ?_
  rw [h1]; conv => whnf
  repeat (refine Ob.mk (by first | exact ldV_all c3 rfl | exact ldV_all c2 rfl) ?_; conv => whnf)
  refine sstoreE_ok hzW q1 ?_; conv => whnf
  repeat (refine Ob.mk (by first | exact ldV_all c3 rfl | exact ldV_all c2 rfl) ?_; conv => whnf)
  exact RetX.drop hdr hk
set_option maxRecDepth 100000 in
set_option maxHeartbeats 4000000 in
theorem destroyCost_okM {x : Nat} (M : MA hi hm eb m t w sn v) (he : Ext (join hi hm) h) (h0 : argM m t 0 = x)
    (hk : K (.int .u64 ((if w.warmA (addrI x) = true then 0 else 2600) + (if emptyAA (w.acct (addrI x)) = true ∧ (w.acct (m.fr t).self).bal ≠ 0 then 25000 else 0))) h) : CallX Hval.prog 345 [.pointer (some ⟨eb, 0, none⟩), .pointer (some ⟨eb, 1803 + t * 65, none⟩)] h K := by
  have F := M.f
  have h7 := M.t7
  have q0 := h0 ▸ (argM_W M 0).2
  have hbal := (M.A.balW' (m.fr t).self).1
  have hal : (bcells (addrI x)).length = 20 := by rw [bcells_length, addrI_length]
  refine CallX.of_xf T_ok Hval.func345 rfl (by kernel_rfl) (Nat.le_of_ble_eq_true rfl) ?_; conv => whnf
  refine arg_okM (i := 0) M he (by decide) ?_
  rw [h0]; conv => whnf
  refine addrOf_okM q0 ?_; conv => whnf
  refine BoxX.ext fun n1 hn1 en1 => ?_; conv => whnf
  refine Ob.mk ⟨hal, ones_bcells _⟩ ?_; conv => whnf
  refine StoreX.whole (c := (31, y31).snd.zero) (t := 31) (hput_same ..) hal ?_
  rw [hput_hput]; conv => whnf
  have en1' : Ext h (hput h n1 ((bcells (addrI x)).toArray.toList, 31)) := Ext.new hn1.at
  have c1 : hput h n1 ((bcells (addrI x)).toArray.toList, 31) n1 = some (bcells (addrI x), 31) := hput_same ..
  generalize hput h n1 ((bcells (addrI x)).toArray.toList, 31) = H1 at *
  have he1 := he.trans en1'
  have hb := M.blk he1
  have alen : (bcells (addrI x)).length = (31, y31).snd.size := hal
  have hself : (fnv (31, y31).snd.size fun i => eC (mC eb m) v (1803 + t * 65 + 9 + i)) = bcells (m.fr t).self := mR_self h7 F.self.1
  have fin : ∀ y : Int, (if w.warmA (addrI x) = true then (0 : Int) else 2600) + (if emptyAA (w.acct (addrI x)) = true ∧ (w.acct (m.fr t).self).bal ≠ 0 then 25000 else 0) = y → K (.int .u64 y) h := fun y hy => by rw [← hy]; exact hk
  refine DrawX.go T_ok hM Hval.func345 (tb := dr345) rfl (by kernel_rfl) ?_; conv => whnf
  refine LoadX.fn hb 0 rfl (by omega) ?_
  rw [mR_S]; conv => whnf
  refine LoadX.all c1 alen ?_; conv => whnf
  refine isWarmAcct_ok (addrI_length _) (isB_addrI _) M.A he1 ?_; conv => whnf
  repeat (refine Ob.mk (by first | exact ldV_fn hb 0 rfl (by omega) | exact ldV_all c1 (by rw [alen])) ?_; conv => whnf)
  cases hw : w.warmA (addrI x) with
  | true =>
    rw [hw, if_pos rfl] at fin
    repeat (first | (refine CondX.tt ?_; conv => whnf) | (refine CondX.ff ?_; conv => whnf))
    refine DrawX.go T_ok hM Hval.func345 (tb := dr345) rfl (by kernel_rfl) ?_; conv => whnf
    refine LoadX.fn hb 0 rfl (by omega) ?_
    rw [mR_S]; conv => whnf
    refine LoadX.fnA hb (1803 + t * 65 + 9) rfl (by show 1803 + t * 65 + 9 + 20 ≤ 27024; omega) ?_
    rw [hself]; conv => whnf
    refine balance_ok F.self.1 F.self.2 M.A he1 ?_; conv => whnf
    refine ⟨fun n2 hn2 => ?_⟩
    conv => whnf
    refine Ob.mk ⟨rfl, rfl⟩ ?_; conv => whnf
    refine StoreX.whole (c := (75, y75).snd.zero) (t := 75) (hput_same ..) rfl ?_
    rw [hput_hput]; conv => whnf
    have en2 : Ext H1 (hput H1 n2 ((wc (w.acct (m.fr t).self).bal).toArray.toList, 75)) := Ext.new hn2
    have c2 : hput H1 n2 ((wc (w.acct (m.fr t).self).bal).toArray.toList, 75) n2 = some (wc (w.acct (m.fr t).self).bal, 75) := hput_same ..
    have hb2 := en2 _ _ hb
    have hdr := en1'.trans en2
    refine DrawX.go T_ok hM Hval.func345 (tb := dr345) rfl (by kernel_rfl) ?_; conv => whnf
    refine LoadX.all c2 rfl ?_; conv => whnf
    refine eIsZero' hbal.1 hbal.2 ?_; conv => whnf
    repeat (refine Ob.mk (by first | exact ldV_fn hb2 0 rfl (by omega) | exact ldV_all (en2 _ _ c1) (by rw [alen]) | exact ldV_all c2 rfl) ?_; conv => whnf)
    by_cases hz : (w.acct (m.fr t).self).bal = 0
    · rw [decide_eq_true hz]
      repeat (first | (refine CondX.tt ?_; conv => whnf) | (refine CondX.ff ?_; conv => whnf))
      exact RetX.drop hdr (fin 0 (by rw [if_neg (fun hc => hc.2 hz)]; rfl))
    · rw [decide_eq_false hz]
      repeat (first | (refine CondX.tt ?_; conv => whnf) | (refine CondX.ff ?_; conv => whnf))
      refine LoadX.fn hb2 0 rfl (by omega) ?_
      rw [mR_S]; conv => whnf
      repeat (first | (refine CondX.tt ?_; conv => whnf) | (refine CondX.ff ?_; conv => whnf))
      refine LoadX.all (en2 _ _ c1) alen ?_; conv => whnf
      repeat (first | (refine CondX.tt ?_; conv => whnf) | (refine CondX.ff ?_; conv => whnf))
      refine isEmpty_ok (addrI_length _) (isB_addrI _) M.A (he1.trans en2) ?_; conv => whnf
      repeat (refine Ob.mk (by first | exact ldV_fn hb2 0 rfl (by omega) | exact ldV_all (en2 _ _ c1) (by rw [alen]) | exact ldV_all c2 rfl) ?_; conv => whnf)
      cases hem : emptyAA (w.acct (addrI x)) with
      | true =>
        repeat (first | (refine CondX.tt ?_; conv => whnf) | (refine CondX.ff ?_; conv => whnf))
        exact RetX.drop hdr (fin _ (by rw [if_pos ⟨hem, hz⟩]; rfl))
      | false =>
        repeat (first | (refine CondX.tt ?_; conv => whnf) | (refine CondX.ff ?_; conv => whnf))
        exact RetX.drop hdr (fin 0 (by rw [if_neg (fun hc => by rw [hem] at hc; cases hc.1)]; rfl))
  | false =>
    rw [hw, if_neg (show ¬ (false = true) by decide)] at fin
    repeat (first | (refine CondX.tt ?_; conv => whnf) | (refine CondX.ff ?_; conv => whnf))
    refine DrawX.go T_ok hM Hval.func345 (tb := dr345) rfl (by kernel_rfl) ?_; conv => whnf
    refine LoadX.fn hb 0 rfl (by omega) ?_
    rw [mR_S]; conv => whnf
    refine LoadX.fnA hb (1803 + t * 65 + 9) rfl (by show 1803 + t * 65 + 9 + 20 ≤ 27024; omega) ?_
    rw [hself]; conv => whnf
    refine balance_ok F.self.1 F.self.2 M.A he1 ?_; conv => whnf
    refine ⟨fun n2 hn2 => ?_⟩
    conv => whnf
    refine Ob.mk ⟨rfl, rfl⟩ ?_; conv => whnf
    refine StoreX.whole (c := (75, y75).snd.zero) (t := 75) (hput_same ..) rfl ?_
    rw [hput_hput]; conv => whnf
    have en2 : Ext H1 (hput H1 n2 ((wc (w.acct (m.fr t).self).bal).toArray.toList, 75)) := Ext.new hn2
    have c2 : hput H1 n2 ((wc (w.acct (m.fr t).self).bal).toArray.toList, 75) n2 = some (wc (w.acct (m.fr t).self).bal, 75) := hput_same ..
    have hb2 := en2 _ _ hb
    have hdr := en1'.trans en2
    refine DrawX.go T_ok hM Hval.func345 (tb := dr345) rfl (by kernel_rfl) ?_; conv => whnf
    refine LoadX.all c2 rfl ?_; conv => whnf
    refine eIsZero' hbal.1 hbal.2 ?_; conv => whnf
    repeat (refine Ob.mk (by first | exact ldV_fn hb2 0 rfl (by omega) | exact ldV_all (en2 _ _ c1) (by rw [alen]) | exact ldV_all c2 rfl) ?_; conv => whnf)
    by_cases hz : (w.acct (m.fr t).self).bal = 0
    · rw [decide_eq_true hz]
      repeat (first | (refine CondX.tt ?_; conv => whnf) | (refine CondX.ff ?_; conv => whnf))
      exact RetX.drop hdr (fin 2600 (by rw [if_neg (fun hc => hc.2 hz)]; rfl))
    · rw [decide_eq_false hz]
      repeat (first | (refine CondX.tt ?_; conv => whnf) | (refine CondX.ff ?_; conv => whnf))
      refine LoadX.fn hb2 0 rfl (by omega) ?_
      rw [mR_S]; conv => whnf
      repeat (first | (refine CondX.tt ?_; conv => whnf) | (refine CondX.ff ?_; conv => whnf))
      refine LoadX.all (en2 _ _ c1) alen ?_; conv => whnf
      repeat (first | (refine CondX.tt ?_; conv => whnf) | (refine CondX.ff ?_; conv => whnf))
      refine isEmpty_ok (addrI_length _) (isB_addrI _) M.A (he1.trans en2) ?_; conv => whnf
      repeat (refine Ob.mk (by first | exact ldV_fn hb2 0 rfl (by omega) | exact ldV_all (en2 _ _ c1) (by rw [alen]) | exact ldV_all c2 rfl) ?_; conv => whnf)
      cases hem : emptyAA (w.acct (addrI x)) with
      | true =>
        repeat (first | (refine CondX.tt ?_; conv => whnf) | (refine CondX.ff ?_; conv => whnf))
        exact RetX.drop hdr (fin _ (by rw [if_pos ⟨hem, hz⟩]; rfl))
      | false =>
        repeat (first | (refine CondX.tt ?_; conv => whnf) | (refine CondX.ff ?_; conv => whnf))
        exact RetX.drop hdr (fin 2600 (by rw [if_neg (fun hc => by rw [hem] at hc; cases hc.1)]; rfl))
end
end Go.Proofs.YgvalwGreat.X
