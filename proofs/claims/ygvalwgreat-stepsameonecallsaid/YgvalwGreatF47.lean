import Derived.Test.YgvalwGreatF46
set_option linter.unusedVariables false
set_option linter.unusedSimpArgs false
namespace Go.Proofs.YgvalwGreat.X
open Go

/-- What touching an account costs. -/
def accI (wa : List (List Int)) (a : List Int) : Int := if a ∈ wa then 100 else 2600
def destroyI (w : YW) (self : List Int) (a0 : Int) : Int :=
  5000 + (if addrI a0 ∈ w.wa then 0 else 2600) + (if emptyA (getA w.acc (addrI a0)) = true ∧ (getA w.acc self).bal ≠ 0 then 25000 else 0)
def enterI (w : YW) (o : Int) (A : Nat → Int) : Int :=
  if o = 240 then 32000 + 2 * ((A 2 + 31) / 32) else if o = 245 then 32000 + 8 * ((A 2 + 31) / 32)
  else accI w.wa (addrI (A 1)) + (if (o = 241 ∨ o = 242) ∧ A 2 ≠ 0 then 9000 + (if o = 241 ∧ emptyA (getA w.acc (addrI (A 1))) = true then 25000 else 0) else 0)

section
variable {hi hm : Hp} {K : Value → Hp → Prop}


set_option maxRecDepth 100000 in
set_option maxHeartbeats 4000000 in
theorem destroyCost_ok (hd : Dj hi hm) {c b : Nat} {cells : List Value} {tc : TypeId} {w : YW} {pre post : List Value} {f : YF} {t : TypeId} (hc : hm c = some (cells, tc)) (hW : ∀ j, j < 8 → cells[0 + j]? = w.cells[j]?) (hw : w.ok hi (join hi hm)) (hwr : w.room)
    (hb : hm b = some (pre ++ (fCells f ++ post), t)) (hok : f.ok hi)
    (hk : ∀ s1 hi', Ext hi hi' → Dj hi' hm → NtS hi' s1 (destroyI w f.self (argI f.st 0)) → K (sl s1) (join hi' hm)) :
    CallX Hval.prog 308 [.pointer (some ⟨c, 0, none⟩), .pointer (some ⟨b, pre.length, none⟩)] (join hi hm) K := by
  refine CallX.of_xf T_ok Hval.func308 rfl (by kernel_rfl) (Nat.le_of_ble_eq_true rfl) ?_; conv => whnf
  have hbg := big_lt
  have hsr : f.stS.2.1 < 2 ^ 30 := by have := hok.n; have := hok.stR; omega
  have aok : ∀ i, NtS hi (argP f.st i).1 (argI f.st i) := fun i => argP_ok hok.stE i
  refine CallX.fj hd (num_ok (by omega) (by omega) fun b1 n1 c1 hi1 e1 g1 hd1 => ?_); conv => whnf
  have hst1 := (hok.st.ext e1).ext (Ext.jl _ hm)
  refine arg_ok (join_hm hd1 hb) hst1 hsr 0 (by decide) ?_; conv => whnf
  refine addrOf_ok (((aok 0).ext e1).ext (Ext.jl _ hm)) ?_; conv => whnf
  have tlen := addrI_length (argI f.st 0)
  refine BoxX.j hd1 fun m6 hin6 hmn6 hd6 he6 => ?_; conv => whnf
  refine Ob.mk ⟨by rw [List.size_toArray, bcells_length, tlen]; rfl, ones_bcells _⟩ ?_; conv => whnf
  refine StoreX.j (by rw [List.toList_toArray, bcells_length, tlen]; decide) ?_; conv => whnf
  rw [setSeg_all (by rw [List.toList_toArray, bcells_length, tlen]; rfl)]
  have hd7 : Dj (hput hi1 m6 (bcells (addrI (argI f.st 0)), 31)) hm := hd6.hp
  have e7 : Ext hi1 (hput hi1 m6 (bcells (addrI (argI f.st 0)), 31)) := Ext.new hin6
  have h6 : hput hi1 m6 (bcells (addrI (argI f.st 0)), 31) m6 = some (bcells (addrI (argI f.st 0)), 31) := hput_same ..
  obtain ⟨T, hT⟩ : ∃ T, T = addrI (argI f.st 0) := ⟨_, rfl⟩
  rw [← hT] at tlen
  have eA := e1.trans e7
  have gA := g1.ext e7
  clear hd6 he6 hd1 hst1
  have hdest : destroyI w f.self (argI f.st 0) = 5000 + (if T ∈ w.wa then 0 else 2600) + (if emptyA (getA w.acc T) = true ∧ (getA w.acc f.self).bal ≠ 0 then 25000 else 0) := by rw [hT]; rfl
  rw [hdest] at hk
  have hTe : ∀ {P' : List Int → Prop}, P' T → P' (addrI (argI f.st 0)) := fun h => hT ▸ h
  rw [← hT] at h6 hd7 e7 eA gA ⊢
  generalize hput hi1 m6 (bcells T, 31) = hiB at *
  have hEB := Ext.jl hiB hm
  have hwB := hw.up eA
  refine DrawX.go T_ok hM Hval.func308 (tb := dr308) rfl (by kernel_rfl) ?_; conv => whnf
  refine LoadX.arr (l := T) (t := 31) (join_l h6) tlen ?_; conv => whnf
  refine isWarm_ok (join_hm hd7 hc) (hW 1 (by decide)) (hwB.wa.ext hEB) tlen (by have := hwr.wa; omega) ?_; conv => whnf
  refine CondX.notI (fun hcold => ?_) (fun hcold => ?_) <;> conv => whnf
  · have hcold := of_decide_eq_false hcold
    refine CallX.fj hd7 (num_ok (by omega) (by omega) fun b2 n2 c2 hi2 e2 g2 hd2 => ?_); conv => whnf
    refine CallX.fj hd2 (addN (gA.ext e2) g2 (by omega) fun b3 n3 c3 hi3 e3 g3 hd3 => ?_); conv => whnf
    have eX := (eA.trans e2).trans e3
    have h6X := e3 _ _ (e2 _ _ h6)
    have g3' : NtS hi3 (b3, n3, c3) (5000 + 2600) := g3
    refine DrawX.go T_ok hM Hval.func308 (tb := dr308) rfl (by kernel_rfl) ?_; conv => whnf
    refine LoadX.arr (l := T) (t := 31) (join_l h6X) tlen ?_; conv => whnf
    refine account_ok (xs := w.acc) (join_hm hd3 hc) (hW 0 (by decide)) (((hw.up eX).acc.arr).ext (Ext.jl _ _)) (fun x hx => (hw.acc.each x hx).addr) tlen (by have := hwr.acc; omega) ?_; conv => whnf
    have hx := getA_ok (hw.up eX).acc.each tlen
    generalize hxe : getA w.acc T = x at *
    have xlen := acCells_len hx.addr
    have xone := acCells_one x
    refine BoxW.jm hd3 fun m9 hin9 hmn9 hd9 => ?_; conv => whnf
    refine Ob.mk ⟨by rw [List.size_toArray, xlen]; rfl, xone⟩ ?_; conv => whnf
    refine StoreX.top hd9 (acCells x) (setSeg_all (by rw [List.toList_toArray, xlen]; rfl)) (by rw [List.toList_toArray, xlen]; decide) fun hd10 => ?_; conv => whnf
    have hE10 := Ext.jl hi3 (hput hm m9 (acCells x, 118))
    have hb10 : hput hm m9 (acCells x, 118) b = some (pre ++ (fCells f ++ post), t) := hput_old hb hmn9
    have hc10 : hput hm m9 (acCells x, 118) c = some (cells, tc) := hput_old hc hmn9
    have hdrop : ∀ {h'}, Dj h' (hput hm m9 (acCells x, 118)) → Ext (join h' hm) (join h' (hput hm m9 (acCells x, 118))) := fun hdd => Ext.jmono hdd (Ext.new hmn9)
    have hdm : ∀ {h'}, Dj h' (hput hm m9 (acCells x, 118)) → Dj h' hm := fun hdd => hdd.mono (Ext.new hmn9)
    refine DrawX.go T_ok hM Hval.func308 (tb := dr308) rfl (by kernel_rfl) ?_; conv => whnf
    refine empty_ok (join_hm hd10 (hput_same ..)) (hx.ext hE10) ?_; conv => whnf
    have hemp : decide (x.nonce = 0 ∧ x.bal = 0 ∧ x.code = []) = emptyA x := rfl
    rw [hemp]
    have hself := ldV_self (join_hm hd10 hb10) hok.self hok.caller (o := pre.length + 12) rfl
    cases hem : emptyA x with
    | true =>
      repeat (first | (refine CondX.tt ?_; conv => whnf) | (refine CondX.ff ?_; conv => whnf))
      refine LoadX.of _ hself ?_; conv => whnf
      repeat (first | (refine CondX.tt ?_; conv => whnf) | (refine CondX.ff ?_; conv => whnf))
      refine account_ok (xs := w.acc) (join_hm hd10 hc10) (hW 0 (by decide)) (((hw.up eX).acc.arr).ext hE10) (fun x hx => (hw.acc.each x hx).addr) hok.self (by have := hwr.acc; omega) ?_; conv => whnf
      have hy := getA_ok (hw.up eX).acc.each hok.self
      generalize hye : getA w.acc f.self = y at *
      repeat (first | (refine CondX.tt ?_; conv => whnf) | (refine CondX.ff ?_; conv => whnf))
      erw [acCells_get hy.addr 1]; conv => whnf
      repeat (first | (refine CondX.tt ?_; conv => whnf) | (refine CondX.ff ?_; conv => whnf))
      refine isZero_ok (hy.bal.ext hE10) ?_; conv => whnf
      repeat (first | (refine CondX.tt ?_; conv => whnf) | (refine CondX.ff ?_; conv => whnf))
      refine CondX.notI (fun hz => ?_) (fun hz => ?_) <;> conv => whnf
      · have hz := of_decide_eq_false hz
        refine CallX.fj hd10 (num_ok (by omega) (by omega) fun b2 n2 c2 hi2 e2 g2 hd2 => ?_); conv => whnf
        refine CallX.fj hd2 (addN (g3'.ext e2) g2 (by omega) fun b3 n3 c3 hi3 e3 g3 hd3 => ?_); conv => whnf
        refine RetX.drop (hdrop hd3) (hk (b3, n3, c3) hi3 ((eX.trans e2).trans e3) (hdm hd3) ?_)
        simpa [hcold, hem, hz] using g3
      · have hz := of_decide_eq_true hz
        refine RetX.drop (hdrop hd10) (hk (b3, n3, c3) hi3 eX (hdm hd10) ?_)
        simpa [hcold, hem, hz] using g3'
    | false =>
      repeat (first | (refine CondX.tt ?_; conv => whnf) | (refine CondX.ff ?_; conv => whnf))
      refine RetX.drop (hdrop hd10) (hk (b3, n3, c3) hi3 eX (hdm hd10) ?_)
      simpa [hcold, hem] using g3'
  · have hcold := of_decide_eq_true hcold
    have gA' : NtS hiB (b1, n1, c1) 5000 := gA
    refine DrawX.go T_ok hM Hval.func308 (tb := dr308) rfl (by kernel_rfl) ?_; conv => whnf
    refine LoadX.arr (l := T) (t := 31) (join_l h6) tlen ?_; conv => whnf
    refine account_ok (xs := w.acc) (join_hm hd7 hc) (hW 0 (by decide)) (((hw.up eA).acc.arr).ext (Ext.jl _ _)) (fun x hx => (hw.acc.each x hx).addr) tlen (by have := hwr.acc; omega) ?_; conv => whnf
    have hx := getA_ok (hw.up eA).acc.each tlen
    generalize hxe : getA w.acc T = x at *
    have xlen := acCells_len hx.addr
    have xone := acCells_one x
    refine BoxW.jm hd7 fun m9 hin9 hmn9 hd9 => ?_; conv => whnf
    refine Ob.mk ⟨by rw [List.size_toArray, xlen]; rfl, xone⟩ ?_; conv => whnf
    refine StoreX.top hd9 (acCells x) (setSeg_all (by rw [List.toList_toArray, xlen]; rfl)) (by rw [List.toList_toArray, xlen]; decide) fun hd10 => ?_; conv => whnf
    have hE10 := Ext.jl hiB (hput hm m9 (acCells x, 118))
    have hb10 : hput hm m9 (acCells x, 118) b = some (pre ++ (fCells f ++ post), t) := hput_old hb hmn9
    have hc10 : hput hm m9 (acCells x, 118) c = some (cells, tc) := hput_old hc hmn9
    have hdrop : ∀ {h'}, Dj h' (hput hm m9 (acCells x, 118)) → Ext (join h' hm) (join h' (hput hm m9 (acCells x, 118))) := fun hdd => Ext.jmono hdd (Ext.new hmn9)
    have hdm : ∀ {h'}, Dj h' (hput hm m9 (acCells x, 118)) → Dj h' hm := fun hdd => hdd.mono (Ext.new hmn9)
    refine DrawX.go T_ok hM Hval.func308 (tb := dr308) rfl (by kernel_rfl) ?_; conv => whnf
    refine empty_ok (join_hm hd10 (hput_same ..)) (hx.ext hE10) ?_; conv => whnf
    have hemp : decide (x.nonce = 0 ∧ x.bal = 0 ∧ x.code = []) = emptyA x := rfl
    rw [hemp]
    have hself := ldV_self (join_hm hd10 hb10) hok.self hok.caller (o := pre.length + 12) rfl
    cases hem : emptyA x with
    | true =>
      repeat (first | (refine CondX.tt ?_; conv => whnf) | (refine CondX.ff ?_; conv => whnf))
      refine LoadX.of _ hself ?_; conv => whnf
      repeat (first | (refine CondX.tt ?_; conv => whnf) | (refine CondX.ff ?_; conv => whnf))
      refine account_ok (xs := w.acc) (join_hm hd10 hc10) (hW 0 (by decide)) (((hw.up eA).acc.arr).ext hE10) (fun x hx => (hw.acc.each x hx).addr) hok.self (by have := hwr.acc; omega) ?_; conv => whnf
      have hy := getA_ok (hw.up eA).acc.each hok.self
      generalize hye : getA w.acc f.self = y at *
      repeat (first | (refine CondX.tt ?_; conv => whnf) | (refine CondX.ff ?_; conv => whnf))
      erw [acCells_get hy.addr 1]; conv => whnf
      repeat (first | (refine CondX.tt ?_; conv => whnf) | (refine CondX.ff ?_; conv => whnf))
      refine isZero_ok (hy.bal.ext hE10) ?_; conv => whnf
      repeat (first | (refine CondX.tt ?_; conv => whnf) | (refine CondX.ff ?_; conv => whnf))
      refine CondX.notI (fun hz => ?_) (fun hz => ?_) <;> conv => whnf
      · have hz := of_decide_eq_false hz
        refine CallX.fj hd10 (num_ok (by omega) (by omega) fun b2 n2 c2 hi2 e2 g2 hd2 => ?_); conv => whnf
        refine CallX.fj hd2 (addN (gA'.ext e2) g2 (by omega) fun b3 n3 c3 hi3 e3 g3 hd3 => ?_); conv => whnf
        refine RetX.drop (hdrop hd3) (hk (b3, n3, c3) hi3 ((eA.trans e2).trans e3) (hdm hd3) ?_)
        simpa [hcold, hem, hz] using g3
      · have hz := of_decide_eq_true hz
        refine RetX.drop (hdrop hd10) (hk (b1, n1, c1) hiB eA (hdm hd10) ?_)
        simpa [hcold, hem, hz] using gA'
    | false =>
      repeat (first | (refine CondX.tt ?_; conv => whnf) | (refine CondX.ff ?_; conv => whnf))
      refine RetX.drop (hdrop hd10) (hk (b1, n1, c1) hiB eA (hdm hd10) ?_)
      simpa [hcold, hem] using gA'

set_option maxRecDepth 100000 in
set_option maxHeartbeats 4000000 in
theorem accessJ_ok (hd : Dj hi hm) {c o : Nat} {cells : List Value} {t : TypeId} {s : Sl} {az : List (List Int)} {a : List Int} (hc : hm c = some (cells, t)) (ho : cells[o + 1]? = some (sl s)) (hA : Adrs hi s az) (ha : a.length = 20) (hr : s.2.1 < 2 ^ 40)
    (hk : ∀ s1 hi', Ext hi hi' → Dj hi' hm → NtS hi' s1 (accI az a) → K (sl s1) (join hi' hm)) :
    CallX Hval.prog 306 [.pointer (some ⟨c, o, none⟩), .agg (bcells a).toArray] (join hi hm) K := by
  refine CallX.of_xf T_ok Hval.func306 rfl (by kernel_rfl) (Nat.le_of_ble_eq_true rfl) ?_; conv => whnf
  refine BoxX.j hd fun m hin hmn hd1 he1 => ?_; conv => whnf
  refine LoadX.arr (l := a) (t := 31) (join_l (hput_same ..)) ha ?_; conv => whnf
  refine isWarm_ok (join_hm hd1 hc) ho ((hA.ext he1).ext (Ext.jl _ _)) ha hr ?_; conv => whnf
  refine CondX.decI (fun hq => ?_) (fun hq => ?_) <;> conv => whnf
  · refine CallX.fj hd1 (num_ok (by omega) (by omega) fun b n c h2 he2 hn2 hd2 => ?_); conv => whnf
    refine RetX.same (hk (b, n, c) _ (he1.trans he2) hd2 ?_)
    rw [accI, if_pos hq]; exact hn2
  · refine CallX.fj hd1 (num_ok (by omega) (by omega) fun b n c h2 he2 hn2 hd2 => ?_); conv => whnf
    refine RetX.same (hk (b, n, c) _ (he1.trans he2) hd2 ?_)
    rw [accI, if_neg hq]; exact hn2


set_option maxRecDepth 100000 in
set_option maxHeartbeats 4000000 in
theorem enterCost_ok (hd : Dj hi hm) {c b : Nat} {cells : List Value} {tc : TypeId} {w : YW} {pre post : List Value} {f : YF} {t : TypeId} {o : Int} (hc : hm c = some (cells, tc)) (hW : ∀ j, j < 8 → cells[0 + j]? = w.cells[j]?) (hw : w.ok hi (join hi hm)) (hwr : w.room)
    (hb : hm b = some (pre ++ (fCells f ++ post), t)) (hok : f.ok hi) (hsW : stW f.st)
    (hk : ∀ s1 hi', Ext hi hi' → Dj hi' hm → NtS hi' s1 (enterI w o (argI f.st)) → K (sl s1) (join hi' hm)) :
    CallX Hval.prog 309 [.pointer (some ⟨c, 0, none⟩), .pointer (some ⟨b, pre.length, none⟩), .int .u8 o] (join hi hm) K := by
  refine CallX.of_xf T_ok Hval.func309 rfl (by kernel_rfl) (Nat.le_of_ble_eq_true rfl) ?_; conv => whnf
  have hbg := big_lt
  have hWb : W * 100 < big := by rw [W_val, big_val]; decide
  have hW32 : 1000 < W := by rw [W_val]; decide
  have hsr : f.stS.2.1 < 2 ^ 30 := by have := hok.n; have := hok.stR; omega
  have aok : ∀ i, NtS hi (argP f.st i).1 (argI f.st i) := fun i => argP_ok hok.stE i
  have aW := argI_lt hsW
  by_cases h240 : o = 240
  · subst h240
    repeat (first | (refine CondX.tt ?_; conv => whnf) | (refine CondX.ff ?_; conv => whnf))
    refine CallX.fj hd (num_ok (by omega) (by omega) fun b1 n1 c1 hi1 e1 g1 hd1 => ?_); conv => whnf
    refine CallX.fj hd1 (num_ok (by omega) (by omega) fun b2 n2 c2 hi2 e2 g2 hd2 => ?_); conv => whnf
    have hst2 := ((hok.st.ext e1).ext e2).ext (Ext.jl _ hm)
    refine arg_ok (join_hm hd2 hb) hst2 hsr 2 (by decide) ?_; conv => whnf
    refine CallX.fj hd2 (words_okN (((aok 2).ext e1).ext e2) (by have := aW 2; omega) fun b3 n3 c3 hi3 e3 g3 hd3 => ?_); conv => whnf
    have a20 := (aok 2).val
    refine CallX.fj hd3 (mulN (g2.ext e3) g3 (by omega) (by have := aW 2; omega) fun b4 n4 c4 hi4 e4 g4 hd4 => ?_); conv => whnf
    refine CallX.fj hd4 (addN (((g1.ext e2).ext e3).ext e4) g4 (by have := aW 2; omega) fun b5 n5 c5 hi5 e5 g5 hd5 => ?_); conv => whnf
    refine RetX.same (hk (b5, n5, c5) hi5 ((((e1.trans e2).trans e3).trans e4).trans e5) hd5 ?_)
    exact g5
  by_cases h245 : o = 245
  · subst h245
    repeat (first | (refine CondX.tt ?_; conv => whnf) | (refine CondX.ff ?_; conv => whnf))
    refine CallX.fj hd (num_ok (by omega) (by omega) fun b1 n1 c1 hi1 e1 g1 hd1 => ?_); conv => whnf
    refine CallX.fj hd1 (num_ok (by omega) (by omega) fun b2 n2 c2 hi2 e2 g2 hd2 => ?_); conv => whnf
    have hst2 := ((hok.st.ext e1).ext e2).ext (Ext.jl _ hm)
    refine arg_ok (join_hm hd2 hb) hst2 hsr 2 (by decide) ?_; conv => whnf
    refine CallX.fj hd2 (words_okN (((aok 2).ext e1).ext e2) (by have := aW 2; omega) fun b3 n3 c3 hi3 e3 g3 hd3 => ?_); conv => whnf
    have a20 := (aok 2).val
    refine CallX.fj hd3 (mulN (g2.ext e3) g3 (by omega) (by have := aW 2; omega) fun b4 n4 c4 hi4 e4 g4 hd4 => ?_); conv => whnf
    refine CallX.fj hd4 (addN (((g1.ext e2).ext e3).ext e4) g4 (by have := aW 2; omega) fun b5 n5 c5 hi5 e5 g5 hd5 => ?_); conv => whnf
    refine RetX.same (hk (b5, n5, c5) hi5 ((((e1.trans e2).trans e3).trans e4).trans e5) hd5 ?_)
    exact g5
  refine CondX.eqF h240 ?_; conv => whnf
  refine CondX.eqF h245 ?_; conv => whnf
  have hst := hok.st.ext (Ext.jl _ hm)
  refine arg_ok (join_hm hd hb) hst hsr 1 (by decide) ?_; conv => whnf
  refine addrOf_ok ((aok 1).ext (Ext.jl _ hm)) ?_; conv => whnf
  have tlen := addrI_length (argI f.st 1)
  refine BoxX.j hd fun m6 hin6 hmn6 hd6 he6 => ?_; conv => whnf
  refine Ob.mk ⟨by rw [List.size_toArray, bcells_length, tlen]; rfl, ones_bcells _⟩ ?_; conv => whnf
  refine StoreX.j (by rw [List.toList_toArray, bcells_length, tlen]; decide) ?_; conv => whnf
  rw [setSeg_all (by rw [List.toList_toArray, bcells_length, tlen]; rfl)]
  have hd7 : Dj (hput hi m6 (bcells (addrI (argI f.st 1)), 31)) hm := hd6.hp
  have e7 : Ext hi (hput hi m6 (bcells (addrI (argI f.st 1)), 31)) := Ext.new hin6
  have h6 : hput hi m6 (bcells (addrI (argI f.st 1)), 31) m6 = some (bcells (addrI (argI f.st 1)), 31) := hput_same ..
  clear hd6 he6
  have hent : enterI w o (argI f.st) = accI w.wa (addrI (argI f.st 1)) + (if (o = 241 ∨ o = 242) ∧ argI f.st 2 ≠ 0 then 9000 + (if o = 241 ∧ emptyA (getA w.acc (addrI (argI f.st 1))) = true then 25000 else 0) else 0) := by
    unfold enterI; rw [if_neg h240, if_neg h245]
  rw [hent] at hk
  generalize addrI (argI f.st 1) = T at *
  generalize hput hi m6 (bcells T, 31) = hiB at *
  have hwB := hw.up e7
  refine DrawX.go T_ok hM Hval.func309 (tb := dr309) rfl (by kernel_rfl) ?_; conv => whnf
  refine LoadX.arr (l := T) (t := 31) (join_l h6) tlen ?_; conv => whnf
  refine accessJ_ok hd7 hc (hW 1 (by decide)) hwB.wa tlen (by have := hwr.wa; omega) fun s1 hi1 e1 hd1 g1 => ?_; conv => whnf
  have hac : 0 ≤ accI w.wa T ∧ accI w.wa T ≤ 2600 := by unfold accI; split <;> omega
  have eA := e7.trans e1
  have hst1 := (hok.st.ext eA).ext (Ext.jl _ hm)
  have fin0 : ¬ ((o = 241 ∨ o = 242) ∧ argI f.st 2 ≠ 0) → RetX K (join hi1 hm) (sl s1) := fun hn => by
    refine RetX.same (hk s1 hi1 eA hd1 ?_)
    rw [if_neg hn]; simpa using g1
  by_cases hcall : o = 241 ∨ o = 242
  · rcases hcall with hcall | hcall
    · subst hcall
      repeat (first | (refine CondX.tt ?_; conv => whnf) | (refine CondX.ff ?_; conv => whnf))
      refine arg_ok (join_hm hd1 hb) hst1 hsr 2 (by decide) ?_; conv => whnf
      repeat (first | (refine CondX.tt ?_; conv => whnf) | (refine CondX.ff ?_; conv => whnf))
      refine isZero_ok (((aok 2).ext eA).ext (Ext.jl _ hm)) ?_; conv => whnf
      repeat (first | (refine CondX.tt ?_; conv => whnf) | (refine CondX.ff ?_; conv => whnf))
      refine CondX.notI (fun hz => ?_) (fun hz => ?_) <;> conv => whnf
      · have hz : argI f.st 2 ≠ 0 := of_decide_eq_false hz
        refine CallX.fj hd1 (num_ok (by omega) (by omega) fun b2 n2 c2 hi2 e2 g2 hd2 => ?_); conv => whnf
        refine CallX.fj hd2 (addN (g1.ext e2) g2 (by omega) fun b3 n3 c3 hi3 e3 g3 hd3 => ?_); conv => whnf
        have eB := (eA.trans e2).trans e3
        have h6B := e3 _ _ (e2 _ _ (e1 _ _ h6))
        refine DrawX.go T_ok hM Hval.func309 (tb := dr309) rfl (by kernel_rfl) ?_; conv => whnf
        refine LoadX.arr (l := T) (t := 31) (join_l h6B) tlen ?_; conv => whnf
        refine account_ok (xs := w.acc) (join_hm hd3 hc) (hW 0 (by decide)) (((hw.up eB).acc.arr).ext (Ext.jl _ _)) (fun x hx => (hw.acc.each x hx).addr) tlen (by have := hwr.acc; omega) ?_; conv => whnf
        have hx := getA_ok (hw.up eB).acc.each tlen
        generalize hxe : getA w.acc T = x at *
        have xlen := acCells_len hx.addr
        have xone := acCells_one x
        refine BoxW.jm hd3 fun m9 hin9 hmn9 hd9 => ?_; conv => whnf
        refine Ob.mk ⟨by rw [List.size_toArray, xlen]; rfl, xone⟩ ?_; conv => whnf
        refine StoreX.top hd9 (acCells x) (setSeg_all (by rw [List.toList_toArray, xlen]; rfl)) (by rw [List.toList_toArray, xlen]; decide) fun hd10 => ?_; conv => whnf
        have hE10 := Ext.jl hi3 (hput hm m9 (acCells x, 118))
        have hdrop : ∀ {h'}, Dj h' (hput hm m9 (acCells x, 118)) → Ext (join h' hm) (join h' (hput hm m9 (acCells x, 118))) := fun hdd => Ext.jmono hdd (Ext.new hmn9)
        have hdm : ∀ {h'}, Dj h' (hput hm m9 (acCells x, 118)) → Dj h' hm := fun hdd => hdd.mono (Ext.new hmn9)
        repeat (first | (refine CondX.tt ?_; conv => whnf) | (refine CondX.ff ?_; conv => whnf))
        refine empty_ok (join_hm hd10 (hput_same ..)) (hx.ext hE10) ?_; conv => whnf
        have hemp : decide (x.nonce = 0 ∧ x.bal = 0 ∧ x.code = []) = emptyA x := rfl
        rw [hemp]
        repeat (first | (refine CondX.tt ?_; conv => whnf) | (refine CondX.ff ?_; conv => whnf))
        cases hem : emptyA x with
        | true =>
          repeat (first | (refine CondX.tt ?_; conv => whnf) | (refine CondX.ff ?_; conv => whnf))
          refine CallX.fj hd10 (num_ok (by omega) (by omega) fun b4 n4 c4 hi4 e4 g4 hd4 => ?_); conv => whnf
          refine CallX.fj hd4 (addN (g3.ext e4) g4 (by omega) fun b5 n5 c5 hi5 e5 g5 hd5 => ?_); conv => whnf
          refine RetX.drop (hdrop hd5) (hk (b5, n5, c5) hi5 ((eB.trans e4).trans e5) (hdm hd5) ?_)
          have e : accI w.wa T + 9000 + 25000 = accI w.wa T + (9000 + 25000) := by omega
          rw [e] at g5
          simpa [hz, hem] using g5
        | false =>
          repeat (first | (refine CondX.tt ?_; conv => whnf) | (refine CondX.ff ?_; conv => whnf))
          refine RetX.drop (hdrop hd10) (hk (b3, n3, c3) hi3 eB (hdm hd10) ?_)
          simpa [hz, hem] using g3
      · have hz : argI f.st 2 = 0 := of_decide_eq_true hz
        exact fin0 (fun h => h.2 hz)
    · subst hcall
      repeat (first | (refine CondX.tt ?_; conv => whnf) | (refine CondX.ff ?_; conv => whnf))
      refine arg_ok (join_hm hd1 hb) hst1 hsr 2 (by decide) ?_; conv => whnf
      repeat (first | (refine CondX.tt ?_; conv => whnf) | (refine CondX.ff ?_; conv => whnf))
      refine isZero_ok (((aok 2).ext eA).ext (Ext.jl _ hm)) ?_; conv => whnf
      repeat (first | (refine CondX.tt ?_; conv => whnf) | (refine CondX.ff ?_; conv => whnf))
      refine CondX.notI (fun hz => ?_) (fun hz => ?_) <;> conv => whnf
      · have hz : argI f.st 2 ≠ 0 := of_decide_eq_false hz
        refine CallX.fj hd1 (num_ok (by omega) (by omega) fun b2 n2 c2 hi2 e2 g2 hd2 => ?_); conv => whnf
        refine CallX.fj hd2 (addN (g1.ext e2) g2 (by omega) fun b3 n3 c3 hi3 e3 g3 hd3 => ?_); conv => whnf
        have eB := (eA.trans e2).trans e3
        have h6B := e3 _ _ (e2 _ _ (e1 _ _ h6))
        refine DrawX.go T_ok hM Hval.func309 (tb := dr309) rfl (by kernel_rfl) ?_; conv => whnf
        refine LoadX.arr (l := T) (t := 31) (join_l h6B) tlen ?_; conv => whnf
        refine account_ok (xs := w.acc) (join_hm hd3 hc) (hW 0 (by decide)) (((hw.up eB).acc.arr).ext (Ext.jl _ _)) (fun x hx => (hw.acc.each x hx).addr) tlen (by have := hwr.acc; omega) ?_; conv => whnf
        have hx := getA_ok (hw.up eB).acc.each tlen
        generalize hxe : getA w.acc T = x at *
        have xlen := acCells_len hx.addr
        have xone := acCells_one x
        refine BoxW.jm hd3 fun m9 hin9 hmn9 hd9 => ?_; conv => whnf
        refine Ob.mk ⟨by rw [List.size_toArray, xlen]; rfl, xone⟩ ?_; conv => whnf
        refine StoreX.top hd9 (acCells x) (setSeg_all (by rw [List.toList_toArray, xlen]; rfl)) (by rw [List.toList_toArray, xlen]; decide) fun hd10 => ?_; conv => whnf
        have hE10 := Ext.jl hi3 (hput hm m9 (acCells x, 118))
        have hdrop : ∀ {h'}, Dj h' (hput hm m9 (acCells x, 118)) → Ext (join h' hm) (join h' (hput hm m9 (acCells x, 118))) := fun hdd => Ext.jmono hdd (Ext.new hmn9)
        have hdm : ∀ {h'}, Dj h' (hput hm m9 (acCells x, 118)) → Dj h' hm := fun hdd => hdd.mono (Ext.new hmn9)
        repeat (first | (refine CondX.tt ?_; conv => whnf) | (refine CondX.ff ?_; conv => whnf))
        refine RetX.drop (hdrop hd10) (hk (b3, n3, c3) hi3 eB (hdm hd10) ?_)
        simpa [hz] using g3
      · have hz : argI f.st 2 = 0 := of_decide_eq_true hz
        exact fin0 (fun h => h.2 hz)
  · refine CondX.eqF (by omega) ?_; conv => whnf
    repeat (first | (refine CondX.tt ?_; conv => whnf) | (refine CondX.ff ?_; conv => whnf))
    refine CondX.eqF (by omega) ?_; conv => whnf
    repeat (first | (refine CondX.tt ?_; conv => whnf) | (refine CondX.ff ?_; conv => whnf))
    exact fin0 (fun h => hcall h.1)
end
end Go.Proofs.YgvalwGreat.X
