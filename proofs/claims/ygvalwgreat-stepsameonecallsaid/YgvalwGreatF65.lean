import Derived.Test.YgvalwGreatF64
set_option linter.unusedVariables false
set_option linter.unusedSimpArgs false
namespace Go.Proofs.YgvalwGreat.X
open Go

section
variable {hi hm : Hp} {K : Value → Hp → Prop} {c : Nat} {tc : TypeId} {s : YS} {base : List (YF × List Int)} {f : YF} {m ret : List Int} {left : Int} {N : Nat}


set_option maxRecDepth 100000 in
set_option maxHeartbeats 4000000 in
theorem call242_ok (S : StOK hi hm c tc s (base ++ [(f, m)]) ret left) (hN : StN N s (base ++ [(f, m)])) (hN30 : N + 3 < 2 ^ 30) (hbn : base.length ≤ 90) (hgr2 : f.gas + 2300 < big) {fb : Nat} (hfb : at0 s.frS fb) (hbal : (getA s.w.acc f.self).bal = 0) (hval : f.val = 0) (hst : callT 242 ≤ f.st.length) (hlen : argI f.st 4 < 2 ^ 40) (hpc : f.pc + 1 < big)
    (hk : StK hi c tc s (N + 2) (callA (absS s (base ++ [(f, m)]) ret left) (base.map absF) (absF (f, m)) 242) K) :
    CallX Hval.prog 133 [.pointer (some ⟨c, 0, none⟩), .pointer (some ⟨fb, (preC base).length, none⟩), .int .u8 242] (join hi hm) K := by
  refine CallX.of_xf T_ok Hval.func133 rfl (by kernel_rfl) (Nat.le_of_ble_eq_true rfl) ?_; conv => whnf
  have hgr : f.gas < big := by omega
  obtain ⟨fb', pad, tf, hfb', hb, hn1, hn2, hn3⟩ := S.top
  have : some (⟨fb', 0, none⟩ : Addr) = some ⟨fb, 0, none⟩ := hfb'.symm.trans hfb
  cases this
  have hok := S.okT
  have hd := S.dj
  have hc := S.chain
  have hcf : c ≠ fb := S.frC fb hfb
  have hwr := hN.now.room S.now (by omega)
  have hsr : f.stS.2.1 < 2 ^ 30 := by have := hok.n; have := hok.stR; omega
  have hAA : ∀ i, argA (f.st.map Prod.snd) i = argI f.st i := fun i => (argI_abs f.st i).symm
  refine arity_ok (o := 242) (by omega) (by omega) ?_
  rw [show arI 242 = (7, 1, true) from rfl]
  conv => whnf
  refine arg_ok (join_hm hd hb) (hok.st.ext (Ext.jl _ _)) hsr 0 (by decide) ?_; conv => whnf
  refine arg_ok (join_hm hd hb) (hok.st.ext (Ext.jl _ _)) hsr 1 (by decide) ?_; conv => whnf
  refine addrOf_ok ((argP_ok hok.stE 1).ext (Ext.jl _ _)) ?_; conv => whnf
  rw [show addrI (argP f.st 1).2 = addrI (argI f.st 1) from rfl]
  have tlen := addrI_length (argI f.st 1)
  refine BoxX.j hd fun m4 hin4 hmn4 hd4' he4' => ?_; conv => whnf
  refine Ob.mk ⟨by rw [List.size_toArray, bcells_length, tlen]; rfl, ones_bcells _⟩ ?_; conv => whnf
  refine StoreX.j (by rw [List.toList_toArray, bcells_length, tlen]; decide) ?_; conv => whnf
  rw [setSeg_all (by rw [List.toList_toArray, bcells_length, tlen]; rfl)]
  have hd4 : Dj (hput hi m4 (bcells (addrI (argI f.st 1)), 31)) hm := hd4'.hp
  have e4 : Ext hi (hput hi m4 (bcells (addrI (argI f.st 1)), 31)) := Ext.new hin4
  have h4 : hput hi m4 (bcells (addrI (argI f.st 1)), 31) m4 = some (bcells (addrI (argI f.st 1)), 31) := hput_same ..
  clear hd4' he4'
  generalize hput hi m4 (bcells (addrI (argI f.st 1)), 31) = hiA at *
  have SA := S.ext e4 hd4
  refine DrawX.go T_ok hM Hval.func133 (tb := dr133) rfl (by kernel_rfl) ?_; conv => whnf
  refine LoadX.arr (l := addrI (argI f.st 1)) (t := 31) (join_l h4) tlen ?_; conv => whnf
  refine warm_ok (o := 0) hd4 hc (show (sCells s)[0 + 1]? = some (sl s.w.sWA) from rfl) SA.now.wa tlen hwr.wa fun hi5 sWA az5 e5 hd5 gWA hWA hWl => ?_; conv => whnf
  have hset : setSeg (sCells s) (0 + 1) [sl sWA] = sCells { s with w := { s.w with sWA := sWA, wa := az5 } } := (sCells_set (by decide)).trans rfl
  rw [hset] at hd5 ⊢
  have e45 := e4.trans e5
  have S5 : StOK hi5 (hput hm c (sCells { s with w := { s.w with sWA := sWA, wa := az5 } }, tc)) c tc { s with w := { s.w with sWA := sWA, wa := az5 } } (base ++ [(f, m)]) ret left := by
    have b := (S.now.up e45)
    exact (S.ext e45 (hd5.unput hc)).setW rfl rfl fun hl' hh => ⟨b.acc, gWA, b.ws, b.ref, hh, b.logsE, b.temps, b.made, b.gone⟩
  have hb5 : hput hm c (sCells { s with w := { s.w with sWA := sWA, wa := az5 } }, tc) fb = some (preC base ++ (fCells f ++ pad), tf) := by rw [hput_ne hcf.symm]; exact hb
  have h45 := e5 _ _ h4
  have hszW : ({ s.w with sWA := sWA, wa := az5 } : YW).sz (N + 1) := by
    have a := hN.now.mono (Nat.le_succ N)
    exact ⟨a.acc, a.each, Nat.le_trans hWl (Nat.succ_le_succ hN.now.wa), a.ws, a.logs, a.temps, a.made, a.gone⟩
  have hW5 : absW { s.w with sWA := sWA, wa := az5 } = warmW (absW s.w) (addrI (argI f.st 1)) := by
    unfold absW warmW
    congr 1
    funext b
    exact mem_with hWA b
  have hok5 := hok.ext e45
  obtain ⟨s5, hs5⟩ : ∃ s5 : YS, s5 = { s with w := { s.w with sWA := sWA, wa := az5 } } := ⟨_, rfl⟩
  have hs5w : s5.w.acc = s.w.acc := by rw [hs5]
  rw [← hs5] at S5 hb5 hd5 ⊢
  obtain ⟨hm5, hhm5⟩ : ∃ h : Hp, h = hput hm c (sCells s5, tc) := ⟨_, rfl⟩
  rw [← hhm5] at S5 hb5 hd5 ⊢
  have hfb5 : at0 s5.frS fb := by rw [hs5]; exact hfb
  repeat (first | (refine CondX.tt ?_; conv => whnf) | (refine CondX.ff ?_; conv => whnf))
  refine arg_ok (join_hm hd5 hb5) (hok5.st.ext (Ext.jl _ _)) hsr 2 (by decide) ?_; conv => whnf
  have hvok : NtS hi (argP f.st 2).1 (argI f.st 2) := argP_ok hok.stE 2
  have hself5 := ldV_self (join_hm hd5 hb5) hok.self hok.caller (o := (preC base).length + 12) rfl
  refine DrawX.go T_ok hM Hval.func133 (tb := dr133) rfl (by kernel_rfl) ?_; conv => whnf
  refine LoadX.mid (join_hm hd5 hb5) 2 (by decide) rfl (v := .bool f.static) rfl ?_; conv => whnf
  refine LoadX.arr (l := addrI (argI f.st 1)) (t := 31) (join_l h45) tlen ?_; conv => whnf
  refine LoadX.of _ hself5 ?_; conv => whnf
  refine CallX.fj hd5 (normN (hvok.ext e45) fun bv nv cv hi6 e6 g6 hd6 => ?_); conv => whnf
  have hself6 := ldV_self (join_hm hd6 hb5) hok.self hok.caller (o := (preC base).length + 12) rfl
  have h46 := e6 _ _ h45
  have hld4 : ldV true 20 (join hi6 hm5) m4 0 = some (.agg (bcells (addrI (argI f.st 1))).toArray) := by
    obtain ⟨v, q1, q2⟩ := (LoadX.arr (KK := fun v => v = .agg (bcells (addrI (argI f.st 1))).toArray) (join_l h46 (hF := hm5)) tlen rfl).run
    rw [q1, q2]
  have hldS := ldV_mid (sz := 1) (join_hm hd6 hb5) 2 (by decide) rfl (v := .bool f.static) rfl
  refine Ob.mk (by first | exact hself6 | exact hld4 | exact hldS) ?_; conv => whnf
  refine Ob.mk (by first | exact hself6 | exact hld4 | exact hldS) ?_; conv => whnf
  refine Ob.mk (by first | exact hself6 | exact hld4 | exact hldS) ?_; conv => whnf
  have alenT : (bcells (addrI (argI f.st 1))).length = 20 := by rw [bcells_length, tlen]
  have alenS : (bcells f.self).length = 20 := by rw [bcells_length, hok.self]
  erw [fillL_one (off := 0) (v := .int .u8 2) rfl rfl (by decide), fillL_one (off := 2) (v := .bool f.static) rfl rfl (Nat.le_of_ble_eq_true rfl), fillL_one (off := 5) (v := .slice bv nv cv) rfl rfl (Nat.le_of_ble_eq_true rfl), fillL_agg (off := 12) (n := 20) rfl alenT (Nat.le_of_ble_eq_true rfl)]
  have hfill : setSeg (setSeg (setSeg (setSeg (setSeg z135 0 [Value.int IntKind.u8 2]) 2 [Value.bool f.static]) 5 [Value.slice bv nv cv]) 12 (bcells (addrI (argI f.st 1)))) 32 (bcells f.self) = fCells (chF 2 f.static (bv, nv, cv) (argI f.st 2) (addrI (argI f.st 1)) f.self) :=
    frame_fill (H := [Value.int .u8 2, .int .u8 0, .bool f.static, sl nilS, sl nilS, .slice bv nv cv, sl nilS, sl nilS, sl nilS, sl nilS, sl nilS, sl nilS]) rfl tlen hok.self (R := z135.drop 12) rfl
  have hl32 : 32 + 20 ≤ (setSeg (setSeg (setSeg (setSeg z135 0 [Value.int IntKind.u8 2]) 2 [Value.bool f.static]) 5 [Value.slice bv nv cv]) 12 (bcells (addrI (argI f.st 1)))).length := by
    rw [setSeg_length (by rw [alenT]; exact Nat.le_of_ble_eq_true rfl)]
    exact Nat.le_of_ble_eq_true rfl
  erw [fillL_agg (off := 32) (n := 20) rfl alenS hl32, fillL_done, hfill]
  refine forceL_of (fok_fCells _) ?_; conv => whnf
  obtain ⟨ch, hch⟩ : ∃ ch : YF, ch = chF 2 f.static (bv, nv, cv) (argI f.st 2) (addrI (argI f.st 1)) f.self := ⟨_, rfl⟩
  rw [← hch]
  have chok : ch.ok hi6 := by rw [hch]; exact chF_ok g6 tlen hok.self
  have chlen := fCells_len chok.self chok.caller
  refine BoxW.jm hd6 fun m13 hin13 hmn13 hd13 => ?_; conv => whnf
  refine Ob.mk ⟨by rw [List.size_toArray, chlen]; rfl, fCells_one ch⟩ ?_; conv => whnf
  refine StoreX.top hd13 ([] ++ (fCells ch ++ [])) (by rw [setSeg_all (by rw [List.toList_toArray, chlen]; rfl)]; simp) (by rw [List.toList_toArray, chlen]; decide) fun hd7 => ?_; conv => whnf
  have hb7 : hput hm5 m13 ([] ++ (fCells ch ++ []), 135) fb = some (preC base ++ (fCells f ++ pad), tf) := hput_old hb5 hmn13
  have h137 : hput hm5 m13 ([] ++ (fCells ch ++ []), 135) m13 = some ([] ++ (fCells ch ++ []), 135) := hput_same ..
  have e7m : Ext hm5 (hput hm5 m13 ([] ++ (fCells ch ++ []), 135)) := Ext.new hmn13
  have hfb13 : fb ≠ m13 := ne_get hb5 hmn13
  have hc13 : c ≠ m13 := ne_get S5.chain hmn13
  repeat (first | (refine CondX.tt ?_; conv => whnf) | (refine CondX.ff ?_; conv => whnf))
  refine StoreX.mid (pre := []) (post := []) (f := ch) hd7 h137 0 (by decide) rfl { ch with kind := 7 } rfl fun hd7 => ?_; conv => whnf
  rw [hput_hput] at hd7 ⊢
  have hch0 := hch
  obtain ⟨chN, hchN⟩ : ∃ q : YF, q = { ch with kind := 7 } := ⟨_, rfl⟩
  rw [← hchN] at hd7 ⊢
  have chokN : chN.ok hi6 := by rw [hchN]; exact ⟨chok.pc, chok.gas, chok.val, chok.oo, chok.ol, chok.st, chok.stE, chok.stR, chok.code, chok.input, chok.self, chok.caller, chok.saved⟩
  rw [hch0] at hchN
  obtain ⟨ch, hche⟩ : ∃ q : YF, q = chN := ⟨_, rfl⟩
  rw [← hche] at hchN chokN hd7 ⊢
  have hch := hchN
  have chok := chokN
  have chlen := fCells_len chok.self chok.caller
  have hb7 : hput hm5 m13 ([] ++ (fCells ch ++ []), 135) fb = some (preC base ++ (fCells f ++ pad), tf) := hput_old hb5 hmn13
  have h137 : hput hm5 m13 ([] ++ (fCells ch ++ []), 135) m13 = some ([] ++ (fCells ch ++ []), 135) := hput_same ..
  have e7m : Ext hm5 (hput hm5 m13 ([] ++ (fCells ch ++ []), 135)) := Ext.new hmn13
  refine LoadX.of _ (ldV_self (join_hm hd7 hb7) hok.self hok.caller rfl) ?_; conv => whnf
  refine Ob.mk ⟨by rw [List.size_toArray, bcells_length, hok.self]; rfl, ones_bcells _⟩ ?_; conv => whnf
  refine StoreX.jm hd7 h137 (by rw [List.toList_toArray, bcells_length, hok.self, List.nil_append, List.append_nil, chlen]; exact Nat.le_of_ble_eq_true rfl) ?_; conv => whnf
  have hd7 := hd7.put (y := ([] ++ (fCells { ch with self := f.self } ++ []), 135)) h137
  erw [fCells_self chok.self hok.self]
  rw [hput_hput] at hd7 ⊢
  have hch0 := hch
  obtain ⟨chN, hchN⟩ : ∃ q : YF, q = { ch with self := f.self } := ⟨_, rfl⟩
  rw [← hchN] at hd7 ⊢
  have chokN : chN.ok hi6 := by rw [hchN]; exact ⟨chok.pc, chok.gas, chok.val, chok.oo, chok.ol, chok.st, chok.stE, chok.stR, chok.code, chok.input, hok.self, chok.caller, chok.saved⟩
  rw [hch0] at hchN
  obtain ⟨ch, hche⟩ : ∃ q : YF, q = chN := ⟨_, rfl⟩
  rw [← hche] at hchN chokN hd7 ⊢
  have hch := hchN
  have chok := chokN
  have chlen := fCells_len chok.self chok.caller
  have hb7 : hput hm5 m13 ([] ++ (fCells ch ++ []), 135) fb = some (preC base ++ (fCells f ++ pad), tf) := hput_old hb5 hmn13
  have h137 : hput hm5 m13 ([] ++ (fCells ch ++ []), 135) m13 = some ([] ++ (fCells ch ++ []), 135) := hput_same ..
  have e7m : Ext hm5 (hput hm5 m13 ([] ++ (fCells ch ++ []), 135)) := Ext.new hmn13
  have hok6 := hok5.ext e6
  repeat (first | (refine CondX.tt ?_; conv => whnf) | (refine CondX.ff ?_; conv => whnf))
  refine LoadX.mid (join_hm hd7 hb7) 4 (by decide) rfl (v := sl f.gasS) rfl ?_; conv => whnf
  have hg0 := hok.gas.val
  have a00 := (argP_ok hok.stE 0).val
  refine CallX.fj hd7 (ypSentGas_ok hok6.gas (((argP_ok hok.stE 0).ext e45).ext e6) hgr fun bs ns cs hi8 e8 g8 hd8 => ?_); conv => whnf
  have hsent : min (argI f.st 0) (f.gas - f.gas / 64) ≤ f.gas ∧ 0 ≤ min (argI f.st 0) (f.gas - f.gas / 64) := by have h1 : (argP f.st 0).2 = argI f.st 0 := rfl; omega
  have g8 : NtS hi8 (bs, ns, cs) (min (argI f.st 0) (f.gas - f.gas / 64)) := g8
  generalize hsn : min (argI f.st 0) (f.gas - f.gas / 64) = sent at *
  refine LoadX.mid (join_hm hd8 hb7) 4 (by decide) rfl (v := sl f.gasS) rfl ?_; conv => whnf
  refine CallX.fj hd8 (less_ok (hok6.gas.ext e8) g8 fun bl nl cl hi9 e9 g9 hd9 => ?_); conv => whnf
  have hless : lessI f.gas sent = f.gas - sent := by unfold lessI; rw [if_neg (by omega)]
  rw [hless] at g9
  have g89 := g8.ext e9
  have hok9 := (hok6.ext e8).ext e9
  obtain ⟨f1, hf1⟩ : ∃ f1 : YF, f1 = { f with gasS := (bl, nl, cl), gas := f.gas - sent } := ⟨_, rfl⟩
  have hf1ok : f1.ok hi9 := by rw [hf1]; exact ⟨hok9.pc, g9, hok9.val, hok9.oo, hok9.ol, hok9.st, hok9.stE, hok9.stR, hok9.code, hok9.input, hok9.self, hok9.caller, hok9.saved⟩
  refine StoreX.mid (f := f) hd9 hb7 4 (by decide) rfl f1 (by rw [hf1]; rfl) fun hd10 => ?_; conv => whnf
  refine StoreX.mid (pre := []) (post := []) (f := ch) hd10 (by rw [hput_ne hfb13.symm]; exact h137) 4 (by decide) rfl { ch with gasS := (bs, ns, cs), gas := sent } rfl fun hd11 => ?_; conv => whnf
  rw [hput_comm hfb13.symm, hput_hput, hput_comm hfb13] at hd11 ⊢
  have eAll : Ext hi hi9 := ((e45.trans e6).trans e8).trans e9
  have S9 := (S5.ext ((e6.trans e8).trans e9) (hd9.mono e7m)).setTop (f' := f1) hfb5 hb5 hf1ok (by rw [hf1])
  have hchok9 := (chok.ext e8).ext e9
  obtain ⟨ch1, hch1⟩ : ∃ ch1 : YF, ch1 = { ch with gasS := (bs, ns, cs), gas := sent } := ⟨_, rfl⟩
  have hch1ok : ch1.ok hi9 := by rw [hch1]; exact ⟨hchok9.pc, g89, hchok9.val, hchok9.oo, hchok9.ol, hchok9.st, hchok9.stE, hchok9.stR, hchok9.code, hchok9.input, hchok9.self, hchok9.caller, hchok9.saved⟩
  rw [← hch1] at hd11 ⊢
  have VOK9 : NtS hi9 (argP f.st 2).1 (argI f.st 2) := (argP_ok hok.stE 2).ext eAll
  refine isZero_ok ((((((argP_ok hok.stE 2).ext e45).ext e6).ext e8).ext e9).ext (Ext.jl _ _)) ?_; conv => whnf
  refine CondX.notI (fun hvz => ?_) (fun hvz => ?_) <;> conv => whnf
  · have hvz : argI f.st 2 ≠ 0 := of_decide_eq_false hvz
    have hbg := big_lt
    have hv0 : 0 ≤ argI f.st 2 := (argP_ok hok.stE 2).val
    have hbg2 : f.gas + 2300 < big := hgr2
    refine CallX.fj hd11 (num_ok (by omega) (by omega) fun b20 n20 c20 hi20 e20 g20 hd20 => ?_); conv => whnf
    refine CallX.fj hd20 (addN (g89.ext e20) g20 (by omega) fun b21 n21 c21 hi21 e21 g21 hd21 => ?_); conv => whnf
    refine StoreX.mid (pre := []) (post := []) (f := ch1) hd21 (hput_same ..) 4 (by decide) rfl { ch1 with gasS := (b21, n21, c21), gas := sent + 2300 } rfl fun hd22 => ?_; conv => whnf
    rw [hput_hput] at hd22 ⊢
    obtain ⟨ch2, hch2⟩ : ∃ ch2 : YF, ch2 = { ch1 with gasS := (b21, n21, c21), gas := sent + 2300 } := ⟨_, rfl⟩
    rw [← hch2] at hd22 ⊢
    have e9x : Ext hi9 hi21 := e20.trans e21
    have hm13n : hput hm5 fb (preC base ++ (fCells f1 ++ pad), tf) m13 = none := by rw [hput_ne hfb13.symm]; exact hmn13
    have hbN : hput (hput hm5 fb (preC base ++ (fCells f1 ++ pad), tf)) m13 ([] ++ (fCells ch2 ++ []), 135) fb = some (preC base ++ (fCells f1 ++ pad), tf) := by rw [hput_ne hfb13]; exact hput_same ..
    have h13N : hput (hput hm5 fb (preC base ++ (fCells f1 ++ pad), tf)) m13 ([] ++ (fCells ch2 ++ []), 135) m13 = some ([] ++ (fCells ch2 ++ []), 135) := hput_same ..
    have hcN : hput (hput hm5 fb (preC base ++ (fCells f1 ++ pad), tf)) m13 ([] ++ (fCells ch2 ++ []), 135) c = some (sCells s5, tc) := by rw [hput_ne hc13, hput_ne hcf]; exact S5.chain
    have hfrl : s5.frS.2.1 = base.length + 1 := by rw [hs5]; exact hn1
    have hfail : 6 ≤ (base.map absF).length ∨ ((absS s (base ++ [(f, m)]) ret left).w.acct (absF (f, m)).self).bal < (if (242 : Int) = 241 ∨ (242 : Int) = 242 then argA (absF (f, m)).st 2 else 0) := by
      refine .inr ?_
      show (getA s.w.acc f.self).bal < (if (242 : Int) = 241 ∨ (242 : Int) = 242 then argA (f.st.map Prod.snd) 2 else 0)
      rw [hbal, hAA]
      simp
      omega
    refine DrawX.go T_ok hM Hval.func133 (tb := dr133) rfl (by kernel_rfl) ?_; conv => whnf
    refine LoadX.blk (join_hm hd22 hcN) (sl s5.frS) rfl ?_; conv => whnf
    have edep : IntKind.i64.wrap ((s5.frS.2.1 : Int) - 1) = ((base.length : Nat) : Int) := by rw [wrap_i64 (by omega) (by omega)]; omega
    rw [edep]
    refine CondX.decI (fun hdp => ?_) (fun hdp => ?_) <;> conv => whnf
    · repeat (first | (refine CondX.tt ?_; conv => whnf) | (refine CondX.ff ?_; conv => whnf))
      refine DrawX.go T_ok hM Hval.func133 (tb := dr133) rfl (by kernel_rfl) ?_; conv => whnf
      refine LoadX.mid (join_hm hd22 hbN) 4 (by decide) rfl (v := sl f1.gasS) rfl ?_; conv => whnf
      refine LoadX.mid (pre := []) (post := []) (f := ch2) (join_hm hd22 h13N) 4 (by decide) rfl (v := sl (b21, n21, c21)) (by first | rfl | (rw [hch1]; rfl) | (rw [hch2]; rfl)) ?_; conv => whnf
      refine CallX.fj hd22 (addN (hf1ok.ext e9x).gas g21 (by rw [hf1]; show f.gas - sent + (sent + 2300) < big; omega) fun ba na ca hi12 e12 g12 hd12 => ?_); conv => whnf
      refine StoreX.mid (f := f1) hd12 hbN 4 (by decide) rfl { f1 with gasS := (ba, na, ca), gas := f1.gas + (sent + 2300) } rfl fun hd13' => ?_; conv => whnf
      have ho12 := (hf1ok.ext e9x).ext e12
      have hf1st : f1.st = f.st := by rw [hf1]
      have hf1pc : f1.pc = f.pc := by rw [hf1]
      refine answer_ok (sw := nilS) (w := 0) (k := 7) (f := { f1 with gasS := (ba, na, ca), gas := f1.gas + (sent + 2300) }) hd13' (hput_same ..) ⟨ho12.pc, g12, ho12.val, ho12.oo, ho12.ol, ho12.st, ho12.stE, ho12.stR, ho12.code, ho12.input, ho12.self, ho12.caller, ho12.saved⟩ (Nt_nil _) (by show 7 ≤ f1.st.length; rw [hf1st]; exact hst) (by show f1.st.length - 7 + 1 ≤ 64; have := hok.stR; have : 7 ≤ f.st.length := hst; rw [hf1st]; omega) (by show f1.pc + 1 < big; rw [hf1pc]; exact hpc) fun hi14 f3 e14 hf3 heq3 hd14 => ?_; conv => whnf
      obtain ⟨s3, p3, hf3e⟩ := heq3
      rw [hput_hput] at hd14 ⊢
      have S14 := (((S9.more (Ext.new hm13n) (Dj.back e9x hd22)).ext ((e9x.trans e12).trans e14) ((hd14.unput hbN))).setTop (f' := f3) hfb5 hbN hf3 (by rw [hf3e]))
      refine RetX.same (hk hi14 _ s5 (base ++ [(f3, m)]) ret left (((eAll.trans e9x).trans e12).trans e14) S14 ⟨?_, fun q hq => ?_⟩ ?_ (by rw [hs5]; exact ⟨rfl, rfl, rfl, rfl, rfl, rfl, rfl, rfl⟩))
      · rw [hs5]; exact hszW.mono (Nat.le_succ _)
      · rcases List.mem_append.1 hq with h5 | h5
        · exact (hN.saved q (by simp [h5])).mono (by omega)
        · rw [List.mem_singleton.1 h5, hf3e]
          show f1.saved.sz (N + 2)
          rw [hf1]; exact (hN.saved (f, m) (by simp)).mono (by omega)
      · unfold callA
        rw [if_pos hfail, hs5, hf3e, hf1]
        unfold absS
        dsimp only
        rw [hW5]
        simp [absF, hAA, hsn, callT, hvz]
    · repeat (first | (refine CondX.tt ?_; conv => whnf) | (refine CondX.ff ?_; conv => whnf))
      have hf1ok' := hf1ok.ext e9x
      have hselfN := ldV_self (join_hm hd22 hbN) hf1ok.self hf1ok.caller (o := (preC base).length + 12) rfl
      have hf1s : f1.self = f.self := by rw [hf1]
      refine LoadX.of _ hselfN ?_; conv => whnf
      repeat (first | (refine CondX.tt ?_; conv => whnf) | (refine CondX.ff ?_; conv => whnf))
      rw [hf1s]
      have hac9 := S9.now.acc.ext e9x
      refine account_ok (xs := s5.w.acc) (join_hm hd22 hcN) (show (sCells s5)[0]? = some (sl s5.w.sA) from rfl) (hac9.arr.ext (Ext.jl _ _)) (fun x hx => (hac9.each x hx).addr) hok.self (by have := hwr.acc; rw [hs5]; show s.w.sA.2.1 < _; omega) ?_; conv => whnf
      have hx := getA_ok hac9.each hok.self
      have hbal5 : (getA s5.w.acc f.self).bal = 0 := by rw [hs5w]; exact hbal
      generalize getA s5.w.acc f.self = x at *
      repeat (first | (refine CondX.tt ?_; conv => whnf) | (refine CondX.ff ?_; conv => whnf))
      erw [acCells_get hx.addr 1]; conv => whnf
      repeat (first | (refine CondX.tt ?_; conv => whnf) | (refine CondX.ff ?_; conv => whnf))
      refine cmpN (hx.bal.ext (Ext.jl _ _)) ((VOK9.ext e9x).ext (Ext.jl _ _)) ?_; conv => whnf
      repeat (first | (refine CondX.tt ?_; conv => whnf) | (refine CondX.ff ?_; conv => whnf))
      rw [cmp_lt, hbal5]
      refine CondX.dT (by omega) ?_; conv => whnf
      refine DrawX.go T_ok hM Hval.func133 (tb := dr133) rfl (by kernel_rfl) ?_; conv => whnf
      refine LoadX.mid (join_hm hd22 hbN) 4 (by decide) rfl (v := sl f1.gasS) rfl ?_; conv => whnf
      refine LoadX.mid (pre := []) (post := []) (f := ch2) (join_hm hd22 h13N) 4 (by decide) rfl (v := sl (b21, n21, c21)) (by first | rfl | (rw [hch1]; rfl) | (rw [hch2]; rfl)) ?_; conv => whnf
      refine CallX.fj hd22 (addN (hf1ok.ext e9x).gas g21 (by rw [hf1]; show f.gas - sent + (sent + 2300) < big; omega) fun ba na ca hi12 e12 g12 hd12 => ?_); conv => whnf
      refine StoreX.mid (f := f1) hd12 hbN 4 (by decide) rfl { f1 with gasS := (ba, na, ca), gas := f1.gas + (sent + 2300) } rfl fun hd13' => ?_; conv => whnf
      have ho12 := (hf1ok.ext e9x).ext e12
      have hf1st : f1.st = f.st := by rw [hf1]
      have hf1pc : f1.pc = f.pc := by rw [hf1]
      refine answer_ok (sw := nilS) (w := 0) (k := 7) (f := { f1 with gasS := (ba, na, ca), gas := f1.gas + (sent + 2300) }) hd13' (hput_same ..) ⟨ho12.pc, g12, ho12.val, ho12.oo, ho12.ol, ho12.st, ho12.stE, ho12.stR, ho12.code, ho12.input, ho12.self, ho12.caller, ho12.saved⟩ (Nt_nil _) (by show 7 ≤ f1.st.length; rw [hf1st]; exact hst) (by show f1.st.length - 7 + 1 ≤ 64; have := hok.stR; have : 7 ≤ f.st.length := hst; rw [hf1st]; omega) (by show f1.pc + 1 < big; rw [hf1pc]; exact hpc) fun hi14 f3 e14 hf3 heq3 hd14 => ?_; conv => whnf
      obtain ⟨s3, p3, hf3e⟩ := heq3
      rw [hput_hput] at hd14 ⊢
      have S14 := (((S9.more (Ext.new hm13n) (Dj.back e9x hd22)).ext ((e9x.trans e12).trans e14) ((hd14.unput hbN))).setTop (f' := f3) hfb5 hbN hf3 (by rw [hf3e]))
      refine RetX.same (hk hi14 _ s5 (base ++ [(f3, m)]) ret left (((eAll.trans e9x).trans e12).trans e14) S14 ⟨?_, fun q hq => ?_⟩ ?_ (by rw [hs5]; exact ⟨rfl, rfl, rfl, rfl, rfl, rfl, rfl, rfl⟩))
      · rw [hs5]; exact hszW.mono (Nat.le_succ _)
      · rcases List.mem_append.1 hq with h5 | h5
        · exact (hN.saved q (by simp [h5])).mono (by omega)
        · rw [List.mem_singleton.1 h5, hf3e]
          show f1.saved.sz (N + 2)
          rw [hf1]; exact (hN.saved (f, m) (by simp)).mono (by omega)
      · unfold callA
        rw [if_pos hfail, hs5, hf3e, hf1]
        unfold absS
        dsimp only
        rw [hW5]
        simp [absF, hAA, hsn, callT, hvz]
  · have hvz : argI f.st 2 = 0 := of_decide_eq_true hvz
    have hm13n : hput hm5 fb (preC base ++ (fCells f1 ++ pad), tf) m13 = none := by rw [hput_ne hfb13.symm]; exact hmn13
    have hbN : hput (hput hm5 fb (preC base ++ (fCells f1 ++ pad), tf)) m13 ([] ++ (fCells ch1 ++ []), 135) fb = some (preC base ++ (fCells f1 ++ pad), tf) := by rw [hput_ne hfb13]; exact hput_same ..
    have h13N : hput (hput hm5 fb (preC base ++ (fCells f1 ++ pad), tf)) m13 ([] ++ (fCells ch1 ++ []), 135) m13 = some ([] ++ (fCells ch1 ++ []), 135) := hput_same ..
    have hcN : hput (hput hm5 fb (preC base ++ (fCells f1 ++ pad), tf)) m13 ([] ++ (fCells ch1 ++ []), 135) c = some (sCells s5, tc) := by rw [hput_ne hc13, hput_ne hcf]; exact S5.chain
    have hfrl : s5.frS.2.1 = base.length + 1 := by rw [hs5]; exact hn1
    refine DrawX.go T_ok hM Hval.func133 (tb := dr133) rfl (by kernel_rfl) ?_; conv => whnf
    refine LoadX.blk (join_hm hd11 hcN) (sl s5.frS) rfl ?_; conv => whnf
    have edep : IntKind.i64.wrap ((s5.frS.2.1 : Int) - 1) = ((base.length : Nat) : Int) := by rw [wrap_i64 (by omega) (by omega)]; omega
    rw [edep]
    refine CondX.decI (fun hdp => ?_) (fun hdp => ?_) <;> conv => whnf
    · repeat (first | (refine CondX.tt ?_; conv => whnf) | (refine CondX.ff ?_; conv => whnf))
      have hfail : 6 ≤ (base.map absF).length ∨ ((absS s (base ++ [(f, m)]) ret left).w.acct (absF (f, m)).self).bal < (if (242 : Int) = 241 ∨ (242 : Int) = 242 then argA (absF (f, m)).st 2 else 0) := .inl (by simp; omega)
      have hcg : sent = sent + (if (if (242 : Int) = 241 ∨ (242 : Int) = 242 then argI f.st 2 else 0) = 0 then 0 else 2300) := by first | simp [hvz] | simp
      refine DrawX.go T_ok hM Hval.func133 (tb := dr133) rfl (by kernel_rfl) ?_; conv => whnf
      refine LoadX.mid (join_hm hd11 hbN) 4 (by decide) rfl (v := sl f1.gasS) rfl ?_; conv => whnf
      refine LoadX.mid (pre := []) (post := []) (f := ch1) (join_hm hd11 h13N) 4 (by decide) rfl (v := sl (bs, ns, cs)) (by first | rfl | (rw [hch1]; rfl) | (rw [hch2]; rfl)) ?_; conv => whnf
      refine CallX.fj hd11 (addN (hf1ok.ext (Ext.refl hi9)).gas g89 (by rw [hf1]; show f.gas - sent + (sent) < big; omega) fun ba na ca hi12 e12 g12 hd12 => ?_); conv => whnf
      refine StoreX.mid (f := f1) hd12 hbN 4 (by decide) rfl { f1 with gasS := (ba, na, ca), gas := f1.gas + (sent) } rfl fun hd13' => ?_; conv => whnf
      have ho12 := (hf1ok.ext (Ext.refl hi9)).ext e12
      have hf1st : f1.st = f.st := by rw [hf1]
      have hf1pc : f1.pc = f.pc := by rw [hf1]
      refine answer_ok (sw := nilS) (w := 0) (k := 7) (f := { f1 with gasS := (ba, na, ca), gas := f1.gas + (sent) }) hd13' (hput_same ..) ⟨ho12.pc, g12, ho12.val, ho12.oo, ho12.ol, ho12.st, ho12.stE, ho12.stR, ho12.code, ho12.input, ho12.self, ho12.caller, ho12.saved⟩ (Nt_nil _) (by show 7 ≤ f1.st.length; rw [hf1st]; exact hst) (by show f1.st.length - 7 + 1 ≤ 64; have := hok.stR; have : 7 ≤ f.st.length := hst; rw [hf1st]; omega) (by show f1.pc + 1 < big; rw [hf1pc]; exact hpc) fun hi14 f3 e14 hf3 heq3 hd14 => ?_; conv => whnf
      obtain ⟨s3, p3, hf3e⟩ := heq3
      rw [hput_hput] at hd14 ⊢
      have S14 := (((S9.more (Ext.new hm13n) (Dj.back (Ext.refl hi9) hd11)).ext (((Ext.refl hi9).trans e12).trans e14) ((hd14.unput hbN))).setTop (f' := f3) hfb5 hbN hf3 (by rw [hf3e]))
      refine RetX.same (hk hi14 _ s5 (base ++ [(f3, m)]) ret left (((eAll.trans (Ext.refl hi9)).trans e12).trans e14) S14 ⟨?_, fun q hq => ?_⟩ ?_ (by rw [hs5]; exact ⟨rfl, rfl, rfl, rfl, rfl, rfl, rfl, rfl⟩))
      · rw [hs5]; exact hszW.mono (Nat.le_succ _)
      · rcases List.mem_append.1 hq with h5 | h5
        · exact (hN.saved q (by simp [h5])).mono (by omega)
        · rw [List.mem_singleton.1 h5, hf3e]
          show f1.saved.sz (N + 2)
          rw [hf1]; exact (hN.saved (f, m) (by simp)).mono (by omega)
      · unfold callA
        rw [if_pos hfail, hs5, hf3e, hf1]
        unfold absS
        dsimp only
        rw [hW5]
        simp [absF, hAA, hsn, callT, hvz]
    · repeat (first | (refine CondX.tt ?_; conv => whnf) | (refine CondX.ff ?_; conv => whnf))
      have hselfN := ldV_self (join_hm hd11 hbN) hf1ok.self hf1ok.caller (o := (preC base).length + 12) rfl
      have hf1s : f1.self = f.self := by rw [hf1]
      refine LoadX.of _ hselfN ?_; conv => whnf
      repeat (first | (refine CondX.tt ?_; conv => whnf) | (refine CondX.ff ?_; conv => whnf))
      rw [hf1s]
      refine account_ok (xs := s5.w.acc) (join_hm hd11 hcN) (show (sCells s5)[0]? = some (sl s5.w.sA) from rfl) (S9.now.acc.arr.ext (Ext.jl _ _)) (fun x hx => (S9.now.acc.each x hx).addr) hok.self (by have := hwr.acc; rw [hs5]; show s.w.sA.2.1 < _; omega) ?_; conv => whnf
      have hx := getA_ok S9.now.acc.each hok.self
      have hbal5 : (getA s5.w.acc f.self).bal = 0 := by rw [hs5w]; exact hbal
      generalize getA s5.w.acc f.self = x at *
      repeat (first | (refine CondX.tt ?_; conv => whnf) | (refine CondX.ff ?_; conv => whnf))
      erw [acCells_get hx.addr 1]; conv => whnf
      repeat (first | (refine CondX.tt ?_; conv => whnf) | (refine CondX.ff ?_; conv => whnf))
      refine cmpN (hx.bal.ext (Ext.jl _ _)) (VOK9.ext (Ext.jl _ _)) ?_; conv => whnf
      repeat (first | (refine CondX.tt ?_; conv => whnf) | (refine CondX.ff ?_; conv => whnf))
      rw [cmp_lt, hbal5]
      first | refine CondX.ff ?_ | refine CondX.dF (by omega) ?_
      conv => whnf
      have hmN : MemB (hput (hput hm5 fb (preC base ++ (fCells f1 ++ pad), tf)) m13 ([] ++ (fCells ch1 ++ []), 135)) f1.memS m := (S9.more (Ext.new hm13n) hd11).memT
      have aok9 : ∀ i, NtS hi9 (argP f1.st i).1 (argI f.st i) := fun i => by
        have h1 : f1.st = f.st := by rw [hf1]
        rw [h1]; exact (argP_ok hok.stE i).ext eAll
      have hsr1 : f1.stS.2.1 < 2 ^ 30 := by rw [hf1]; exact hsr
      refine arg_ok (join_hm hd11 hbN) (hf1ok.st.ext (Ext.jl _ _)) hsr1 (7 - 4) (by decide) ?_; conv => whnf
      refine arg_ok (join_hm hd11 hbN) (hf1ok.st.ext (Ext.jl _ _)) hsr1 (7 - 4 + 1) (by decide) ?_; conv => whnf
      refine read_ok hd11 hbN (hmN.byt hd11) (aok9 (7 - 4)) (aok9 (7 - 4 + 1)) hlen fun sI hiB eB hdB gB => ?_; conv => whnf
      refine StoreX.mid (pre := []) (post := []) (f := ch1) hdB h13N 11 (by decide) rfl { ch1 with inS := sI, input := cutN m (argI f.st (7 - 4)).toNat (argI f.st (7 - 4 + 1)).toNat } rfl fun hdC => ?_; conv => whnf
      rw [hput_hput] at hdC ⊢
      refine LoadX.arr (l := addrI (argI f.st 1)) (t := 31) (join_l (eB _ _ (e9 _ _ (e8 _ _ h46)))) tlen ?_; conv => whnf
      refine natvAt_ok tlen ?_; conv => whnf
      refine StoreX.mid (pre := []) (post := []) (f := { ch1 with inS := sI, input := cutN m (argI f.st (7 - 4)).toNat (argI f.st (7 - 4 + 1)).toNat }) hdC (hput_same ..) 1 (by decide) rfl { ch1 with inS := sI, input := cutN m (argI f.st (7 - 4)).toNat (argI f.st (7 - 4 + 1)).toNat, natv := natK (addrI (argI f.st 1)) } rfl fun hdD => ?_; conv => whnf
      rw [hput_hput] at hdD ⊢
      refine LoadX.mid (pre := []) (post := []) (f := { ch1 with inS := sI, input := cutN m (argI f.st (7 - 4)).toNat (argI f.st (7 - 4 + 1)).toNat, natv := natK (addrI (argI f.st 1)) }) (join_hm hdD (hput_same ..)) 1 (by decide) rfl (v := .int .u8 (natK (addrI (argI f.st 1)))) rfl ?_; conv => whnf
      have hgo : ¬ (6 ≤ (base.map absF).length ∨ ((absS s (base ++ [(f, m)]) ret left).w.acct (absF (f, m)).self).bal < (if (242 : Int) = 241 ∨ (242 : Int) = 242 then argA (absF (f, m)).st 2 else 0)) := by
        show ¬ (6 ≤ (base.map absF).length ∨ (getA s.w.acc f.self).bal < (if (242 : Int) = 241 ∨ (242 : Int) = 242 then argA (f.st.map Prod.snd) 2 else 0))
        rw [hbal, hAA]
        simp
        omega
      have h46B := eB _ _ (e9 _ _ (e8 _ _ h46))
      have hch1B := hch1ok.ext eB
      refine CondX.eqI (fun hnat => ?_) (fun hnat => ?_) <;> conv => whnf
      · have hcD : hput (hput hm5 fb (preC base ++ (fCells f1 ++ pad), tf)) m13 ([] ++ (fCells { ch1 with inS := sI, input := cutN m (argI f.st (7 - 4)).toNat (argI f.st (7 - 4 + 1)).toNat, natv := natK (addrI (argI f.st 1)) } ++ []), 135) c = some (sCells s5, tc) := by rw [hput_ne hc13, hput_ne hcf]; exact S5.chain
        refine DrawX.go T_ok hM Hval.func133 (tb := dr133) rfl (by kernel_rfl) ?_; conv => whnf
        refine LoadX.arr (l := addrI (argI f.st 1)) (t := 31) (join_l h46B) tlen ?_; conv => whnf
        have hac9 := S9.now.acc.ext eB
        refine account_ok (xs := s5.w.acc) (join_hm hdD hcD) (show (sCells s5)[0]? = some (sl s5.w.sA) from rfl) (hac9.arr.ext (Ext.jl _ _)) (fun x hx => (hac9.each x hx).addr) tlen (by have := hwr.acc; rw [hs5]; show s.w.sA.2.1 < _; omega) ?_; conv => whnf
        have hx := getA_ok hac9.each tlen
        have hxc : (getA s5.w.acc (addrI (argI f.st 1))).code = (getA s.w.acc (addrI (argI f.st 1))).code := by rw [hs5w]
        generalize getA s5.w.acc (addrI (argI f.st 1)) = x at *
        erw [acCells_get hx.addr 2]; conv => whnf
        refine CallX.fj hdD (bytesOf_any hx.code fun bC cC hiF eF gF hdF => ?_); conv => whnf
        refine StoreX.mid (pre := []) (post := []) (f := { ch1 with inS := sI, input := cutN m (argI f.st (7 - 4)).toNat (argI f.st (7 - 4 + 1)).toNat, natv := natK (addrI (argI f.st 1)) }) hdF (hput_same ..) 10 (by decide) rfl { ch1 with inS := sI, input := cutN m (argI f.st (7 - 4)).toNat (argI f.st (7 - 4 + 1)).toNat, natv := natK (addrI (argI f.st 1)), codeS := (bC, x.cs.2.1, cC), code := x.code } rfl fun hdG => ?_; conv => whnf
        rw [hput_hput] at hdG ⊢
        have hchX : ({ ch1 with inS := sI, input := cutN m (argI f.st (7 - 4)).toNat (argI f.st (7 - 4 + 1)).toNat, natv := natK (addrI (argI f.st 1)), codeS := (bC, x.cs.2.1, cC), code := x.code } : YF).ok hiF := by
          have q := hch1B.ext eF
          exact ⟨q.pc, q.gas, q.val, q.oo, q.ol, q.st, q.stE, q.stR, gF, gB.ext eF, q.self, q.caller, q.saved⟩
        have hbX : hput (hput hm5 fb (preC base ++ (fCells f1 ++ pad), tf)) m13 ([] ++ (fCells { ch1 with inS := sI, input := cutN m (argI f.st (7 - 4)).toNat (argI f.st (7 - 4 + 1)).toNat, natv := natK (addrI (argI f.st 1)), codeS := (bC, x.cs.2.1, cC), code := x.code } ++ []), 135) fb = some (preC base ++ (fCells f1 ++ pad), tf) := by rw [hput_ne hfb13]; exact hput_same ..
        have hf1X := hf1ok.ext (eB.trans eF)
        have aokX : ∀ i, NtS hiF (argP f1.st i).1 (argI f.st i) := fun i => (aok9 i).ext (eB.trans eF)
        refine arg_ok (join_hm hdG hbX) (hf1X.st.ext (Ext.jl _ _)) hsr1 (7 - 4 + 2) (by decide) ?_; conv => whnf
        refine arg_ok (join_hm hdG hbX) (hf1X.st.ext (Ext.jl _ _)) hsr1 (7 - 4 + 3) (by decide) ?_; conv => whnf
        refine wait_ok (k := 7) hdG hbX hf1X (aokX (7 - 4 + 2)) (aokX (7 - 4 + 3)) (by have h1 : f1.st = f.st := (by rw [hf1]); rw [h1]; exact hst) fun hiE f4 eE hf4 heq4 hdE => ?_; conv => whnf
        obtain ⟨s4, s41, s42, hf4e⟩ := heq4
        have hchlen := fCells_len hchX.self hchX.caller
        have h13E : hput (hput (hput hm5 fb (preC base ++ (fCells f1 ++ pad), tf)) m13 ([] ++ (fCells { ch1 with inS := sI, input := cutN m (argI f.st (7 - 4)).toNat (argI f.st (7 - 4 + 1)).toNat, natv := natK (addrI (argI f.st 1)), codeS := (bC, x.cs.2.1, cC), code := x.code } ++ []), 135)) fb (preC base ++ (fCells f4 ++ pad), tf) m13 = some ([] ++ (fCells { ch1 with inS := sI, input := cutN m (argI f.st (7 - 4)).toNat (argI f.st (7 - 4 + 1)).toNat, natv := natK (addrI (argI f.st 1)), codeS := (bC, x.cs.2.1, cC), code := x.code } ++ []), 135) := by rw [hput_ne hfb13.symm]; exact hput_same ..
        refine LoadX.all (c := [] ++ (fCells { ch1 with inS := sI, input := cutN m (argI f.st (7 - 4)).toNat (argI f.st (7 - 4 + 1)).toNat, natv := natK (addrI (argI f.st 1)), codeS := (bC, x.cs.2.1, cC), code := x.code } ++ [])) (join_hm hdE h13E) (by rw [List.nil_append, List.append_nil, hchlen]; rfl) ?_; conv => whnf
        rw [List.nil_append, List.append_nil]
        rw [List.nil_append, List.append_nil] at hdE
        have SE := (((S9.more (Ext.new (x := (fCells { ch1 with inS := sI, input := cutN m (argI f.st (7 - 4)).toNat (argI f.st (7 - 4 + 1)).toNat, natv := natK (addrI (argI f.st 1)), codeS := (bC, x.cs.2.1, cC), code := x.code }, 135)) hm13n) (by have := Dj.back (eB.trans eF) hdG; rwa [List.nil_append, List.append_nil] at this)).ext ((eB.trans eF).trans eE) (hdE.unput (by rw [hput_ne hfb13]; exact hput_same ..))).setTop (f' := f4) hfb5 (by rw [hput_ne hfb13]; exact hput_same ..) hf4 (by rw [hf4e]))
        have hNE : StN (N + 1) s5 (base ++ [(f4, m)]) := ⟨by rw [hs5]; exact hszW, fun q hq => by
          rcases List.mem_append.1 hq with h5 | h5
          · exact (hN.saved q (by simp [h5])).mono (Nat.le_succ N)
          · rw [List.mem_singleton.1 h5, hf4e]
            show f1.saved.sz (N + 1)
            rw [hf1]; exact (hN.saved (f, m) (by simp)).mono (Nat.le_succ N)⟩
        refine enterSt_ok (f := { ch1 with inS := sI, input := cutN m (argI f.st (7 - 4)).toNat (argI f.st (7 - 4 + 1)).toNat, natv := natK (addrI (argI f.st 1)), codeS := (bC, x.cs.2.1, cC), code := x.code }) SE hNE (by omega) (by simp; omega) (hchX.ext eE) (by show ch1.val = 0; rw [hch1, hch]; first | exact hvz | exact hval | rfl) (by show ch1.memS = nilS; rw [hch1, hch]; rfl) ?_
        intro hi' hm' s' frs' ret' left' q1 q2 q3 q4 q5
        conv => whnf
        refine RetX.same (hk hi' hm' s' frs' ret' left' (((eAll.trans (eB.trans eF)).trans eE).trans q1) q2 q3 ?_ (fixS.trans (by rw [hs5]; exact ⟨rfl, rfl, rfl, rfl, rfl, rfl, rfl, rfl⟩) q5))
        rw [q4]
        unfold callA
        rw [if_neg hgo, hs5, hf4e, hf1]
        unfold absS
        dsimp only
        rw [hW5]
        simp [absF, hAA, hsn, callT, hvz, enterA, hch1, hch, chF, callK, hxc, hnat]
        try rfl
      · have hchX : ({ ch1 with inS := sI, input := cutN m (argI f.st (7 - 4)).toNat (argI f.st (7 - 4 + 1)).toNat, natv := natK (addrI (argI f.st 1)) } : YF).ok hiB := ⟨hch1B.pc, hch1B.gas, hch1B.val, hch1B.oo, hch1B.ol, hch1B.st, hch1B.stE, hch1B.stR, hch1B.code, gB, hch1B.self, hch1B.caller, hch1B.saved⟩
        have hbX : hput (hput hm5 fb (preC base ++ (fCells f1 ++ pad), tf)) m13 ([] ++ (fCells { ch1 with inS := sI, input := cutN m (argI f.st (7 - 4)).toNat (argI f.st (7 - 4 + 1)).toNat, natv := natK (addrI (argI f.st 1)) } ++ []), 135) fb = some (preC base ++ (fCells f1 ++ pad), tf) := by rw [hput_ne hfb13]; exact hput_same ..
        have hf1X := hf1ok.ext eB
        have aokX : ∀ i, NtS hiB (argP f1.st i).1 (argI f.st i) := fun i => (aok9 i).ext eB
        refine arg_ok (join_hm hdD hbX) (hf1X.st.ext (Ext.jl _ _)) hsr1 (7 - 4 + 2) (by decide) ?_; conv => whnf
        refine arg_ok (join_hm hdD hbX) (hf1X.st.ext (Ext.jl _ _)) hsr1 (7 - 4 + 3) (by decide) ?_; conv => whnf
        refine wait_ok (k := 7) hdD hbX hf1X (aokX (7 - 4 + 2)) (aokX (7 - 4 + 3)) (by have h1 : f1.st = f.st := (by rw [hf1]); rw [h1]; exact hst) fun hiE f4 eE hf4 heq4 hdE => ?_; conv => whnf
        obtain ⟨s4, s41, s42, hf4e⟩ := heq4
        have hchlen := fCells_len hchX.self hchX.caller
        have h13E : hput (hput (hput hm5 fb (preC base ++ (fCells f1 ++ pad), tf)) m13 ([] ++ (fCells { ch1 with inS := sI, input := cutN m (argI f.st (7 - 4)).toNat (argI f.st (7 - 4 + 1)).toNat, natv := natK (addrI (argI f.st 1)) } ++ []), 135)) fb (preC base ++ (fCells f4 ++ pad), tf) m13 = some ([] ++ (fCells { ch1 with inS := sI, input := cutN m (argI f.st (7 - 4)).toNat (argI f.st (7 - 4 + 1)).toNat, natv := natK (addrI (argI f.st 1)) } ++ []), 135) := by rw [hput_ne hfb13.symm]; exact hput_same ..
        refine LoadX.all (c := [] ++ (fCells { ch1 with inS := sI, input := cutN m (argI f.st (7 - 4)).toNat (argI f.st (7 - 4 + 1)).toNat, natv := natK (addrI (argI f.st 1)) } ++ [])) (join_hm hdE h13E) (by rw [List.nil_append, List.append_nil, hchlen]; rfl) ?_; conv => whnf
        rw [List.nil_append, List.append_nil]
        rw [List.nil_append, List.append_nil] at hdE
        have SE := (((S9.more (Ext.new (x := (fCells { ch1 with inS := sI, input := cutN m (argI f.st (7 - 4)).toNat (argI f.st (7 - 4 + 1)).toNat, natv := natK (addrI (argI f.st 1)) }, 135)) hm13n) (by have := Dj.back eB hdD; rwa [List.nil_append, List.append_nil] at this)).ext (eB.trans eE) (hdE.unput (by rw [hput_ne hfb13]; exact hput_same ..))).setTop (f' := f4) hfb5 (by rw [hput_ne hfb13]; exact hput_same ..) hf4 (by rw [hf4e]))
        have hNE : StN (N + 1) s5 (base ++ [(f4, m)]) := ⟨by rw [hs5]; exact hszW, fun q hq => by
          rcases List.mem_append.1 hq with h5 | h5
          · exact (hN.saved q (by simp [h5])).mono (Nat.le_succ N)
          · rw [List.mem_singleton.1 h5, hf4e]
            show f1.saved.sz (N + 1)
            rw [hf1]; exact (hN.saved (f, m) (by simp)).mono (Nat.le_succ N)⟩
        refine enterSt_ok (f := { ch1 with inS := sI, input := cutN m (argI f.st (7 - 4)).toNat (argI f.st (7 - 4 + 1)).toNat, natv := natK (addrI (argI f.st 1)) }) SE hNE (by omega) (by simp; omega) (hchX.ext eE) (by show ch1.val = 0; rw [hch1, hch]; first | exact hvz | exact hval | rfl) (by show ch1.memS = nilS; rw [hch1, hch]; rfl) ?_
        intro hi' hm' s' frs' ret' left' q1 q2 q3 q4 q5
        conv => whnf
        refine RetX.same (hk hi' hm' s' frs' ret' left' (((eAll.trans eB).trans eE).trans q1) q2 q3 ?_ (fixS.trans (by rw [hs5]; exact ⟨rfl, rfl, rfl, rfl, rfl, rfl, rfl, rfl⟩) q5))
        rw [q4]
        unfold callA
        rw [if_neg hgo, hs5, hf4e, hf1]
        unfold absS
        dsimp only
        rw [hW5]
        simp [absF, hAA, hsn, callT, hvz, enterA, hch1, hch, chF, callK, hnat, hnat]
        try rfl
set_option maxRecDepth 100000 in
set_option maxHeartbeats 4000000 in
theorem call244_ok (S : StOK hi hm c tc s (base ++ [(f, m)]) ret left) (hN : StN N s (base ++ [(f, m)])) (hN30 : N + 3 < 2 ^ 30) (hbn : base.length ≤ 90) (hgr2 : f.gas + 2300 < big) {fb : Nat} (hfb : at0 s.frS fb) (hbal : (getA s.w.acc f.self).bal = 0) (hval : f.val = 0) (hst : callT 244 ≤ f.st.length) (hlen : argI f.st 3 < 2 ^ 40) (hpc : f.pc + 1 < big)
    (hk : StK hi c tc s (N + 2) (callA (absS s (base ++ [(f, m)]) ret left) (base.map absF) (absF (f, m)) 244) K) :
    CallX Hval.prog 133 [.pointer (some ⟨c, 0, none⟩), .pointer (some ⟨fb, (preC base).length, none⟩), .int .u8 244] (join hi hm) K := by
  refine CallX.of_xf T_ok Hval.func133 rfl (by kernel_rfl) (Nat.le_of_ble_eq_true rfl) ?_; conv => whnf
  have hgr : f.gas < big := by omega
  obtain ⟨fb', pad, tf, hfb', hb, hn1, hn2, hn3⟩ := S.top
  have : some (⟨fb', 0, none⟩ : Addr) = some ⟨fb, 0, none⟩ := hfb'.symm.trans hfb
  cases this
  have hok := S.okT
  have hd := S.dj
  have hc := S.chain
  have hcf : c ≠ fb := S.frC fb hfb
  have hwr := hN.now.room S.now (by omega)
  have hsr : f.stS.2.1 < 2 ^ 30 := by have := hok.n; have := hok.stR; omega
  have hAA : ∀ i, argA (f.st.map Prod.snd) i = argI f.st i := fun i => (argI_abs f.st i).symm
  refine arity_ok (o := 244) (by omega) (by omega) ?_
  rw [show arI 244 = (6, 1, true) from rfl]
  conv => whnf
  refine arg_ok (join_hm hd hb) (hok.st.ext (Ext.jl _ _)) hsr 0 (by decide) ?_; conv => whnf
  refine arg_ok (join_hm hd hb) (hok.st.ext (Ext.jl _ _)) hsr 1 (by decide) ?_; conv => whnf
  refine addrOf_ok ((argP_ok hok.stE 1).ext (Ext.jl _ _)) ?_; conv => whnf
  rw [show addrI (argP f.st 1).2 = addrI (argI f.st 1) from rfl]
  have tlen := addrI_length (argI f.st 1)
  refine BoxX.j hd fun m4 hin4 hmn4 hd4' he4' => ?_; conv => whnf
  refine Ob.mk ⟨by rw [List.size_toArray, bcells_length, tlen]; rfl, ones_bcells _⟩ ?_; conv => whnf
  refine StoreX.j (by rw [List.toList_toArray, bcells_length, tlen]; decide) ?_; conv => whnf
  rw [setSeg_all (by rw [List.toList_toArray, bcells_length, tlen]; rfl)]
  have hd4 : Dj (hput hi m4 (bcells (addrI (argI f.st 1)), 31)) hm := hd4'.hp
  have e4 : Ext hi (hput hi m4 (bcells (addrI (argI f.st 1)), 31)) := Ext.new hin4
  have h4 : hput hi m4 (bcells (addrI (argI f.st 1)), 31) m4 = some (bcells (addrI (argI f.st 1)), 31) := hput_same ..
  clear hd4' he4'
  generalize hput hi m4 (bcells (addrI (argI f.st 1)), 31) = hiA at *
  have SA := S.ext e4 hd4
  refine DrawX.go T_ok hM Hval.func133 (tb := dr133) rfl (by kernel_rfl) ?_; conv => whnf
  refine LoadX.arr (l := addrI (argI f.st 1)) (t := 31) (join_l h4) tlen ?_; conv => whnf
  refine warm_ok (o := 0) hd4 hc (show (sCells s)[0 + 1]? = some (sl s.w.sWA) from rfl) SA.now.wa tlen hwr.wa fun hi5 sWA az5 e5 hd5 gWA hWA hWl => ?_; conv => whnf
  have hset : setSeg (sCells s) (0 + 1) [sl sWA] = sCells { s with w := { s.w with sWA := sWA, wa := az5 } } := (sCells_set (by decide)).trans rfl
  rw [hset] at hd5 ⊢
  have e45 := e4.trans e5
  have S5 : StOK hi5 (hput hm c (sCells { s with w := { s.w with sWA := sWA, wa := az5 } }, tc)) c tc { s with w := { s.w with sWA := sWA, wa := az5 } } (base ++ [(f, m)]) ret left := by
    have b := (S.now.up e45)
    exact (S.ext e45 (hd5.unput hc)).setW rfl rfl fun hl' hh => ⟨b.acc, gWA, b.ws, b.ref, hh, b.logsE, b.temps, b.made, b.gone⟩
  have hb5 : hput hm c (sCells { s with w := { s.w with sWA := sWA, wa := az5 } }, tc) fb = some (preC base ++ (fCells f ++ pad), tf) := by rw [hput_ne hcf.symm]; exact hb
  have h45 := e5 _ _ h4
  have hszW : ({ s.w with sWA := sWA, wa := az5 } : YW).sz (N + 1) := by
    have a := hN.now.mono (Nat.le_succ N)
    exact ⟨a.acc, a.each, Nat.le_trans hWl (Nat.succ_le_succ hN.now.wa), a.ws, a.logs, a.temps, a.made, a.gone⟩
  have hW5 : absW { s.w with sWA := sWA, wa := az5 } = warmW (absW s.w) (addrI (argI f.st 1)) := by
    unfold absW warmW
    congr 1
    funext b
    exact mem_with hWA b
  have hok5 := hok.ext e45
  obtain ⟨s5, hs5⟩ : ∃ s5 : YS, s5 = { s with w := { s.w with sWA := sWA, wa := az5 } } := ⟨_, rfl⟩
  have hs5w : s5.w.acc = s.w.acc := by rw [hs5]
  rw [← hs5] at S5 hb5 hd5 ⊢
  obtain ⟨hm5, hhm5⟩ : ∃ h : Hp, h = hput hm c (sCells s5, tc) := ⟨_, rfl⟩
  rw [← hhm5] at S5 hb5 hd5 ⊢
  have hfb5 : at0 s5.frS fb := by rw [hs5]; exact hfb
  repeat (first | (refine CondX.tt ?_; conv => whnf) | (refine CondX.ff ?_; conv => whnf))
  have hvok : NtS hi nilS 0 := Nt_nil _
  have hself5 := ldV_self (join_hm hd5 hb5) hok.self hok.caller (o := (preC base).length + 12) rfl
  refine DrawX.go T_ok hM Hval.func133 (tb := dr133) rfl (by kernel_rfl) ?_; conv => whnf
  refine LoadX.mid (join_hm hd5 hb5) 2 (by decide) rfl (v := .bool f.static) rfl ?_; conv => whnf
  refine LoadX.arr (l := addrI (argI f.st 1)) (t := 31) (join_l h45) tlen ?_; conv => whnf
  refine LoadX.of _ hself5 ?_; conv => whnf
  refine CallX.fj hd5 (normN (hvok.ext e45) fun bv nv cv hi6 e6 g6 hd6 => ?_); conv => whnf
  have hself6 := ldV_self (join_hm hd6 hb5) hok.self hok.caller (o := (preC base).length + 12) rfl
  have h46 := e6 _ _ h45
  have hld4 : ldV true 20 (join hi6 hm5) m4 0 = some (.agg (bcells (addrI (argI f.st 1))).toArray) := by
    obtain ⟨v, q1, q2⟩ := (LoadX.arr (KK := fun v => v = .agg (bcells (addrI (argI f.st 1))).toArray) (join_l h46 (hF := hm5)) tlen rfl).run
    rw [q1, q2]
  have hldS := ldV_mid (sz := 1) (join_hm hd6 hb5) 2 (by decide) rfl (v := .bool f.static) rfl
  refine Ob.mk (by first | exact hself6 | exact hld4 | exact hldS) ?_; conv => whnf
  refine Ob.mk (by first | exact hself6 | exact hld4 | exact hldS) ?_; conv => whnf
  refine Ob.mk (by first | exact hself6 | exact hld4 | exact hldS) ?_; conv => whnf
  have alenT : (bcells (addrI (argI f.st 1))).length = 20 := by rw [bcells_length, tlen]
  have alenS : (bcells f.self).length = 20 := by rw [bcells_length, hok.self]
  erw [fillL_one (off := 0) (v := .int .u8 2) rfl rfl (by decide), fillL_one (off := 2) (v := .bool f.static) rfl rfl (Nat.le_of_ble_eq_true rfl), fillL_one (off := 5) (v := .slice bv nv cv) rfl rfl (Nat.le_of_ble_eq_true rfl), fillL_agg (off := 12) (n := 20) rfl alenT (Nat.le_of_ble_eq_true rfl)]
  have hfill : setSeg (setSeg (setSeg (setSeg (setSeg z135 0 [Value.int IntKind.u8 2]) 2 [Value.bool f.static]) 5 [Value.slice bv nv cv]) 12 (bcells (addrI (argI f.st 1)))) 32 (bcells f.self) = fCells (chF 2 f.static (bv, nv, cv) (0 : Int) (addrI (argI f.st 1)) f.self) :=
    frame_fill (H := [Value.int .u8 2, .int .u8 0, .bool f.static, sl nilS, sl nilS, .slice bv nv cv, sl nilS, sl nilS, sl nilS, sl nilS, sl nilS, sl nilS]) rfl tlen hok.self (R := z135.drop 12) rfl
  have hl32 : 32 + 20 ≤ (setSeg (setSeg (setSeg (setSeg z135 0 [Value.int IntKind.u8 2]) 2 [Value.bool f.static]) 5 [Value.slice bv nv cv]) 12 (bcells (addrI (argI f.st 1)))).length := by
    rw [setSeg_length (by rw [alenT]; exact Nat.le_of_ble_eq_true rfl)]
    exact Nat.le_of_ble_eq_true rfl
  erw [fillL_agg (off := 32) (n := 20) rfl alenS hl32, fillL_done, hfill]
  refine forceL_of (fok_fCells _) ?_; conv => whnf
  obtain ⟨ch, hch⟩ : ∃ ch : YF, ch = chF 2 f.static (bv, nv, cv) (0 : Int) (addrI (argI f.st 1)) f.self := ⟨_, rfl⟩
  rw [← hch]
  have chok : ch.ok hi6 := by rw [hch]; exact chF_ok g6 tlen hok.self
  have chlen := fCells_len chok.self chok.caller
  refine BoxW.jm hd6 fun m13 hin13 hmn13 hd13 => ?_; conv => whnf
  refine Ob.mk ⟨by rw [List.size_toArray, chlen]; rfl, fCells_one ch⟩ ?_; conv => whnf
  refine StoreX.top hd13 ([] ++ (fCells ch ++ [])) (by rw [setSeg_all (by rw [List.toList_toArray, chlen]; rfl)]; simp) (by rw [List.toList_toArray, chlen]; decide) fun hd7 => ?_; conv => whnf
  have hb7 : hput hm5 m13 ([] ++ (fCells ch ++ []), 135) fb = some (preC base ++ (fCells f ++ pad), tf) := hput_old hb5 hmn13
  have h137 : hput hm5 m13 ([] ++ (fCells ch ++ []), 135) m13 = some ([] ++ (fCells ch ++ []), 135) := hput_same ..
  have e7m : Ext hm5 (hput hm5 m13 ([] ++ (fCells ch ++ []), 135)) := Ext.new hmn13
  have hfb13 : fb ≠ m13 := ne_get hb5 hmn13
  have hc13 : c ≠ m13 := ne_get S5.chain hmn13
  repeat (first | (refine CondX.tt ?_; conv => whnf) | (refine CondX.ff ?_; conv => whnf))
  refine StoreX.mid (pre := []) (post := []) (f := ch) hd7 h137 0 (by decide) rfl { ch with kind := 3 } rfl fun hd7 => ?_; conv => whnf
  rw [hput_hput] at hd7 ⊢
  have hch0 := hch
  obtain ⟨chN, hchN⟩ : ∃ q : YF, q = { ch with kind := 3 } := ⟨_, rfl⟩
  rw [← hchN] at hd7 ⊢
  have chokN : chN.ok hi6 := by rw [hchN]; exact ⟨chok.pc, chok.gas, chok.val, chok.oo, chok.ol, chok.st, chok.stE, chok.stR, chok.code, chok.input, chok.self, chok.caller, chok.saved⟩
  rw [hch0] at hchN
  obtain ⟨ch, hche⟩ : ∃ q : YF, q = chN := ⟨_, rfl⟩
  rw [← hche] at hchN chokN hd7 ⊢
  have hch := hchN
  have chok := chokN
  have chlen := fCells_len chok.self chok.caller
  have hb7 : hput hm5 m13 ([] ++ (fCells ch ++ []), 135) fb = some (preC base ++ (fCells f ++ pad), tf) := hput_old hb5 hmn13
  have h137 : hput hm5 m13 ([] ++ (fCells ch ++ []), 135) m13 = some ([] ++ (fCells ch ++ []), 135) := hput_same ..
  have e7m : Ext hm5 (hput hm5 m13 ([] ++ (fCells ch ++ []), 135)) := Ext.new hmn13
  refine LoadX.mid (join_hm hd7 hb7) 5 (by decide) rfl (v := sl f.valS) rfl ?_; conv => whnf
  refine StoreX.mid (pre := []) (post := []) (f := ch) hd7 h137 5 (by decide) rfl { ch with valS := f.valS, val := f.val } rfl fun hd7 => ?_; conv => whnf
  rw [hput_hput] at hd7 ⊢
  have hch0 := hch
  obtain ⟨chN, hchN⟩ : ∃ q : YF, q = { ch with valS := f.valS, val := f.val } := ⟨_, rfl⟩
  rw [← hchN] at hd7 ⊢
  have chokN : chN.ok hi6 := by rw [hchN]; exact ⟨chok.pc, chok.gas, (hok5.ext e6).val, chok.oo, chok.ol, chok.st, chok.stE, chok.stR, chok.code, chok.input, chok.self, chok.caller, chok.saved⟩
  rw [hch0] at hchN
  obtain ⟨ch, hche⟩ : ∃ q : YF, q = chN := ⟨_, rfl⟩
  rw [← hche] at hchN chokN hd7 ⊢
  have hch := hchN
  have chok := chokN
  have chlen := fCells_len chok.self chok.caller
  have hb7 : hput hm5 m13 ([] ++ (fCells ch ++ []), 135) fb = some (preC base ++ (fCells f ++ pad), tf) := hput_old hb5 hmn13
  have h137 : hput hm5 m13 ([] ++ (fCells ch ++ []), 135) m13 = some ([] ++ (fCells ch ++ []), 135) := hput_same ..
  have e7m : Ext hm5 (hput hm5 m13 ([] ++ (fCells ch ++ []), 135)) := Ext.new hmn13
  refine LoadX.of _ (ldV_self (join_hm hd7 hb7) hok.self hok.caller rfl) ?_; conv => whnf
  refine Ob.mk ⟨by rw [List.size_toArray, bcells_length, hok.self]; rfl, ones_bcells _⟩ ?_; conv => whnf
  refine StoreX.jm hd7 h137 (by rw [List.toList_toArray, bcells_length, hok.self, List.nil_append, List.append_nil, chlen]; exact Nat.le_of_ble_eq_true rfl) ?_; conv => whnf
  have hd7 := hd7.put (y := ([] ++ (fCells { ch with self := f.self } ++ []), 135)) h137
  erw [fCells_self chok.self hok.self]
  rw [hput_hput] at hd7 ⊢
  have hch0 := hch
  obtain ⟨chN, hchN⟩ : ∃ q : YF, q = { ch with self := f.self } := ⟨_, rfl⟩
  rw [← hchN] at hd7 ⊢
  have chokN : chN.ok hi6 := by rw [hchN]; exact ⟨chok.pc, chok.gas, chok.val, chok.oo, chok.ol, chok.st, chok.stE, chok.stR, chok.code, chok.input, hok.self, chok.caller, chok.saved⟩
  rw [hch0] at hchN
  obtain ⟨ch, hche⟩ : ∃ q : YF, q = chN := ⟨_, rfl⟩
  rw [← hche] at hchN chokN hd7 ⊢
  have hch := hchN
  have chok := chokN
  have chlen := fCells_len chok.self chok.caller
  have hb7 : hput hm5 m13 ([] ++ (fCells ch ++ []), 135) fb = some (preC base ++ (fCells f ++ pad), tf) := hput_old hb5 hmn13
  have h137 : hput hm5 m13 ([] ++ (fCells ch ++ []), 135) m13 = some ([] ++ (fCells ch ++ []), 135) := hput_same ..
  have e7m : Ext hm5 (hput hm5 m13 ([] ++ (fCells ch ++ []), 135)) := Ext.new hmn13
  refine LoadX.of _ (ldV_caller (join_hm hd7 hb7) hok.self hok.caller rfl) ?_; conv => whnf
  refine Ob.mk ⟨by rw [List.size_toArray, bcells_length, hok.caller]; rfl, ones_bcells _⟩ ?_; conv => whnf
  refine StoreX.jm hd7 h137 (by rw [List.toList_toArray, bcells_length, hok.caller, List.nil_append, List.append_nil, chlen]; exact Nat.le_of_ble_eq_true rfl) ?_; conv => whnf
  have hd7 := hd7.put (y := ([] ++ (fCells { ch with caller := f.caller } ++ []), 135)) h137
  erw [fCells_caller chok.self chok.caller hok.caller]
  rw [hput_hput] at hd7 ⊢
  have hch0 := hch
  obtain ⟨chN, hchN⟩ : ∃ q : YF, q = { ch with caller := f.caller } := ⟨_, rfl⟩
  rw [← hchN] at hd7 ⊢
  have chokN : chN.ok hi6 := by rw [hchN]; exact ⟨chok.pc, chok.gas, chok.val, chok.oo, chok.ol, chok.st, chok.stE, chok.stR, chok.code, chok.input, chok.self, hok.caller, chok.saved⟩
  rw [hch0] at hchN
  obtain ⟨ch, hche⟩ : ∃ q : YF, q = chN := ⟨_, rfl⟩
  rw [← hche] at hchN chokN hd7 ⊢
  have hch := hchN
  have chok := chokN
  have chlen := fCells_len chok.self chok.caller
  have hb7 : hput hm5 m13 ([] ++ (fCells ch ++ []), 135) fb = some (preC base ++ (fCells f ++ pad), tf) := hput_old hb5 hmn13
  have h137 : hput hm5 m13 ([] ++ (fCells ch ++ []), 135) m13 = some ([] ++ (fCells ch ++ []), 135) := hput_same ..
  have e7m : Ext hm5 (hput hm5 m13 ([] ++ (fCells ch ++ []), 135)) := Ext.new hmn13
  have hok6 := hok5.ext e6
  repeat (first | (refine CondX.tt ?_; conv => whnf) | (refine CondX.ff ?_; conv => whnf))
  refine LoadX.mid (join_hm hd7 hb7) 4 (by decide) rfl (v := sl f.gasS) rfl ?_; conv => whnf
  have hg0 := hok.gas.val
  have a00 := (argP_ok hok.stE 0).val
  refine CallX.fj hd7 (ypSentGas_ok hok6.gas (((argP_ok hok.stE 0).ext e45).ext e6) hgr fun bs ns cs hi8 e8 g8 hd8 => ?_); conv => whnf
  have hsent : min (argI f.st 0) (f.gas - f.gas / 64) ≤ f.gas ∧ 0 ≤ min (argI f.st 0) (f.gas - f.gas / 64) := by have h1 : (argP f.st 0).2 = argI f.st 0 := rfl; omega
  have g8 : NtS hi8 (bs, ns, cs) (min (argI f.st 0) (f.gas - f.gas / 64)) := g8
  generalize hsn : min (argI f.st 0) (f.gas - f.gas / 64) = sent at *
  refine LoadX.mid (join_hm hd8 hb7) 4 (by decide) rfl (v := sl f.gasS) rfl ?_; conv => whnf
  refine CallX.fj hd8 (less_ok (hok6.gas.ext e8) g8 fun bl nl cl hi9 e9 g9 hd9 => ?_); conv => whnf
  have hless : lessI f.gas sent = f.gas - sent := by unfold lessI; rw [if_neg (by omega)]
  rw [hless] at g9
  have g89 := g8.ext e9
  have hok9 := (hok6.ext e8).ext e9
  obtain ⟨f1, hf1⟩ : ∃ f1 : YF, f1 = { f with gasS := (bl, nl, cl), gas := f.gas - sent } := ⟨_, rfl⟩
  have hf1ok : f1.ok hi9 := by rw [hf1]; exact ⟨hok9.pc, g9, hok9.val, hok9.oo, hok9.ol, hok9.st, hok9.stE, hok9.stR, hok9.code, hok9.input, hok9.self, hok9.caller, hok9.saved⟩
  refine StoreX.mid (f := f) hd9 hb7 4 (by decide) rfl f1 (by rw [hf1]; rfl) fun hd10 => ?_; conv => whnf
  refine StoreX.mid (pre := []) (post := []) (f := ch) hd10 (by rw [hput_ne hfb13.symm]; exact h137) 4 (by decide) rfl { ch with gasS := (bs, ns, cs), gas := sent } rfl fun hd11 => ?_; conv => whnf
  rw [hput_comm hfb13.symm, hput_hput, hput_comm hfb13] at hd11 ⊢
  have eAll : Ext hi hi9 := ((e45.trans e6).trans e8).trans e9
  have S9 := (S5.ext ((e6.trans e8).trans e9) (hd9.mono e7m)).setTop (f' := f1) hfb5 hb5 hf1ok (by rw [hf1])
  have hchok9 := (chok.ext e8).ext e9
  obtain ⟨ch1, hch1⟩ : ∃ ch1 : YF, ch1 = { ch with gasS := (bs, ns, cs), gas := sent } := ⟨_, rfl⟩
  have hch1ok : ch1.ok hi9 := by rw [hch1]; exact ⟨hchok9.pc, g89, hchok9.val, hchok9.oo, hchok9.ol, hchok9.st, hchok9.stE, hchok9.stR, hchok9.code, hchok9.input, hchok9.self, hchok9.caller, hchok9.saved⟩
  rw [← hch1] at hd11 ⊢
  have VOK9 : NtS hi9 nilS 0 := Nt_nil _
  refine isZero_ok (Nt_nil _) ?_; conv => whnf
  repeat (first | (refine CondX.tt ?_; conv => whnf) | (refine CondX.ff ?_; conv => whnf))
  have hvz : True := trivial
  have hm13n : hput hm5 fb (preC base ++ (fCells f1 ++ pad), tf) m13 = none := by rw [hput_ne hfb13.symm]; exact hmn13
  have hbN : hput (hput hm5 fb (preC base ++ (fCells f1 ++ pad), tf)) m13 ([] ++ (fCells ch1 ++ []), 135) fb = some (preC base ++ (fCells f1 ++ pad), tf) := by rw [hput_ne hfb13]; exact hput_same ..
  have h13N : hput (hput hm5 fb (preC base ++ (fCells f1 ++ pad), tf)) m13 ([] ++ (fCells ch1 ++ []), 135) m13 = some ([] ++ (fCells ch1 ++ []), 135) := hput_same ..
  have hcN : hput (hput hm5 fb (preC base ++ (fCells f1 ++ pad), tf)) m13 ([] ++ (fCells ch1 ++ []), 135) c = some (sCells s5, tc) := by rw [hput_ne hc13, hput_ne hcf]; exact S5.chain
  have hfrl : s5.frS.2.1 = base.length + 1 := by rw [hs5]; exact hn1
  refine DrawX.go T_ok hM Hval.func133 (tb := dr133) rfl (by kernel_rfl) ?_; conv => whnf
  refine LoadX.blk (join_hm hd11 hcN) (sl s5.frS) rfl ?_; conv => whnf
  have edep : IntKind.i64.wrap ((s5.frS.2.1 : Int) - 1) = ((base.length : Nat) : Int) := by rw [wrap_i64 (by omega) (by omega)]; omega
  rw [edep]
  refine CondX.decI (fun hdp => ?_) (fun hdp => ?_) <;> conv => whnf
  · repeat (first | (refine CondX.tt ?_; conv => whnf) | (refine CondX.ff ?_; conv => whnf))
    have hfail : 6 ≤ (base.map absF).length ∨ ((absS s (base ++ [(f, m)]) ret left).w.acct (absF (f, m)).self).bal < (if (244 : Int) = 241 ∨ (244 : Int) = 242 then argA (absF (f, m)).st 2 else 0) := .inl (by simp; omega)
    have hcg : sent = sent + (if (if (244 : Int) = 241 ∨ (244 : Int) = 242 then argI f.st 2 else 0) = 0 then 0 else 2300) := by first | simp [hvz] | simp
    refine DrawX.go T_ok hM Hval.func133 (tb := dr133) rfl (by kernel_rfl) ?_; conv => whnf
    refine LoadX.mid (join_hm hd11 hbN) 4 (by decide) rfl (v := sl f1.gasS) rfl ?_; conv => whnf
    refine LoadX.mid (pre := []) (post := []) (f := ch1) (join_hm hd11 h13N) 4 (by decide) rfl (v := sl (bs, ns, cs)) (by first | rfl | (rw [hch1]; rfl) | (rw [hch2]; rfl)) ?_; conv => whnf
    refine CallX.fj hd11 (addN (hf1ok.ext (Ext.refl hi9)).gas g89 (by rw [hf1]; show f.gas - sent + (sent) < big; omega) fun ba na ca hi12 e12 g12 hd12 => ?_); conv => whnf
    refine StoreX.mid (f := f1) hd12 hbN 4 (by decide) rfl { f1 with gasS := (ba, na, ca), gas := f1.gas + (sent) } rfl fun hd13' => ?_; conv => whnf
    have ho12 := (hf1ok.ext (Ext.refl hi9)).ext e12
    have hf1st : f1.st = f.st := by rw [hf1]
    have hf1pc : f1.pc = f.pc := by rw [hf1]
    refine answer_ok (sw := nilS) (w := 0) (k := 6) (f := { f1 with gasS := (ba, na, ca), gas := f1.gas + (sent) }) hd13' (hput_same ..) ⟨ho12.pc, g12, ho12.val, ho12.oo, ho12.ol, ho12.st, ho12.stE, ho12.stR, ho12.code, ho12.input, ho12.self, ho12.caller, ho12.saved⟩ (Nt_nil _) (by show 6 ≤ f1.st.length; rw [hf1st]; exact hst) (by show f1.st.length - 6 + 1 ≤ 64; have := hok.stR; have : 6 ≤ f.st.length := hst; rw [hf1st]; omega) (by show f1.pc + 1 < big; rw [hf1pc]; exact hpc) fun hi14 f3 e14 hf3 heq3 hd14 => ?_; conv => whnf
    obtain ⟨s3, p3, hf3e⟩ := heq3
    rw [hput_hput] at hd14 ⊢
    have S14 := (((S9.more (Ext.new hm13n) (Dj.back (Ext.refl hi9) hd11)).ext (((Ext.refl hi9).trans e12).trans e14) ((hd14.unput hbN))).setTop (f' := f3) hfb5 hbN hf3 (by rw [hf3e]))
    refine RetX.same (hk hi14 _ s5 (base ++ [(f3, m)]) ret left (((eAll.trans (Ext.refl hi9)).trans e12).trans e14) S14 ⟨?_, fun q hq => ?_⟩ ?_ (by rw [hs5]; exact ⟨rfl, rfl, rfl, rfl, rfl, rfl, rfl, rfl⟩))
    · rw [hs5]; exact hszW.mono (Nat.le_succ _)
    · rcases List.mem_append.1 hq with h5 | h5
      · exact (hN.saved q (by simp [h5])).mono (by omega)
      · rw [List.mem_singleton.1 h5, hf3e]
        show f1.saved.sz (N + 2)
        rw [hf1]; exact (hN.saved (f, m) (by simp)).mono (by omega)
    · unfold callA
      rw [if_pos hfail, hs5, hf3e, hf1]
      unfold absS
      dsimp only
      rw [hW5]
      simp [absF, hAA, hsn, callT, hvz]
  · repeat (first | (refine CondX.tt ?_; conv => whnf) | (refine CondX.ff ?_; conv => whnf))
    have hselfN := ldV_self (join_hm hd11 hbN) hf1ok.self hf1ok.caller (o := (preC base).length + 12) rfl
    have hf1s : f1.self = f.self := by rw [hf1]
    refine LoadX.of _ hselfN ?_; conv => whnf
    repeat (first | (refine CondX.tt ?_; conv => whnf) | (refine CondX.ff ?_; conv => whnf))
    rw [hf1s]
    refine account_ok (xs := s5.w.acc) (join_hm hd11 hcN) (show (sCells s5)[0]? = some (sl s5.w.sA) from rfl) (S9.now.acc.arr.ext (Ext.jl _ _)) (fun x hx => (S9.now.acc.each x hx).addr) hok.self (by have := hwr.acc; rw [hs5]; show s.w.sA.2.1 < _; omega) ?_; conv => whnf
    have hx := getA_ok S9.now.acc.each hok.self
    have hbal5 : (getA s5.w.acc f.self).bal = 0 := by rw [hs5w]; exact hbal
    generalize getA s5.w.acc f.self = x at *
    repeat (first | (refine CondX.tt ?_; conv => whnf) | (refine CondX.ff ?_; conv => whnf))
    erw [acCells_get hx.addr 1]; conv => whnf
    repeat (first | (refine CondX.tt ?_; conv => whnf) | (refine CondX.ff ?_; conv => whnf))
    refine cmpN (hx.bal.ext (Ext.jl _ _)) (VOK9.ext (Ext.jl _ _)) ?_; conv => whnf
    repeat (first | (refine CondX.tt ?_; conv => whnf) | (refine CondX.ff ?_; conv => whnf))
    rw [cmp_lt, hbal5]
    first | refine CondX.ff ?_ | refine CondX.dF (by omega) ?_
    conv => whnf
    have hmN : MemB (hput (hput hm5 fb (preC base ++ (fCells f1 ++ pad), tf)) m13 ([] ++ (fCells ch1 ++ []), 135)) f1.memS m := (S9.more (Ext.new hm13n) hd11).memT
    have aok9 : ∀ i, NtS hi9 (argP f1.st i).1 (argI f.st i) := fun i => by
      have h1 : f1.st = f.st := by rw [hf1]
      rw [h1]; exact (argP_ok hok.stE i).ext eAll
    have hsr1 : f1.stS.2.1 < 2 ^ 30 := by rw [hf1]; exact hsr
    refine arg_ok (join_hm hd11 hbN) (hf1ok.st.ext (Ext.jl _ _)) hsr1 (6 - 4) (by decide) ?_; conv => whnf
    refine arg_ok (join_hm hd11 hbN) (hf1ok.st.ext (Ext.jl _ _)) hsr1 (6 - 4 + 1) (by decide) ?_; conv => whnf
    refine read_ok hd11 hbN (hmN.byt hd11) (aok9 (6 - 4)) (aok9 (6 - 4 + 1)) hlen fun sI hiB eB hdB gB => ?_; conv => whnf
    refine StoreX.mid (pre := []) (post := []) (f := ch1) hdB h13N 11 (by decide) rfl { ch1 with inS := sI, input := cutN m (argI f.st (6 - 4)).toNat (argI f.st (6 - 4 + 1)).toNat } rfl fun hdC => ?_; conv => whnf
    rw [hput_hput] at hdC ⊢
    refine LoadX.arr (l := addrI (argI f.st 1)) (t := 31) (join_l (eB _ _ (e9 _ _ (e8 _ _ h46)))) tlen ?_; conv => whnf
    refine natvAt_ok tlen ?_; conv => whnf
    refine StoreX.mid (pre := []) (post := []) (f := { ch1 with inS := sI, input := cutN m (argI f.st (6 - 4)).toNat (argI f.st (6 - 4 + 1)).toNat }) hdC (hput_same ..) 1 (by decide) rfl { ch1 with inS := sI, input := cutN m (argI f.st (6 - 4)).toNat (argI f.st (6 - 4 + 1)).toNat, natv := natK (addrI (argI f.st 1)) } rfl fun hdD => ?_; conv => whnf
    rw [hput_hput] at hdD ⊢
    refine LoadX.mid (pre := []) (post := []) (f := { ch1 with inS := sI, input := cutN m (argI f.st (6 - 4)).toNat (argI f.st (6 - 4 + 1)).toNat, natv := natK (addrI (argI f.st 1)) }) (join_hm hdD (hput_same ..)) 1 (by decide) rfl (v := .int .u8 (natK (addrI (argI f.st 1)))) rfl ?_; conv => whnf
    have hgo : ¬ (6 ≤ (base.map absF).length ∨ ((absS s (base ++ [(f, m)]) ret left).w.acct (absF (f, m)).self).bal < (if (244 : Int) = 241 ∨ (244 : Int) = 242 then argA (absF (f, m)).st 2 else 0)) := by
      show ¬ (6 ≤ (base.map absF).length ∨ (getA s.w.acc f.self).bal < (if (244 : Int) = 241 ∨ (244 : Int) = 242 then argA (f.st.map Prod.snd) 2 else 0))
      rw [hbal, hAA]
      simp
      omega
    have h46B := eB _ _ (e9 _ _ (e8 _ _ h46))
    have hch1B := hch1ok.ext eB
    refine CondX.eqI (fun hnat => ?_) (fun hnat => ?_) <;> conv => whnf
    · have hcD : hput (hput hm5 fb (preC base ++ (fCells f1 ++ pad), tf)) m13 ([] ++ (fCells { ch1 with inS := sI, input := cutN m (argI f.st (6 - 4)).toNat (argI f.st (6 - 4 + 1)).toNat, natv := natK (addrI (argI f.st 1)) } ++ []), 135) c = some (sCells s5, tc) := by rw [hput_ne hc13, hput_ne hcf]; exact S5.chain
      refine DrawX.go T_ok hM Hval.func133 (tb := dr133) rfl (by kernel_rfl) ?_; conv => whnf
      refine LoadX.arr (l := addrI (argI f.st 1)) (t := 31) (join_l h46B) tlen ?_; conv => whnf
      have hac9 := S9.now.acc.ext eB
      refine account_ok (xs := s5.w.acc) (join_hm hdD hcD) (show (sCells s5)[0]? = some (sl s5.w.sA) from rfl) (hac9.arr.ext (Ext.jl _ _)) (fun x hx => (hac9.each x hx).addr) tlen (by have := hwr.acc; rw [hs5]; show s.w.sA.2.1 < _; omega) ?_; conv => whnf
      have hx := getA_ok hac9.each tlen
      have hxc : (getA s5.w.acc (addrI (argI f.st 1))).code = (getA s.w.acc (addrI (argI f.st 1))).code := by rw [hs5w]
      generalize getA s5.w.acc (addrI (argI f.st 1)) = x at *
      erw [acCells_get hx.addr 2]; conv => whnf
      refine CallX.fj hdD (bytesOf_any hx.code fun bC cC hiF eF gF hdF => ?_); conv => whnf
      refine StoreX.mid (pre := []) (post := []) (f := { ch1 with inS := sI, input := cutN m (argI f.st (6 - 4)).toNat (argI f.st (6 - 4 + 1)).toNat, natv := natK (addrI (argI f.st 1)) }) hdF (hput_same ..) 10 (by decide) rfl { ch1 with inS := sI, input := cutN m (argI f.st (6 - 4)).toNat (argI f.st (6 - 4 + 1)).toNat, natv := natK (addrI (argI f.st 1)), codeS := (bC, x.cs.2.1, cC), code := x.code } rfl fun hdG => ?_; conv => whnf
      rw [hput_hput] at hdG ⊢
      have hchX : ({ ch1 with inS := sI, input := cutN m (argI f.st (6 - 4)).toNat (argI f.st (6 - 4 + 1)).toNat, natv := natK (addrI (argI f.st 1)), codeS := (bC, x.cs.2.1, cC), code := x.code } : YF).ok hiF := by
        have q := hch1B.ext eF
        exact ⟨q.pc, q.gas, q.val, q.oo, q.ol, q.st, q.stE, q.stR, gF, gB.ext eF, q.self, q.caller, q.saved⟩
      have hbX : hput (hput hm5 fb (preC base ++ (fCells f1 ++ pad), tf)) m13 ([] ++ (fCells { ch1 with inS := sI, input := cutN m (argI f.st (6 - 4)).toNat (argI f.st (6 - 4 + 1)).toNat, natv := natK (addrI (argI f.st 1)), codeS := (bC, x.cs.2.1, cC), code := x.code } ++ []), 135) fb = some (preC base ++ (fCells f1 ++ pad), tf) := by rw [hput_ne hfb13]; exact hput_same ..
      have hf1X := hf1ok.ext (eB.trans eF)
      have aokX : ∀ i, NtS hiF (argP f1.st i).1 (argI f.st i) := fun i => (aok9 i).ext (eB.trans eF)
      refine arg_ok (join_hm hdG hbX) (hf1X.st.ext (Ext.jl _ _)) hsr1 (6 - 4 + 2) (by decide) ?_; conv => whnf
      refine arg_ok (join_hm hdG hbX) (hf1X.st.ext (Ext.jl _ _)) hsr1 (6 - 4 + 3) (by decide) ?_; conv => whnf
      refine wait_ok (k := 6) hdG hbX hf1X (aokX (6 - 4 + 2)) (aokX (6 - 4 + 3)) (by have h1 : f1.st = f.st := (by rw [hf1]); rw [h1]; exact hst) fun hiE f4 eE hf4 heq4 hdE => ?_; conv => whnf
      obtain ⟨s4, s41, s42, hf4e⟩ := heq4
      have hchlen := fCells_len hchX.self hchX.caller
      have h13E : hput (hput (hput hm5 fb (preC base ++ (fCells f1 ++ pad), tf)) m13 ([] ++ (fCells { ch1 with inS := sI, input := cutN m (argI f.st (6 - 4)).toNat (argI f.st (6 - 4 + 1)).toNat, natv := natK (addrI (argI f.st 1)), codeS := (bC, x.cs.2.1, cC), code := x.code } ++ []), 135)) fb (preC base ++ (fCells f4 ++ pad), tf) m13 = some ([] ++ (fCells { ch1 with inS := sI, input := cutN m (argI f.st (6 - 4)).toNat (argI f.st (6 - 4 + 1)).toNat, natv := natK (addrI (argI f.st 1)), codeS := (bC, x.cs.2.1, cC), code := x.code } ++ []), 135) := by rw [hput_ne hfb13.symm]; exact hput_same ..
      refine LoadX.all (c := [] ++ (fCells { ch1 with inS := sI, input := cutN m (argI f.st (6 - 4)).toNat (argI f.st (6 - 4 + 1)).toNat, natv := natK (addrI (argI f.st 1)), codeS := (bC, x.cs.2.1, cC), code := x.code } ++ [])) (join_hm hdE h13E) (by rw [List.nil_append, List.append_nil, hchlen]; rfl) ?_; conv => whnf
      rw [List.nil_append, List.append_nil]
      rw [List.nil_append, List.append_nil] at hdE
      have SE := (((S9.more (Ext.new (x := (fCells { ch1 with inS := sI, input := cutN m (argI f.st (6 - 4)).toNat (argI f.st (6 - 4 + 1)).toNat, natv := natK (addrI (argI f.st 1)), codeS := (bC, x.cs.2.1, cC), code := x.code }, 135)) hm13n) (by have := Dj.back (eB.trans eF) hdG; rwa [List.nil_append, List.append_nil] at this)).ext ((eB.trans eF).trans eE) (hdE.unput (by rw [hput_ne hfb13]; exact hput_same ..))).setTop (f' := f4) hfb5 (by rw [hput_ne hfb13]; exact hput_same ..) hf4 (by rw [hf4e]))
      have hNE : StN (N + 1) s5 (base ++ [(f4, m)]) := ⟨by rw [hs5]; exact hszW, fun q hq => by
        rcases List.mem_append.1 hq with h5 | h5
        · exact (hN.saved q (by simp [h5])).mono (Nat.le_succ N)
        · rw [List.mem_singleton.1 h5, hf4e]
          show f1.saved.sz (N + 1)
          rw [hf1]; exact (hN.saved (f, m) (by simp)).mono (Nat.le_succ N)⟩
      refine enterSt_ok (f := { ch1 with inS := sI, input := cutN m (argI f.st (6 - 4)).toNat (argI f.st (6 - 4 + 1)).toNat, natv := natK (addrI (argI f.st 1)), codeS := (bC, x.cs.2.1, cC), code := x.code }) SE hNE (by omega) (by simp; omega) (hchX.ext eE) (by show ch1.val = 0; rw [hch1, hch]; first | exact hvz | exact hval | rfl) (by show ch1.memS = nilS; rw [hch1, hch]; rfl) ?_
      intro hi' hm' s' frs' ret' left' q1 q2 q3 q4 q5
      conv => whnf
      refine RetX.same (hk hi' hm' s' frs' ret' left' (((eAll.trans (eB.trans eF)).trans eE).trans q1) q2 q3 ?_ (fixS.trans (by rw [hs5]; exact ⟨rfl, rfl, rfl, rfl, rfl, rfl, rfl, rfl⟩) q5))
      rw [q4]
      unfold callA
      rw [if_neg hgo, hs5, hf4e, hf1]
      unfold absS
      dsimp only
      rw [hW5]
      simp [absF, hAA, hsn, callT, hvz, enterA, hch1, hch, chF, callK, hxc, hnat]
      try rfl
    · have hchX : ({ ch1 with inS := sI, input := cutN m (argI f.st (6 - 4)).toNat (argI f.st (6 - 4 + 1)).toNat, natv := natK (addrI (argI f.st 1)) } : YF).ok hiB := ⟨hch1B.pc, hch1B.gas, hch1B.val, hch1B.oo, hch1B.ol, hch1B.st, hch1B.stE, hch1B.stR, hch1B.code, gB, hch1B.self, hch1B.caller, hch1B.saved⟩
      have hbX : hput (hput hm5 fb (preC base ++ (fCells f1 ++ pad), tf)) m13 ([] ++ (fCells { ch1 with inS := sI, input := cutN m (argI f.st (6 - 4)).toNat (argI f.st (6 - 4 + 1)).toNat, natv := natK (addrI (argI f.st 1)) } ++ []), 135) fb = some (preC base ++ (fCells f1 ++ pad), tf) := by rw [hput_ne hfb13]; exact hput_same ..
      have hf1X := hf1ok.ext eB
      have aokX : ∀ i, NtS hiB (argP f1.st i).1 (argI f.st i) := fun i => (aok9 i).ext eB
      refine arg_ok (join_hm hdD hbX) (hf1X.st.ext (Ext.jl _ _)) hsr1 (6 - 4 + 2) (by decide) ?_; conv => whnf
      refine arg_ok (join_hm hdD hbX) (hf1X.st.ext (Ext.jl _ _)) hsr1 (6 - 4 + 3) (by decide) ?_; conv => whnf
      refine wait_ok (k := 6) hdD hbX hf1X (aokX (6 - 4 + 2)) (aokX (6 - 4 + 3)) (by have h1 : f1.st = f.st := (by rw [hf1]); rw [h1]; exact hst) fun hiE f4 eE hf4 heq4 hdE => ?_; conv => whnf
      obtain ⟨s4, s41, s42, hf4e⟩ := heq4
      have hchlen := fCells_len hchX.self hchX.caller
      have h13E : hput (hput (hput hm5 fb (preC base ++ (fCells f1 ++ pad), tf)) m13 ([] ++ (fCells { ch1 with inS := sI, input := cutN m (argI f.st (6 - 4)).toNat (argI f.st (6 - 4 + 1)).toNat, natv := natK (addrI (argI f.st 1)) } ++ []), 135)) fb (preC base ++ (fCells f4 ++ pad), tf) m13 = some ([] ++ (fCells { ch1 with inS := sI, input := cutN m (argI f.st (6 - 4)).toNat (argI f.st (6 - 4 + 1)).toNat, natv := natK (addrI (argI f.st 1)) } ++ []), 135) := by rw [hput_ne hfb13.symm]; exact hput_same ..
      refine LoadX.all (c := [] ++ (fCells { ch1 with inS := sI, input := cutN m (argI f.st (6 - 4)).toNat (argI f.st (6 - 4 + 1)).toNat, natv := natK (addrI (argI f.st 1)) } ++ [])) (join_hm hdE h13E) (by rw [List.nil_append, List.append_nil, hchlen]; rfl) ?_; conv => whnf
      rw [List.nil_append, List.append_nil]
      rw [List.nil_append, List.append_nil] at hdE
      have SE := (((S9.more (Ext.new (x := (fCells { ch1 with inS := sI, input := cutN m (argI f.st (6 - 4)).toNat (argI f.st (6 - 4 + 1)).toNat, natv := natK (addrI (argI f.st 1)) }, 135)) hm13n) (by have := Dj.back eB hdD; rwa [List.nil_append, List.append_nil] at this)).ext (eB.trans eE) (hdE.unput (by rw [hput_ne hfb13]; exact hput_same ..))).setTop (f' := f4) hfb5 (by rw [hput_ne hfb13]; exact hput_same ..) hf4 (by rw [hf4e]))
      have hNE : StN (N + 1) s5 (base ++ [(f4, m)]) := ⟨by rw [hs5]; exact hszW, fun q hq => by
        rcases List.mem_append.1 hq with h5 | h5
        · exact (hN.saved q (by simp [h5])).mono (Nat.le_succ N)
        · rw [List.mem_singleton.1 h5, hf4e]
          show f1.saved.sz (N + 1)
          rw [hf1]; exact (hN.saved (f, m) (by simp)).mono (Nat.le_succ N)⟩
      refine enterSt_ok (f := { ch1 with inS := sI, input := cutN m (argI f.st (6 - 4)).toNat (argI f.st (6 - 4 + 1)).toNat, natv := natK (addrI (argI f.st 1)) }) SE hNE (by omega) (by simp; omega) (hchX.ext eE) (by show ch1.val = 0; rw [hch1, hch]; first | exact hvz | exact hval | rfl) (by show ch1.memS = nilS; rw [hch1, hch]; rfl) ?_
      intro hi' hm' s' frs' ret' left' q1 q2 q3 q4 q5
      conv => whnf
      refine RetX.same (hk hi' hm' s' frs' ret' left' (((eAll.trans eB).trans eE).trans q1) q2 q3 ?_ (fixS.trans (by rw [hs5]; exact ⟨rfl, rfl, rfl, rfl, rfl, rfl, rfl, rfl⟩) q5))
      rw [q4]
      unfold callA
      rw [if_neg hgo, hs5, hf4e, hf1]
      unfold absS
      dsimp only
      rw [hW5]
      simp [absF, hAA, hsn, callT, hvz, enterA, hch1, hch, chF, callK, hnat, hnat]
      try rfl
set_option maxRecDepth 100000 in
set_option maxHeartbeats 4000000 in
theorem call250_ok (S : StOK hi hm c tc s (base ++ [(f, m)]) ret left) (hN : StN N s (base ++ [(f, m)])) (hN30 : N + 3 < 2 ^ 30) (hbn : base.length ≤ 90) (hgr2 : f.gas + 2300 < big) {fb : Nat} (hfb : at0 s.frS fb) (hbal : (getA s.w.acc f.self).bal = 0) (hval : f.val = 0) (hst : callT 250 ≤ f.st.length) (hlen : argI f.st 3 < 2 ^ 40) (hpc : f.pc + 1 < big)
    (hk : StK hi c tc s (N + 2) (callA (absS s (base ++ [(f, m)]) ret left) (base.map absF) (absF (f, m)) 250) K) :
    CallX Hval.prog 133 [.pointer (some ⟨c, 0, none⟩), .pointer (some ⟨fb, (preC base).length, none⟩), .int .u8 250] (join hi hm) K := by
  refine CallX.of_xf T_ok Hval.func133 rfl (by kernel_rfl) (Nat.le_of_ble_eq_true rfl) ?_; conv => whnf
  have hgr : f.gas < big := by omega
  obtain ⟨fb', pad, tf, hfb', hb, hn1, hn2, hn3⟩ := S.top
  have : some (⟨fb', 0, none⟩ : Addr) = some ⟨fb, 0, none⟩ := hfb'.symm.trans hfb
  cases this
  have hok := S.okT
  have hd := S.dj
  have hc := S.chain
  have hcf : c ≠ fb := S.frC fb hfb
  have hwr := hN.now.room S.now (by omega)
  have hsr : f.stS.2.1 < 2 ^ 30 := by have := hok.n; have := hok.stR; omega
  have hAA : ∀ i, argA (f.st.map Prod.snd) i = argI f.st i := fun i => (argI_abs f.st i).symm
  refine arity_ok (o := 250) (by omega) (by omega) ?_
  rw [show arI 250 = (6, 1, true) from rfl]
  conv => whnf
  refine arg_ok (join_hm hd hb) (hok.st.ext (Ext.jl _ _)) hsr 0 (by decide) ?_; conv => whnf
  refine arg_ok (join_hm hd hb) (hok.st.ext (Ext.jl _ _)) hsr 1 (by decide) ?_; conv => whnf
  refine addrOf_ok ((argP_ok hok.stE 1).ext (Ext.jl _ _)) ?_; conv => whnf
  rw [show addrI (argP f.st 1).2 = addrI (argI f.st 1) from rfl]
  have tlen := addrI_length (argI f.st 1)
  refine BoxX.j hd fun m4 hin4 hmn4 hd4' he4' => ?_; conv => whnf
  refine Ob.mk ⟨by rw [List.size_toArray, bcells_length, tlen]; rfl, ones_bcells _⟩ ?_; conv => whnf
  refine StoreX.j (by rw [List.toList_toArray, bcells_length, tlen]; decide) ?_; conv => whnf
  rw [setSeg_all (by rw [List.toList_toArray, bcells_length, tlen]; rfl)]
  have hd4 : Dj (hput hi m4 (bcells (addrI (argI f.st 1)), 31)) hm := hd4'.hp
  have e4 : Ext hi (hput hi m4 (bcells (addrI (argI f.st 1)), 31)) := Ext.new hin4
  have h4 : hput hi m4 (bcells (addrI (argI f.st 1)), 31) m4 = some (bcells (addrI (argI f.st 1)), 31) := hput_same ..
  clear hd4' he4'
  generalize hput hi m4 (bcells (addrI (argI f.st 1)), 31) = hiA at *
  have SA := S.ext e4 hd4
  refine DrawX.go T_ok hM Hval.func133 (tb := dr133) rfl (by kernel_rfl) ?_; conv => whnf
  refine LoadX.arr (l := addrI (argI f.st 1)) (t := 31) (join_l h4) tlen ?_; conv => whnf
  refine warm_ok (o := 0) hd4 hc (show (sCells s)[0 + 1]? = some (sl s.w.sWA) from rfl) SA.now.wa tlen hwr.wa fun hi5 sWA az5 e5 hd5 gWA hWA hWl => ?_; conv => whnf
  have hset : setSeg (sCells s) (0 + 1) [sl sWA] = sCells { s with w := { s.w with sWA := sWA, wa := az5 } } := (sCells_set (by decide)).trans rfl
  rw [hset] at hd5 ⊢
  have e45 := e4.trans e5
  have S5 : StOK hi5 (hput hm c (sCells { s with w := { s.w with sWA := sWA, wa := az5 } }, tc)) c tc { s with w := { s.w with sWA := sWA, wa := az5 } } (base ++ [(f, m)]) ret left := by
    have b := (S.now.up e45)
    exact (S.ext e45 (hd5.unput hc)).setW rfl rfl fun hl' hh => ⟨b.acc, gWA, b.ws, b.ref, hh, b.logsE, b.temps, b.made, b.gone⟩
  have hb5 : hput hm c (sCells { s with w := { s.w with sWA := sWA, wa := az5 } }, tc) fb = some (preC base ++ (fCells f ++ pad), tf) := by rw [hput_ne hcf.symm]; exact hb
  have h45 := e5 _ _ h4
  have hszW : ({ s.w with sWA := sWA, wa := az5 } : YW).sz (N + 1) := by
    have a := hN.now.mono (Nat.le_succ N)
    exact ⟨a.acc, a.each, Nat.le_trans hWl (Nat.succ_le_succ hN.now.wa), a.ws, a.logs, a.temps, a.made, a.gone⟩
  have hW5 : absW { s.w with sWA := sWA, wa := az5 } = warmW (absW s.w) (addrI (argI f.st 1)) := by
    unfold absW warmW
    congr 1
    funext b
    exact mem_with hWA b
  have hok5 := hok.ext e45
  obtain ⟨s5, hs5⟩ : ∃ s5 : YS, s5 = { s with w := { s.w with sWA := sWA, wa := az5 } } := ⟨_, rfl⟩
  have hs5w : s5.w.acc = s.w.acc := by rw [hs5]
  rw [← hs5] at S5 hb5 hd5 ⊢
  obtain ⟨hm5, hhm5⟩ : ∃ h : Hp, h = hput hm c (sCells s5, tc) := ⟨_, rfl⟩
  rw [← hhm5] at S5 hb5 hd5 ⊢
  have hfb5 : at0 s5.frS fb := by rw [hs5]; exact hfb
  repeat (first | (refine CondX.tt ?_; conv => whnf) | (refine CondX.ff ?_; conv => whnf))
  have hvok : NtS hi nilS 0 := Nt_nil _
  have hself5 := ldV_self (join_hm hd5 hb5) hok.self hok.caller (o := (preC base).length + 12) rfl
  refine DrawX.go T_ok hM Hval.func133 (tb := dr133) rfl (by kernel_rfl) ?_; conv => whnf
  refine LoadX.mid (join_hm hd5 hb5) 2 (by decide) rfl (v := .bool f.static) rfl ?_; conv => whnf
  refine LoadX.arr (l := addrI (argI f.st 1)) (t := 31) (join_l h45) tlen ?_; conv => whnf
  refine LoadX.of _ hself5 ?_; conv => whnf
  refine CallX.fj hd5 (normN (hvok.ext e45) fun bv nv cv hi6 e6 g6 hd6 => ?_); conv => whnf
  have hself6 := ldV_self (join_hm hd6 hb5) hok.self hok.caller (o := (preC base).length + 12) rfl
  have h46 := e6 _ _ h45
  have hld4 : ldV true 20 (join hi6 hm5) m4 0 = some (.agg (bcells (addrI (argI f.st 1))).toArray) := by
    obtain ⟨v, q1, q2⟩ := (LoadX.arr (KK := fun v => v = .agg (bcells (addrI (argI f.st 1))).toArray) (join_l h46 (hF := hm5)) tlen rfl).run
    rw [q1, q2]
  have hldS := ldV_mid (sz := 1) (join_hm hd6 hb5) 2 (by decide) rfl (v := .bool f.static) rfl
  refine Ob.mk (by first | exact hself6 | exact hld4 | exact hldS) ?_; conv => whnf
  refine Ob.mk (by first | exact hself6 | exact hld4 | exact hldS) ?_; conv => whnf
  refine Ob.mk (by first | exact hself6 | exact hld4 | exact hldS) ?_; conv => whnf
  have alenT : (bcells (addrI (argI f.st 1))).length = 20 := by rw [bcells_length, tlen]
  have alenS : (bcells f.self).length = 20 := by rw [bcells_length, hok.self]
  erw [fillL_one (off := 0) (v := .int .u8 2) rfl rfl (by decide), fillL_one (off := 2) (v := .bool f.static) rfl rfl (Nat.le_of_ble_eq_true rfl), fillL_one (off := 5) (v := .slice bv nv cv) rfl rfl (Nat.le_of_ble_eq_true rfl), fillL_agg (off := 12) (n := 20) rfl alenT (Nat.le_of_ble_eq_true rfl)]
  have hfill : setSeg (setSeg (setSeg (setSeg (setSeg z135 0 [Value.int IntKind.u8 2]) 2 [Value.bool f.static]) 5 [Value.slice bv nv cv]) 12 (bcells (addrI (argI f.st 1)))) 32 (bcells f.self) = fCells (chF 2 f.static (bv, nv, cv) (0 : Int) (addrI (argI f.st 1)) f.self) :=
    frame_fill (H := [Value.int .u8 2, .int .u8 0, .bool f.static, sl nilS, sl nilS, .slice bv nv cv, sl nilS, sl nilS, sl nilS, sl nilS, sl nilS, sl nilS]) rfl tlen hok.self (R := z135.drop 12) rfl
  have hl32 : 32 + 20 ≤ (setSeg (setSeg (setSeg (setSeg z135 0 [Value.int IntKind.u8 2]) 2 [Value.bool f.static]) 5 [Value.slice bv nv cv]) 12 (bcells (addrI (argI f.st 1)))).length := by
    rw [setSeg_length (by rw [alenT]; exact Nat.le_of_ble_eq_true rfl)]
    exact Nat.le_of_ble_eq_true rfl
  erw [fillL_agg (off := 32) (n := 20) rfl alenS hl32, fillL_done, hfill]
  refine forceL_of (fok_fCells _) ?_; conv => whnf
  obtain ⟨ch, hch⟩ : ∃ ch : YF, ch = chF 2 f.static (bv, nv, cv) (0 : Int) (addrI (argI f.st 1)) f.self := ⟨_, rfl⟩
  rw [← hch]
  have chok : ch.ok hi6 := by rw [hch]; exact chF_ok g6 tlen hok.self
  have chlen := fCells_len chok.self chok.caller
  refine BoxW.jm hd6 fun m13 hin13 hmn13 hd13 => ?_; conv => whnf
  refine Ob.mk ⟨by rw [List.size_toArray, chlen]; rfl, fCells_one ch⟩ ?_; conv => whnf
  refine StoreX.top hd13 ([] ++ (fCells ch ++ [])) (by rw [setSeg_all (by rw [List.toList_toArray, chlen]; rfl)]; simp) (by rw [List.toList_toArray, chlen]; decide) fun hd7 => ?_; conv => whnf
  have hb7 : hput hm5 m13 ([] ++ (fCells ch ++ []), 135) fb = some (preC base ++ (fCells f ++ pad), tf) := hput_old hb5 hmn13
  have h137 : hput hm5 m13 ([] ++ (fCells ch ++ []), 135) m13 = some ([] ++ (fCells ch ++ []), 135) := hput_same ..
  have e7m : Ext hm5 (hput hm5 m13 ([] ++ (fCells ch ++ []), 135)) := Ext.new hmn13
  have hfb13 : fb ≠ m13 := ne_get hb5 hmn13
  have hc13 : c ≠ m13 := ne_get S5.chain hmn13
  repeat (first | (refine CondX.tt ?_; conv => whnf) | (refine CondX.ff ?_; conv => whnf))
  refine StoreX.mid (pre := []) (post := []) (f := ch) hd7 h137 0 (by decide) rfl { ch with kind := 4 } rfl fun hd7 => ?_; conv => whnf
  rw [hput_hput] at hd7 ⊢
  have hch0 := hch
  obtain ⟨chN, hchN⟩ : ∃ q : YF, q = { ch with kind := 4 } := ⟨_, rfl⟩
  rw [← hchN] at hd7 ⊢
  have chokN : chN.ok hi6 := by rw [hchN]; exact ⟨chok.pc, chok.gas, chok.val, chok.oo, chok.ol, chok.st, chok.stE, chok.stR, chok.code, chok.input, chok.self, chok.caller, chok.saved⟩
  rw [hch0] at hchN
  obtain ⟨ch, hche⟩ : ∃ q : YF, q = chN := ⟨_, rfl⟩
  rw [← hche] at hchN chokN hd7 ⊢
  have hch := hchN
  have chok := chokN
  have chlen := fCells_len chok.self chok.caller
  have hb7 : hput hm5 m13 ([] ++ (fCells ch ++ []), 135) fb = some (preC base ++ (fCells f ++ pad), tf) := hput_old hb5 hmn13
  have h137 : hput hm5 m13 ([] ++ (fCells ch ++ []), 135) m13 = some ([] ++ (fCells ch ++ []), 135) := hput_same ..
  have e7m : Ext hm5 (hput hm5 m13 ([] ++ (fCells ch ++ []), 135)) := Ext.new hmn13
  refine StoreX.mid (pre := []) (post := []) (f := ch) hd7 h137 2 (by decide) rfl { ch with static := true } rfl fun hd7 => ?_; conv => whnf
  rw [hput_hput] at hd7 ⊢
  have hch0 := hch
  obtain ⟨chN, hchN⟩ : ∃ q : YF, q = { ch with static := true } := ⟨_, rfl⟩
  rw [← hchN] at hd7 ⊢
  have chokN : chN.ok hi6 := by rw [hchN]; exact ⟨chok.pc, chok.gas, chok.val, chok.oo, chok.ol, chok.st, chok.stE, chok.stR, chok.code, chok.input, chok.self, chok.caller, chok.saved⟩
  rw [hch0] at hchN
  obtain ⟨ch, hche⟩ : ∃ q : YF, q = chN := ⟨_, rfl⟩
  rw [← hche] at hchN chokN hd7 ⊢
  have hch := hchN
  have chok := chokN
  have chlen := fCells_len chok.self chok.caller
  have hb7 : hput hm5 m13 ([] ++ (fCells ch ++ []), 135) fb = some (preC base ++ (fCells f ++ pad), tf) := hput_old hb5 hmn13
  have h137 : hput hm5 m13 ([] ++ (fCells ch ++ []), 135) m13 = some ([] ++ (fCells ch ++ []), 135) := hput_same ..
  have e7m : Ext hm5 (hput hm5 m13 ([] ++ (fCells ch ++ []), 135)) := Ext.new hmn13
  have hok6 := hok5.ext e6
  repeat (first | (refine CondX.tt ?_; conv => whnf) | (refine CondX.ff ?_; conv => whnf))
  refine LoadX.mid (join_hm hd7 hb7) 4 (by decide) rfl (v := sl f.gasS) rfl ?_; conv => whnf
  have hg0 := hok.gas.val
  have a00 := (argP_ok hok.stE 0).val
  refine CallX.fj hd7 (ypSentGas_ok hok6.gas (((argP_ok hok.stE 0).ext e45).ext e6) hgr fun bs ns cs hi8 e8 g8 hd8 => ?_); conv => whnf
  have hsent : min (argI f.st 0) (f.gas - f.gas / 64) ≤ f.gas ∧ 0 ≤ min (argI f.st 0) (f.gas - f.gas / 64) := by have h1 : (argP f.st 0).2 = argI f.st 0 := rfl; omega
  have g8 : NtS hi8 (bs, ns, cs) (min (argI f.st 0) (f.gas - f.gas / 64)) := g8
  generalize hsn : min (argI f.st 0) (f.gas - f.gas / 64) = sent at *
  refine LoadX.mid (join_hm hd8 hb7) 4 (by decide) rfl (v := sl f.gasS) rfl ?_; conv => whnf
  refine CallX.fj hd8 (less_ok (hok6.gas.ext e8) g8 fun bl nl cl hi9 e9 g9 hd9 => ?_); conv => whnf
  have hless : lessI f.gas sent = f.gas - sent := by unfold lessI; rw [if_neg (by omega)]
  rw [hless] at g9
  have g89 := g8.ext e9
  have hok9 := (hok6.ext e8).ext e9
  obtain ⟨f1, hf1⟩ : ∃ f1 : YF, f1 = { f with gasS := (bl, nl, cl), gas := f.gas - sent } := ⟨_, rfl⟩
  have hf1ok : f1.ok hi9 := by rw [hf1]; exact ⟨hok9.pc, g9, hok9.val, hok9.oo, hok9.ol, hok9.st, hok9.stE, hok9.stR, hok9.code, hok9.input, hok9.self, hok9.caller, hok9.saved⟩
  refine StoreX.mid (f := f) hd9 hb7 4 (by decide) rfl f1 (by rw [hf1]; rfl) fun hd10 => ?_; conv => whnf
  refine StoreX.mid (pre := []) (post := []) (f := ch) hd10 (by rw [hput_ne hfb13.symm]; exact h137) 4 (by decide) rfl { ch with gasS := (bs, ns, cs), gas := sent } rfl fun hd11 => ?_; conv => whnf
  rw [hput_comm hfb13.symm, hput_hput, hput_comm hfb13] at hd11 ⊢
  have eAll : Ext hi hi9 := ((e45.trans e6).trans e8).trans e9
  have S9 := (S5.ext ((e6.trans e8).trans e9) (hd9.mono e7m)).setTop (f' := f1) hfb5 hb5 hf1ok (by rw [hf1])
  have hchok9 := (chok.ext e8).ext e9
  obtain ⟨ch1, hch1⟩ : ∃ ch1 : YF, ch1 = { ch with gasS := (bs, ns, cs), gas := sent } := ⟨_, rfl⟩
  have hch1ok : ch1.ok hi9 := by rw [hch1]; exact ⟨hchok9.pc, g89, hchok9.val, hchok9.oo, hchok9.ol, hchok9.st, hchok9.stE, hchok9.stR, hchok9.code, hchok9.input, hchok9.self, hchok9.caller, hchok9.saved⟩
  rw [← hch1] at hd11 ⊢
  have VOK9 : NtS hi9 nilS 0 := Nt_nil _
  refine isZero_ok (Nt_nil _) ?_; conv => whnf
  repeat (first | (refine CondX.tt ?_; conv => whnf) | (refine CondX.ff ?_; conv => whnf))
  have hvz : True := trivial
  have hm13n : hput hm5 fb (preC base ++ (fCells f1 ++ pad), tf) m13 = none := by rw [hput_ne hfb13.symm]; exact hmn13
  have hbN : hput (hput hm5 fb (preC base ++ (fCells f1 ++ pad), tf)) m13 ([] ++ (fCells ch1 ++ []), 135) fb = some (preC base ++ (fCells f1 ++ pad), tf) := by rw [hput_ne hfb13]; exact hput_same ..
  have h13N : hput (hput hm5 fb (preC base ++ (fCells f1 ++ pad), tf)) m13 ([] ++ (fCells ch1 ++ []), 135) m13 = some ([] ++ (fCells ch1 ++ []), 135) := hput_same ..
  have hcN : hput (hput hm5 fb (preC base ++ (fCells f1 ++ pad), tf)) m13 ([] ++ (fCells ch1 ++ []), 135) c = some (sCells s5, tc) := by rw [hput_ne hc13, hput_ne hcf]; exact S5.chain
  have hfrl : s5.frS.2.1 = base.length + 1 := by rw [hs5]; exact hn1
  refine DrawX.go T_ok hM Hval.func133 (tb := dr133) rfl (by kernel_rfl) ?_; conv => whnf
  refine LoadX.blk (join_hm hd11 hcN) (sl s5.frS) rfl ?_; conv => whnf
  have edep : IntKind.i64.wrap ((s5.frS.2.1 : Int) - 1) = ((base.length : Nat) : Int) := by rw [wrap_i64 (by omega) (by omega)]; omega
  rw [edep]
  refine CondX.decI (fun hdp => ?_) (fun hdp => ?_) <;> conv => whnf
  · repeat (first | (refine CondX.tt ?_; conv => whnf) | (refine CondX.ff ?_; conv => whnf))
    have hfail : 6 ≤ (base.map absF).length ∨ ((absS s (base ++ [(f, m)]) ret left).w.acct (absF (f, m)).self).bal < (if (250 : Int) = 241 ∨ (250 : Int) = 242 then argA (absF (f, m)).st 2 else 0) := .inl (by simp; omega)
    have hcg : sent = sent + (if (if (250 : Int) = 241 ∨ (250 : Int) = 242 then argI f.st 2 else 0) = 0 then 0 else 2300) := by first | simp [hvz] | simp
    refine DrawX.go T_ok hM Hval.func133 (tb := dr133) rfl (by kernel_rfl) ?_; conv => whnf
    refine LoadX.mid (join_hm hd11 hbN) 4 (by decide) rfl (v := sl f1.gasS) rfl ?_; conv => whnf
    refine LoadX.mid (pre := []) (post := []) (f := ch1) (join_hm hd11 h13N) 4 (by decide) rfl (v := sl (bs, ns, cs)) (by first | rfl | (rw [hch1]; rfl) | (rw [hch2]; rfl)) ?_; conv => whnf
    refine CallX.fj hd11 (addN (hf1ok.ext (Ext.refl hi9)).gas g89 (by rw [hf1]; show f.gas - sent + (sent) < big; omega) fun ba na ca hi12 e12 g12 hd12 => ?_); conv => whnf
    refine StoreX.mid (f := f1) hd12 hbN 4 (by decide) rfl { f1 with gasS := (ba, na, ca), gas := f1.gas + (sent) } rfl fun hd13' => ?_; conv => whnf
    have ho12 := (hf1ok.ext (Ext.refl hi9)).ext e12
    have hf1st : f1.st = f.st := by rw [hf1]
    have hf1pc : f1.pc = f.pc := by rw [hf1]
    refine answer_ok (sw := nilS) (w := 0) (k := 6) (f := { f1 with gasS := (ba, na, ca), gas := f1.gas + (sent) }) hd13' (hput_same ..) ⟨ho12.pc, g12, ho12.val, ho12.oo, ho12.ol, ho12.st, ho12.stE, ho12.stR, ho12.code, ho12.input, ho12.self, ho12.caller, ho12.saved⟩ (Nt_nil _) (by show 6 ≤ f1.st.length; rw [hf1st]; exact hst) (by show f1.st.length - 6 + 1 ≤ 64; have := hok.stR; have : 6 ≤ f.st.length := hst; rw [hf1st]; omega) (by show f1.pc + 1 < big; rw [hf1pc]; exact hpc) fun hi14 f3 e14 hf3 heq3 hd14 => ?_; conv => whnf
    obtain ⟨s3, p3, hf3e⟩ := heq3
    rw [hput_hput] at hd14 ⊢
    have S14 := (((S9.more (Ext.new hm13n) (Dj.back (Ext.refl hi9) hd11)).ext (((Ext.refl hi9).trans e12).trans e14) ((hd14.unput hbN))).setTop (f' := f3) hfb5 hbN hf3 (by rw [hf3e]))
    refine RetX.same (hk hi14 _ s5 (base ++ [(f3, m)]) ret left (((eAll.trans (Ext.refl hi9)).trans e12).trans e14) S14 ⟨?_, fun q hq => ?_⟩ ?_ (by rw [hs5]; exact ⟨rfl, rfl, rfl, rfl, rfl, rfl, rfl, rfl⟩))
    · rw [hs5]; exact hszW.mono (Nat.le_succ _)
    · rcases List.mem_append.1 hq with h5 | h5
      · exact (hN.saved q (by simp [h5])).mono (by omega)
      · rw [List.mem_singleton.1 h5, hf3e]
        show f1.saved.sz (N + 2)
        rw [hf1]; exact (hN.saved (f, m) (by simp)).mono (by omega)
    · unfold callA
      rw [if_pos hfail, hs5, hf3e, hf1]
      unfold absS
      dsimp only
      rw [hW5]
      simp [absF, hAA, hsn, callT, hvz]
  · repeat (first | (refine CondX.tt ?_; conv => whnf) | (refine CondX.ff ?_; conv => whnf))
    have hselfN := ldV_self (join_hm hd11 hbN) hf1ok.self hf1ok.caller (o := (preC base).length + 12) rfl
    have hf1s : f1.self = f.self := by rw [hf1]
    refine LoadX.of _ hselfN ?_; conv => whnf
    repeat (first | (refine CondX.tt ?_; conv => whnf) | (refine CondX.ff ?_; conv => whnf))
    rw [hf1s]
    refine account_ok (xs := s5.w.acc) (join_hm hd11 hcN) (show (sCells s5)[0]? = some (sl s5.w.sA) from rfl) (S9.now.acc.arr.ext (Ext.jl _ _)) (fun x hx => (S9.now.acc.each x hx).addr) hok.self (by have := hwr.acc; rw [hs5]; show s.w.sA.2.1 < _; omega) ?_; conv => whnf
    have hx := getA_ok S9.now.acc.each hok.self
    have hbal5 : (getA s5.w.acc f.self).bal = 0 := by rw [hs5w]; exact hbal
    generalize getA s5.w.acc f.self = x at *
    repeat (first | (refine CondX.tt ?_; conv => whnf) | (refine CondX.ff ?_; conv => whnf))
    erw [acCells_get hx.addr 1]; conv => whnf
    repeat (first | (refine CondX.tt ?_; conv => whnf) | (refine CondX.ff ?_; conv => whnf))
    refine cmpN (hx.bal.ext (Ext.jl _ _)) (VOK9.ext (Ext.jl _ _)) ?_; conv => whnf
    repeat (first | (refine CondX.tt ?_; conv => whnf) | (refine CondX.ff ?_; conv => whnf))
    rw [cmp_lt, hbal5]
    first | refine CondX.ff ?_ | refine CondX.dF (by omega) ?_
    conv => whnf
    have hmN : MemB (hput (hput hm5 fb (preC base ++ (fCells f1 ++ pad), tf)) m13 ([] ++ (fCells ch1 ++ []), 135)) f1.memS m := (S9.more (Ext.new hm13n) hd11).memT
    have aok9 : ∀ i, NtS hi9 (argP f1.st i).1 (argI f.st i) := fun i => by
      have h1 : f1.st = f.st := by rw [hf1]
      rw [h1]; exact (argP_ok hok.stE i).ext eAll
    have hsr1 : f1.stS.2.1 < 2 ^ 30 := by rw [hf1]; exact hsr
    refine arg_ok (join_hm hd11 hbN) (hf1ok.st.ext (Ext.jl _ _)) hsr1 (6 - 4) (by decide) ?_; conv => whnf
    refine arg_ok (join_hm hd11 hbN) (hf1ok.st.ext (Ext.jl _ _)) hsr1 (6 - 4 + 1) (by decide) ?_; conv => whnf
    refine read_ok hd11 hbN (hmN.byt hd11) (aok9 (6 - 4)) (aok9 (6 - 4 + 1)) hlen fun sI hiB eB hdB gB => ?_; conv => whnf
    refine StoreX.mid (pre := []) (post := []) (f := ch1) hdB h13N 11 (by decide) rfl { ch1 with inS := sI, input := cutN m (argI f.st (6 - 4)).toNat (argI f.st (6 - 4 + 1)).toNat } rfl fun hdC => ?_; conv => whnf
    rw [hput_hput] at hdC ⊢
    refine LoadX.arr (l := addrI (argI f.st 1)) (t := 31) (join_l (eB _ _ (e9 _ _ (e8 _ _ h46)))) tlen ?_; conv => whnf
    refine natvAt_ok tlen ?_; conv => whnf
    refine StoreX.mid (pre := []) (post := []) (f := { ch1 with inS := sI, input := cutN m (argI f.st (6 - 4)).toNat (argI f.st (6 - 4 + 1)).toNat }) hdC (hput_same ..) 1 (by decide) rfl { ch1 with inS := sI, input := cutN m (argI f.st (6 - 4)).toNat (argI f.st (6 - 4 + 1)).toNat, natv := natK (addrI (argI f.st 1)) } rfl fun hdD => ?_; conv => whnf
    rw [hput_hput] at hdD ⊢
    refine LoadX.mid (pre := []) (post := []) (f := { ch1 with inS := sI, input := cutN m (argI f.st (6 - 4)).toNat (argI f.st (6 - 4 + 1)).toNat, natv := natK (addrI (argI f.st 1)) }) (join_hm hdD (hput_same ..)) 1 (by decide) rfl (v := .int .u8 (natK (addrI (argI f.st 1)))) rfl ?_; conv => whnf
    have hgo : ¬ (6 ≤ (base.map absF).length ∨ ((absS s (base ++ [(f, m)]) ret left).w.acct (absF (f, m)).self).bal < (if (250 : Int) = 241 ∨ (250 : Int) = 242 then argA (absF (f, m)).st 2 else 0)) := by
      show ¬ (6 ≤ (base.map absF).length ∨ (getA s.w.acc f.self).bal < (if (250 : Int) = 241 ∨ (250 : Int) = 242 then argA (f.st.map Prod.snd) 2 else 0))
      rw [hbal, hAA]
      simp
      omega
    have h46B := eB _ _ (e9 _ _ (e8 _ _ h46))
    have hch1B := hch1ok.ext eB
    refine CondX.eqI (fun hnat => ?_) (fun hnat => ?_) <;> conv => whnf
    · have hcD : hput (hput hm5 fb (preC base ++ (fCells f1 ++ pad), tf)) m13 ([] ++ (fCells { ch1 with inS := sI, input := cutN m (argI f.st (6 - 4)).toNat (argI f.st (6 - 4 + 1)).toNat, natv := natK (addrI (argI f.st 1)) } ++ []), 135) c = some (sCells s5, tc) := by rw [hput_ne hc13, hput_ne hcf]; exact S5.chain
      refine DrawX.go T_ok hM Hval.func133 (tb := dr133) rfl (by kernel_rfl) ?_; conv => whnf
      refine LoadX.arr (l := addrI (argI f.st 1)) (t := 31) (join_l h46B) tlen ?_; conv => whnf
      have hac9 := S9.now.acc.ext eB
      refine account_ok (xs := s5.w.acc) (join_hm hdD hcD) (show (sCells s5)[0]? = some (sl s5.w.sA) from rfl) (hac9.arr.ext (Ext.jl _ _)) (fun x hx => (hac9.each x hx).addr) tlen (by have := hwr.acc; rw [hs5]; show s.w.sA.2.1 < _; omega) ?_; conv => whnf
      have hx := getA_ok hac9.each tlen
      have hxc : (getA s5.w.acc (addrI (argI f.st 1))).code = (getA s.w.acc (addrI (argI f.st 1))).code := by rw [hs5w]
      generalize getA s5.w.acc (addrI (argI f.st 1)) = x at *
      erw [acCells_get hx.addr 2]; conv => whnf
      refine CallX.fj hdD (bytesOf_any hx.code fun bC cC hiF eF gF hdF => ?_); conv => whnf
      refine StoreX.mid (pre := []) (post := []) (f := { ch1 with inS := sI, input := cutN m (argI f.st (6 - 4)).toNat (argI f.st (6 - 4 + 1)).toNat, natv := natK (addrI (argI f.st 1)) }) hdF (hput_same ..) 10 (by decide) rfl { ch1 with inS := sI, input := cutN m (argI f.st (6 - 4)).toNat (argI f.st (6 - 4 + 1)).toNat, natv := natK (addrI (argI f.st 1)), codeS := (bC, x.cs.2.1, cC), code := x.code } rfl fun hdG => ?_; conv => whnf
      rw [hput_hput] at hdG ⊢
      have hchX : ({ ch1 with inS := sI, input := cutN m (argI f.st (6 - 4)).toNat (argI f.st (6 - 4 + 1)).toNat, natv := natK (addrI (argI f.st 1)), codeS := (bC, x.cs.2.1, cC), code := x.code } : YF).ok hiF := by
        have q := hch1B.ext eF
        exact ⟨q.pc, q.gas, q.val, q.oo, q.ol, q.st, q.stE, q.stR, gF, gB.ext eF, q.self, q.caller, q.saved⟩
      have hbX : hput (hput hm5 fb (preC base ++ (fCells f1 ++ pad), tf)) m13 ([] ++ (fCells { ch1 with inS := sI, input := cutN m (argI f.st (6 - 4)).toNat (argI f.st (6 - 4 + 1)).toNat, natv := natK (addrI (argI f.st 1)), codeS := (bC, x.cs.2.1, cC), code := x.code } ++ []), 135) fb = some (preC base ++ (fCells f1 ++ pad), tf) := by rw [hput_ne hfb13]; exact hput_same ..
      have hf1X := hf1ok.ext (eB.trans eF)
      have aokX : ∀ i, NtS hiF (argP f1.st i).1 (argI f.st i) := fun i => (aok9 i).ext (eB.trans eF)
      refine arg_ok (join_hm hdG hbX) (hf1X.st.ext (Ext.jl _ _)) hsr1 (6 - 4 + 2) (by decide) ?_; conv => whnf
      refine arg_ok (join_hm hdG hbX) (hf1X.st.ext (Ext.jl _ _)) hsr1 (6 - 4 + 3) (by decide) ?_; conv => whnf
      refine wait_ok (k := 6) hdG hbX hf1X (aokX (6 - 4 + 2)) (aokX (6 - 4 + 3)) (by have h1 : f1.st = f.st := (by rw [hf1]); rw [h1]; exact hst) fun hiE f4 eE hf4 heq4 hdE => ?_; conv => whnf
      obtain ⟨s4, s41, s42, hf4e⟩ := heq4
      have hchlen := fCells_len hchX.self hchX.caller
      have h13E : hput (hput (hput hm5 fb (preC base ++ (fCells f1 ++ pad), tf)) m13 ([] ++ (fCells { ch1 with inS := sI, input := cutN m (argI f.st (6 - 4)).toNat (argI f.st (6 - 4 + 1)).toNat, natv := natK (addrI (argI f.st 1)), codeS := (bC, x.cs.2.1, cC), code := x.code } ++ []), 135)) fb (preC base ++ (fCells f4 ++ pad), tf) m13 = some ([] ++ (fCells { ch1 with inS := sI, input := cutN m (argI f.st (6 - 4)).toNat (argI f.st (6 - 4 + 1)).toNat, natv := natK (addrI (argI f.st 1)), codeS := (bC, x.cs.2.1, cC), code := x.code } ++ []), 135) := by rw [hput_ne hfb13.symm]; exact hput_same ..
      refine LoadX.all (c := [] ++ (fCells { ch1 with inS := sI, input := cutN m (argI f.st (6 - 4)).toNat (argI f.st (6 - 4 + 1)).toNat, natv := natK (addrI (argI f.st 1)), codeS := (bC, x.cs.2.1, cC), code := x.code } ++ [])) (join_hm hdE h13E) (by rw [List.nil_append, List.append_nil, hchlen]; rfl) ?_; conv => whnf
      rw [List.nil_append, List.append_nil]
      rw [List.nil_append, List.append_nil] at hdE
      have SE := (((S9.more (Ext.new (x := (fCells { ch1 with inS := sI, input := cutN m (argI f.st (6 - 4)).toNat (argI f.st (6 - 4 + 1)).toNat, natv := natK (addrI (argI f.st 1)), codeS := (bC, x.cs.2.1, cC), code := x.code }, 135)) hm13n) (by have := Dj.back (eB.trans eF) hdG; rwa [List.nil_append, List.append_nil] at this)).ext ((eB.trans eF).trans eE) (hdE.unput (by rw [hput_ne hfb13]; exact hput_same ..))).setTop (f' := f4) hfb5 (by rw [hput_ne hfb13]; exact hput_same ..) hf4 (by rw [hf4e]))
      have hNE : StN (N + 1) s5 (base ++ [(f4, m)]) := ⟨by rw [hs5]; exact hszW, fun q hq => by
        rcases List.mem_append.1 hq with h5 | h5
        · exact (hN.saved q (by simp [h5])).mono (Nat.le_succ N)
        · rw [List.mem_singleton.1 h5, hf4e]
          show f1.saved.sz (N + 1)
          rw [hf1]; exact (hN.saved (f, m) (by simp)).mono (Nat.le_succ N)⟩
      refine enterSt_ok (f := { ch1 with inS := sI, input := cutN m (argI f.st (6 - 4)).toNat (argI f.st (6 - 4 + 1)).toNat, natv := natK (addrI (argI f.st 1)), codeS := (bC, x.cs.2.1, cC), code := x.code }) SE hNE (by omega) (by simp; omega) (hchX.ext eE) (by show ch1.val = 0; rw [hch1, hch]; first | exact hvz | exact hval | rfl) (by show ch1.memS = nilS; rw [hch1, hch]; rfl) ?_
      intro hi' hm' s' frs' ret' left' q1 q2 q3 q4 q5
      conv => whnf
      refine RetX.same (hk hi' hm' s' frs' ret' left' (((eAll.trans (eB.trans eF)).trans eE).trans q1) q2 q3 ?_ (fixS.trans (by rw [hs5]; exact ⟨rfl, rfl, rfl, rfl, rfl, rfl, rfl, rfl⟩) q5))
      rw [q4]
      unfold callA
      rw [if_neg hgo, hs5, hf4e, hf1]
      unfold absS
      dsimp only
      rw [hW5]
      simp [absF, hAA, hsn, callT, hvz, enterA, hch1, hch, chF, callK, hxc, hnat]
      try rfl
    · have hchX : ({ ch1 with inS := sI, input := cutN m (argI f.st (6 - 4)).toNat (argI f.st (6 - 4 + 1)).toNat, natv := natK (addrI (argI f.st 1)) } : YF).ok hiB := ⟨hch1B.pc, hch1B.gas, hch1B.val, hch1B.oo, hch1B.ol, hch1B.st, hch1B.stE, hch1B.stR, hch1B.code, gB, hch1B.self, hch1B.caller, hch1B.saved⟩
      have hbX : hput (hput hm5 fb (preC base ++ (fCells f1 ++ pad), tf)) m13 ([] ++ (fCells { ch1 with inS := sI, input := cutN m (argI f.st (6 - 4)).toNat (argI f.st (6 - 4 + 1)).toNat, natv := natK (addrI (argI f.st 1)) } ++ []), 135) fb = some (preC base ++ (fCells f1 ++ pad), tf) := by rw [hput_ne hfb13]; exact hput_same ..
      have hf1X := hf1ok.ext eB
      have aokX : ∀ i, NtS hiB (argP f1.st i).1 (argI f.st i) := fun i => (aok9 i).ext eB
      refine arg_ok (join_hm hdD hbX) (hf1X.st.ext (Ext.jl _ _)) hsr1 (6 - 4 + 2) (by decide) ?_; conv => whnf
      refine arg_ok (join_hm hdD hbX) (hf1X.st.ext (Ext.jl _ _)) hsr1 (6 - 4 + 3) (by decide) ?_; conv => whnf
      refine wait_ok (k := 6) hdD hbX hf1X (aokX (6 - 4 + 2)) (aokX (6 - 4 + 3)) (by have h1 : f1.st = f.st := (by rw [hf1]); rw [h1]; exact hst) fun hiE f4 eE hf4 heq4 hdE => ?_; conv => whnf
      obtain ⟨s4, s41, s42, hf4e⟩ := heq4
      have hchlen := fCells_len hchX.self hchX.caller
      have h13E : hput (hput (hput hm5 fb (preC base ++ (fCells f1 ++ pad), tf)) m13 ([] ++ (fCells { ch1 with inS := sI, input := cutN m (argI f.st (6 - 4)).toNat (argI f.st (6 - 4 + 1)).toNat, natv := natK (addrI (argI f.st 1)) } ++ []), 135)) fb (preC base ++ (fCells f4 ++ pad), tf) m13 = some ([] ++ (fCells { ch1 with inS := sI, input := cutN m (argI f.st (6 - 4)).toNat (argI f.st (6 - 4 + 1)).toNat, natv := natK (addrI (argI f.st 1)) } ++ []), 135) := by rw [hput_ne hfb13.symm]; exact hput_same ..
      refine LoadX.all (c := [] ++ (fCells { ch1 with inS := sI, input := cutN m (argI f.st (6 - 4)).toNat (argI f.st (6 - 4 + 1)).toNat, natv := natK (addrI (argI f.st 1)) } ++ [])) (join_hm hdE h13E) (by rw [List.nil_append, List.append_nil, hchlen]; rfl) ?_; conv => whnf
      rw [List.nil_append, List.append_nil]
      rw [List.nil_append, List.append_nil] at hdE
      have SE := (((S9.more (Ext.new (x := (fCells { ch1 with inS := sI, input := cutN m (argI f.st (6 - 4)).toNat (argI f.st (6 - 4 + 1)).toNat, natv := natK (addrI (argI f.st 1)) }, 135)) hm13n) (by have := Dj.back eB hdD; rwa [List.nil_append, List.append_nil] at this)).ext (eB.trans eE) (hdE.unput (by rw [hput_ne hfb13]; exact hput_same ..))).setTop (f' := f4) hfb5 (by rw [hput_ne hfb13]; exact hput_same ..) hf4 (by rw [hf4e]))
      have hNE : StN (N + 1) s5 (base ++ [(f4, m)]) := ⟨by rw [hs5]; exact hszW, fun q hq => by
        rcases List.mem_append.1 hq with h5 | h5
        · exact (hN.saved q (by simp [h5])).mono (Nat.le_succ N)
        · rw [List.mem_singleton.1 h5, hf4e]
          show f1.saved.sz (N + 1)
          rw [hf1]; exact (hN.saved (f, m) (by simp)).mono (Nat.le_succ N)⟩
      refine enterSt_ok (f := { ch1 with inS := sI, input := cutN m (argI f.st (6 - 4)).toNat (argI f.st (6 - 4 + 1)).toNat, natv := natK (addrI (argI f.st 1)) }) SE hNE (by omega) (by simp; omega) (hchX.ext eE) (by show ch1.val = 0; rw [hch1, hch]; first | exact hvz | exact hval | rfl) (by show ch1.memS = nilS; rw [hch1, hch]; rfl) ?_
      intro hi' hm' s' frs' ret' left' q1 q2 q3 q4 q5
      conv => whnf
      refine RetX.same (hk hi' hm' s' frs' ret' left' (((eAll.trans eB).trans eE).trans q1) q2 q3 ?_ (fixS.trans (by rw [hs5]; exact ⟨rfl, rfl, rfl, rfl, rfl, rfl, rfl, rfl⟩) q5))
      rw [q4]
      unfold callA
      rw [if_neg hgo, hs5, hf4e, hf1]
      unfold absS
      dsimp only
      rw [hW5]
      simp [absF, hAA, hsn, callT, hvz, enterA, hch1, hch, chF, callK, hnat, hnat]
      try rfl
end
end Go.Proofs.YgvalwGreat.X
