import Derived.Test.YgvalwGreatG24
set_option linter.unusedVariables false
set_option linter.unusedSimpArgs false
namespace Go.Proofs.YgvalwGreat.X
open Go

theorem opI_bd {code : List Int} {pc : Int} (hB : isB code) (h0 : 0 ≤ pc) : 0 ≤ opI code pc ∧ opI code pc < 256 := by
  unfold opI
  split
  · exact hB.get _
  · omega
theorem argA_pos {st : List Int} (h : ∀ x ∈ st, 0 ≤ x) (i : Nat) : 0 ≤ argA st i := by
  unfold argA
  rw [List.getD_eq_getElem?_getD]
  cases he : st.reverse[i]? with
  | none => simp
  | some x => exact h x (List.mem_reverse.1 (List.mem_of_getElem? he))
theorem refA_bd (o cost gas : Int) (n : Nat) (A : Nat → Int) (st : Bool) (code : List Int) (rl : Nat) : 0 ≤ (refA o cost gas n A st code rl).1 ∧ (refA o cost gas n A st code rl).1 < 256 := by
  unfold refA
  simp only [apply_ite Prod.fst]
  repeat' split
  all_goals omega
structure RefOK (o cost gas : Int) (n : Nat) (A : Nat → Int) (st : Bool) (code : List Int) (rl : Nat) : Prop where
  known : (arI o).2.2 = true
  takes : (arI o).1 ≤ n
  room : (n : Int) - (arI o).1 + (arI o).2.1 ≤ 64
  stat : ¬ (st = true ∧ writesI o (A 2) = true)
  ini : (o = 240 ∨ o = 245) → A 2 ≤ 512
  rets : o = 62 → A 1 + A 2 ≤ rl
  paid : cost ≤ gas
  sst : o = 85 → 2300 < gas
  dest : o = 86 ∨ (o = 87 ∧ A 1 ≠ 0) → isDestI code (A 0) = true
theorem refA_ok {o cost gas : Int} {n : Nat} {A : Nat → Int} {st : Bool} {code : List Int} {rl : Nat} (h : (refA o cost gas n A st code rl).1 = 0) : RefOK o cost gas n A st code rl ∧ (refA o cost gas n A st code rl).2 = cost := by
  unfold refA at h ⊢
  by_cases h1 : (arI o).2.2 = false
  · rw [if_pos h1] at h; cases h
  rw [if_neg h1] at h ⊢
  by_cases h2 : (n : Int) < (arI o).1
  · rw [if_pos h2] at h; cases h
  rw [if_neg h2] at h ⊢
  by_cases h3 : 64 < (n : Int) - (arI o).1 + (arI o).2.1
  · rw [if_pos h3] at h; cases h
  rw [if_neg h3] at h ⊢
  by_cases h4 : st = true ∧ writesI o (A 2) = true
  · rw [if_pos h4] at h; cases h
  rw [if_neg h4] at h ⊢
  by_cases h5 : (o = 240 ∨ o = 245) ∧ 512 < A 2
  · rw [if_pos h5] at h; cases h
  rw [if_neg h5] at h ⊢
  by_cases h6 : o = 62 ∧ (rl : Int) < A 1 + A 2
  · rw [if_pos h6] at h; cases h
  rw [if_neg h6] at h ⊢
  by_cases h7 : gas < cost
  · rw [if_pos h7] at h; cases h
  rw [if_neg h7] at h ⊢
  by_cases h8 : o = 85 ∧ gas ≤ 2300
  · rw [if_pos h8] at h; cases h
  rw [if_neg h8] at h ⊢
  by_cases h9 : (o = 86 ∨ (o = 87 ∧ A 1 ≠ 0)) ∧ isDestI code (A 0) = false
  · rw [if_pos h9] at h; cases h
  rw [if_neg h9] at h ⊢
  refine ⟨⟨by simpa using h1, by omega, by omega, h4, fun q => ?_, fun q => ?_, by omega, fun q => ?_, fun q => ?_⟩, rfl⟩
  · refine Int.not_lt.1 fun hh => h5 ⟨q, hh⟩
  · refine Int.not_lt.1 fun hh => h6 ⟨q, hh⟩
  · refine Int.not_le.1 fun hh => h8 ⟨q, hh⟩
  · cases hh : isDestI code (A 0) with
    | true => rfl
    | false => exact absurd ⟨q, hh⟩ h9
section
variable {hi hm : Hp} {K : Value → Hp → Prop} {c : Nat} {tc : TypeId} {s : YS} {base : List (YF × List Int)} {f : YF} {m ret : List Int} {left : Int} {N : Nat}
theorem gives_all : (List.range 256).all (fun n => !(arI n).2.2 || decide (128 ≤ n ∧ n ≤ 159) || decide ((arI n).2.1 = 1) || decide ((arI n).2.1 = 0)) = true := by decide +kernel
theorem gives_cases {o : Int} (h0 : 0 ≤ o) (h1 : o < 256) (hk : (arI o).2.2 = true) (c2 : ¬ (128 ≤ o ∧ o ≤ 143)) (c3 : ¬ (144 ≤ o ∧ o ≤ 159)) (c4 : ¬ (arI o).2.1 = 1) : (arI o).2.1 = 0 := by
  obtain ⟨n, rfl⟩ : ∃ n : Nat, o = n := ⟨o.toNat, by omega⟩
  have h := List.all_eq_true.1 gives_all n (List.mem_range.2 (by omega))
  have h5 : ¬ (128 ≤ n ∧ n ≤ 159) := by omega
  simp only [hk, h5, c4, decide_false, Bool.not_true, Bool.false_or, decide_eq_true_eq] at h
  exact h
set_option maxRecDepth 100000 in
set_option maxHeartbeats 4000000 in
theorem ystep_ok (S : StOK hi hm c tc s (base ++ [(f, m)]) ret left) (hN : StN N s (base ++ [(f, m)])) (hN30 : N + 8 < 2 ^ 30) (hph : s.phase = 1) (E : EnvOK hi s) (P : StepP (absW s.w) (base.map absF) (absF (f, m))) (hsW : stW f.st)
    (hk : ∀ hi' hm' s' frs' ret' left', Ext hi hi' → StOK hi' hm' c tc s' frs' ret' left' → StN (N + 4) s' frs' → absS s' frs' ret' left' = stepF (absS s (base ++ [(f, m)]) ret left) (base.map absF) (absF (f, m)) s.origin → fixS s s' → K (.bool true) (join hi' hm')) :
    CallX Hval.prog 16 [.pointer (some ⟨c, 0, none⟩)] (join hi hm) K := by
  refine CallX.of_xf T_ok Hval.func16 rfl (by kernel_rfl) (Nat.le_of_ble_eq_true rfl) ?_; conv => whnf
  obtain ⟨fb, pad, tf, hfb, hb, hn1, hn2, hn3⟩ := S.top
  have hok := S.okT
  have hd := S.dj
  have hc := S.chain
  have hpl := S.preL
  have hbn : base.length ≤ 6 := by have := P.bn; simpa using this
  have hmc := memCost_nonneg (x := (m.length / 32 : Nat)) (by omega)
  have hgas : f.gas + memCost (m.length / 32 : Nat) ≤ 1048576 := P.gas
  have hbg := big_lt
  have hg0 := hok.gas.val
  have hp0 := hok.pc.val
  have hpc40 : f.pc < 2 ^ 40 := P.pc
  have hpar : ∀ g : Int, g ≤ 1048576 → parOk base g := fun g hg => ⟨fun q hq => by
    have := P.par (absF q) (List.mem_map.2 ⟨q, hq, rfl⟩)
    have h1 : q.1.gas ≤ 1048576 := this.1
    have h2 : (q.1.st.map Prod.snd).length < 64 := this.2.1
    have h3 : q.1.pc < 2 ^ 40 := this.2.2.1
    have h4 : q.1.ol < 2 ^ 40 := this.2.2.2
    rw [List.length_map] at h2
    exact ⟨by omega, h2, by omega, by omega⟩⟩
  refine LoadX.blk (join_hm hd hc) (.int .u8 s.phase) rfl ?_; conv => whnf
  rw [hph]; conv => whnf
  repeat (first | (refine CondX.tt ?_; conv => whnf) | (refine CondX.ff ?_; conv => whnf))
  refine LoadX.blk (join_hm hd hc) (sl s.frS) rfl ?_; conv => whnf
  repeat (first | (refine CondX.tt ?_; conv => whnf) | (refine CondX.ff ?_; conv => whnf))
  refine CondX.eqF (by omega) ?_; conv => whnf
  refine DrawX.go T_ok hM Hval.func16 (tb := dr16) rfl (by kernel_rfl) ?_; conv => whnf
  refine LoadX.blk (join_hm hd hc) (sl s.frS) rfl ?_; conv => whnf
  refine LoadX.blk (join_hm hd hc) (sl s.frS) rfl ?_; conv => whnf
  have eI : IntKind.i64.wrap ((s.frS.2.1 : Int) - 1) = ((base.length : Nat) : Int) := by rw [wrap_i64 (by omega) (by omega)]; omega
  rw [eI]
  refine IdxX.arr (S.frA.arr hd) (by omega) (by omega) (by omega) fun b1 off1 ef => ?_
  have : some (⟨b1, off1, none⟩ : Addr) = some ⟨fb, 0, none⟩ := ef.symm.trans hfb
  cases this
  conv => whnf
  have eO : 0 + ((base.length : Nat) : Int).toNat * (135, y135).snd.size = (preC base).length := by rw [Int.toNat_natCast, hpl, Nat.zero_add]; rfl
  rw [eO]
  refine LoadX.mid (join_hm hd hb) 1 (by decide) rfl (v := .int .u8 f.natv) rfl ?_; conv => whnf
  refine CondX.neI (fun hnat => ?_) (fun hnat => ?_) <;> conv => whnf
  · refine natv_ok S hN (by omega) (by omega) (by omega) P.self (hpar _ (by omega)) hfb ?_
    intro hi' hm' s' frs' ret' left' q1 q2 q3 q4 q5
    conv => whnf
    refine RetX.same (hk hi' hm' s' frs' ret' left' q1 q2 ⟨q3.now.mono (by omega), fun q hq => (q3.saved q hq).mono (by omega)⟩ ?_ q5)
    rw [q4]
    unfold stepF
    rw [if_pos (show (absF (f, m)).natv ≠ 0 from hnat)]
  have hstep : ¬ (absF (f, m)).natv ≠ 0 := fun h => h hnat
  refine opcode_ok (join_hm hd hb) (hok.pc.ext (Ext.jl _ _)) (hok.code.ext (Ext.jl _ _)) ?_; conv => whnf
  have hop := opI_bd hok.code.isB hp0
  generalize ho : opI f.code f.pc = o at *
  have hmr := S.memT.2.1
  have hml := S.memT.len
  have hAA : argA (absF (f, m)).st = argI f.st := by funext i; exact (argI_abs f.st i).symm
  have hA0 : ∀ i, 0 ≤ argI f.st i := fun i => (argP_ok hok.stE i).val
  have hcst : costI s.w f.self o (argI f.st) (f.memS.2.1 / 32 : Nat) = costA (absW s.w) f.self o (argI f.st) (m.length / 32 : Nat) := by rw [costI_abs, hml]
  refine refusal_ok hop.1 hop.2 S hN (by omega) hfb hsW (by omega) fun s1 hi1 e1 hd1 g1 => ?_
  rw [hcst] at g1 ⊢
  conv => whnf
  generalize hR : refA o (costA (absW s.w) f.self o (argI f.st) (m.length / 32 : Nat)) f.gas f.st.length (argI f.st) f.static f.code ret.length = R at *
  have hR' : refA (opI (absF (f, m)).code (absF (f, m)).pc) (costA (absS s (base ++ [(f, m)]) ret left).w (absF (f, m)).self (opI (absF (f, m)).code (absF (f, m)).pc) (argA (absF (f, m)).st) ((absF (f, m)).mem.length / 32 : Nat)) (absF (f, m)).gas (absF (f, m)).st.length (argA (absF (f, m)).st) (absF (f, m)).static (absF (f, m)).code (absS s (base ++ [(f, m)]) ret left).ret.length = R := by
    rw [hAA, ← hR, ← ho]
    show refA _ _ f.gas (f.st.map Prod.snd).length _ f.static f.code ret.length = _
    rw [List.length_map]
    rfl
  have S1 := S.ext e1 hd1
  refine CondX.neI (fun hv => ?_) (fun hv => ?_) <;> conv => whnf
  · have hvb : 0 ≤ R.1 ∧ R.1 < 256 := by rw [← hR]; exact refA_bd ..
    refine leave_ok (st := R.1) (so := nilS) (l := []) S1 hN (by omega) (by omega) (by omega) hvb.1 hvb.2 (Byt_nil _) P.self (hpar _ (by omega)) ?_
    intro hi' hm' s' frs' ret' left' q1 q2 q3 q4 q5
    conv => whnf
    refine RetX.same (hk hi' hm' s' frs' ret' left' (e1.trans q1) q2 ⟨q3.now.mono (by omega), fun q hq => (q3.saved q hq).mono (by omega)⟩ ?_ q5)
    rw [q4]
    unfold stepF
    rw [if_neg hstep]
    dsimp only
    rw [hR', if_pos hv]
  have hv : R.1 = 0 := hv
  obtain ⟨RO, hR2⟩ := refA_ok (by rw [hR]; exact hv)
  rw [hR] at hR2
  generalize hcA : costA (absW s.w) f.self o (argI f.st) (m.length / 32 : Nat) = cst at *
  rw [hR2] at g1
  have hcn : 0 ≤ cst := g1.val
  have hcg := RO.paid
  have hrb := reachI_bd (o := o) hA0 (argI_lt hsW)
  obtain ⟨hnd0, hnd1, hnd2⟩ := needI_ok (w := absW s.w) (self := f.self) (o := o) (A := argI f.st) (words := (m.length / 32 : Nat)) (gas := f.gas) hA0 (by omega) hrb.1 hgas (by rw [hcA]; exact hcg)
  refine LoadX.mid (join_hm hd1 hb) 4 (by decide) rfl (v := sl f.gasS) rfl ?_; conv => whnf
  refine CallX.fj hd1 (less_ok (hok.gas.ext e1) g1 fun b2 n2 c2 hi2 e2 g2 hd2 => ?_); conv => whnf
  have hless : lessI f.gas cst = f.gas - cst := by unfold lessI; rw [if_neg (by omega)]
  rw [hless] at g2
  have e12 := e1.trans e2
  have hok2 := hok.ext e12
  obtain ⟨f1, hf1⟩ : ∃ f1 : YF, f1 = { f with gasS := (b2, n2, c2), gas := f.gas - cst } := ⟨_, rfl⟩
  have f1ok : f1.ok hi2 := by rw [hf1]; exact ⟨hok2.pc, g2, hok2.val, hok2.oo, hok2.ol, hok2.st, hok2.stE, hok2.stR, hok2.code, hok2.input, hok2.self, hok2.caller, hok2.saved⟩
  refine StoreX.mid (f := f) hd2 hb 4 (by decide) rfl f1 (by rw [hf1]; rfl) fun hd3 => ?_; conv => whnf
  have S3 := (S.ext e12 hd2).setTop (f' := f1) hfb hb f1ok (by rw [hf1])
  have hb3 : hput hm fb (preC base ++ (fCells f1 ++ pad), tf) fb = some (preC base ++ (fCells f1 ++ pad), tf) := hput_same ..
  generalize hput hm fb (preC base ++ (fCells f1 ++ pad), tf) = hm3 at *
  have hst1 : f1.st = f.st := by rw [hf1]
  refine reach_ok hd3 hop.1 hop.2 hb3 f1ok (by rw [hst1]; exact hsW) fun s4 hi4 e4 hd4 g4 => ?_; conv => whnf
  rw [hst1] at g4
  have S4 := S3.ext e4 hd4
  have hnd : (needI o (argI f.st)) = (reachI o (argI f.st) + 31) / 32 := rfl
  refine grow_ok hd4 hb3 S4.memT g4 (by omega) P.mod fun hm5 f2 hd5 hf2 hb5 hM5 hnew5 hkeep5 => ?_; conv => whnf
  have S5 := S4.setGrow hfb hb3 hd5 hf2 hb5 hM5 hnew5 hkeep5
  rw [← hnd] at S5 hM5
  obtain ⟨sm, hf2e⟩ := hf2
  have e14 : Ext hi hi4 := e12.trans e4
  have N5 : StN N s (base ++ [(f2, growI m (needI o (argI f.st)).toNat)]) := ⟨hN.now, fun q hq => by
    rcases List.mem_append.1 hq with h5 | h5
    · exact hN.saved q (by simp [h5])
    · rw [List.mem_singleton.1 h5, hf2e, hf1]; exact hN.saved (f, m) (by simp)⟩
  have hf2g : f2.gas = f.gas - cst := by rw [hf2e, hf1]
  have hf2s : f2.self = f.self := by rw [hf2e, hf1]
  have hf2c : f2.caller = f.caller := by rw [hf2e, hf1]
  have hf2st : f2.st = f.st := by rw [hf2e, hf1]
  have hf2v : f2.val = f.val := by rw [hf2e, hf1]
  have hf2p : f2.pc = f.pc := by rw [hf2e, hf1]
  have habs : absF (f2, growI m (needI o (argI f.st)).toNat) = { absF (f, m) with gas := f.gas - cst, mem := growI m (needI o (argI f.st)).toNat } := by rw [hf2e, hf1]; rfl
  have hE5 : EnvOK hi4 s := ⟨E.env, E.origin, E.oB, E.made, E.price.ext e14⟩
  have hstepE : stepF (absS s (base ++ [(f, m)]) ret left) (base.map absF) (absF (f, m)) s.origin =
      (let a1 := absS s (base ++ [(f2, growI m (needI o (argI f.st)).toNat)]) ret left
       let F := absF (f2, growI m (needI o (argI f.st)).toNat)
       if o = 0 then leaveA a1 (base.map absF) F 0 [] else if o = 243 then leaveA a1 (base.map absF) F 0 (cutN (growI m (needI o (argI f.st)).toNat) (argI f.st 0).toNat (argI f.st 1).toNat)
       else if o = 253 then leaveA a1 (base.map absF) F 1 (cutN (growI m (needI o (argI f.st)).toNat) (argI f.st 0).toNat (argI f.st 1).toNat)
       else if o = 255 then destroyA a1 (base.map absF) F (argI f.st 0) else if famI o = 16 then entersA a1 (base.map absF) F o else plainA a1 (base.map absF) F s.origin o) := by
    unfold stepF
    rw [if_neg hstep]
    dsimp only
    rw [hR', if_neg (fun h => h hv), hR2, hAA]
    rw [show opI (absF (f, m)).code (absF (f, m)).pc = o from ho, habs]
    have : ({ absS s (base ++ [(f, m)]) ret left with frs := base.map absF ++ [{ absF (f, m) with gas := f.gas - cst, mem := growI m (needI o (argI f.st)).toNat }] } : AS) = absS s (base ++ [(f2, growI m (needI o (argI f.st)).toNat)]) ret left := by
      have hmapE : (base ++ [(f2, growI m (needI o (argI f.st)).toNat)]).map absF = base.map absF ++ [{ absF (f, m) with gas := f.gas - cst, mem := growI m (needI o (argI f.st)).toNat }] := by rw [List.map_append, List.map_cons, List.map_nil, habs]
      unfold absS; rw [hmapE]
    rw [← this]
    rfl
  rw [hstepE] at hk
  clear hstepE
  generalize hGM : growI m (needI o (argI f.st)).toNat = gm at *
  have hg2 : f2.gas ≤ 1048576 := by rw [hf2g]; omega
  have hself2 : isB f2.self := by rw [hf2s]; exact P.self
  have hcal2 : isB f2.caller := by rw [hf2c]; exact P.caller
  have ok2 := S5.okT
  have hsr2 : f2.stS.2.1 < 2 ^ 30 := by have := ok2.n; have := ok2.stR; omega
  have a2 : ∀ i, NtS hi4 (argP f2.st i).1 (argI f.st i) := fun i => by rw [hf2st]; exact (argP_ok hok.stE i).ext e14
  refine CondX.eqI (fun h0 => ?_) (fun h0 => ?_) <;> conv => whnf
  · refine leave_ok (st := 0) (so := nilS) (l := []) S5 N5 (by omega) (by omega) (by omega) (by omega) (by omega) (Byt_nil _) hself2 (hpar _ hg2) ?_
    intro hi' hm' s' frs' ret' left' q1 q2 q3 q4 q5
    conv => whnf
    refine RetX.same (hk hi' hm' s' frs' ret' left' (e14.trans q1) q2 ⟨q3.now.mono (by omega), fun q hq => (q3.saved q hq).mono (by omega)⟩ (q4.trans ?_) q5)
    dsimp only
    rw [if_pos h0]
  refine CondX.eqI (fun h1 => ?_) (fun h1 => ?_) <;> conv => whnf
  · refine arg_ok (join_hm hd5 hb5) (ok2.st.ext (Ext.jl _ _)) hsr2 0 (by decide) ?_; conv => whnf
    refine arg_ok (join_hm hd5 hb5) (ok2.st.ext (Ext.jl _ _)) hsr2 1 (by decide) ?_; conv => whnf
    have hl1 := reach_1 (o := o) hA0 (by omega)
    refine read_ok hd5 hb5 (hM5.byt hd5) (a2 0) (a2 1) (by omega) fun s6 hi6 e6 hd6 g6 => ?_; conv => whnf
    refine leave_ok (st := 0) (so := s6) (l := cutN gm (argI f.st 0).toNat (argI f.st 1).toNat) (S5.ext e6 hd6) N5 (by omega) (by omega) (by omega) (by omega) (by omega) g6 hself2 (hpar _ hg2) ?_
    intro hi' hm' s' frs' ret' left' q1 q2 q3 q4 q5
    conv => whnf
    refine RetX.same (hk hi' hm' s' frs' ret' left' ((e14.trans e6).trans q1) q2 ⟨q3.now.mono (by omega), fun q hq => (q3.saved q hq).mono (by omega)⟩ (q4.trans ?_) q5)
    dsimp only
    rw [if_neg h0, if_pos h1]
  refine CondX.eqI (fun h2 => ?_) (fun h2 => ?_) <;> conv => whnf
  · refine arg_ok (join_hm hd5 hb5) (ok2.st.ext (Ext.jl _ _)) hsr2 0 (by decide) ?_; conv => whnf
    refine arg_ok (join_hm hd5 hb5) (ok2.st.ext (Ext.jl _ _)) hsr2 1 (by decide) ?_; conv => whnf
    have hl1 := reach_1 (o := o) hA0 (by omega)
    refine read_ok hd5 hb5 (hM5.byt hd5) (a2 0) (a2 1) (by omega) fun s6 hi6 e6 hd6 g6 => ?_; conv => whnf
    refine leave_ok (st := 1) (so := s6) (l := cutN gm (argI f.st 0).toNat (argI f.st 1).toNat) (S5.ext e6 hd6) N5 (by omega) (by omega) (by omega) (by omega) (by omega) g6 hself2 (hpar _ hg2) ?_
    intro hi' hm' s' frs' ret' left' q1 q2 q3 q4 q5
    conv => whnf
    refine RetX.same (hk hi' hm' s' frs' ret' left' ((e14.trans e6).trans q1) q2 ⟨q3.now.mono (by omega), fun q hq => (q3.saved q hq).mono (by omega)⟩ (q4.trans ?_) q5)
    dsimp only
    rw [if_neg h0, if_neg h1, if_pos h2]
  have hcode : f.code ≠ [] := fun h => h0 (by rw [← ho, h]; unfold opI; simp)
  have hbal2 : (getA s.w.acc f2.self).bal = 0 := by rw [hf2s]; exact P.bal hcode
  refine CondX.eqI (fun h3 => ?_) (fun h3 => ?_) <;> conv => whnf
  · refine destroys_ok S5 N5 (by omega) (by omega) (by omega) hself2 (hpar _ hg2) hfb hbal2 ?_
    rw [hf2st]
    intro hi' hm' s' frs' ret' left' q1 q2 q3 q4 q5
    conv => whnf
    refine RetX.same (hk hi' hm' s' frs' ret' left' (e14.trans q1) q2 ⟨q3.now.mono (by omega), fun q hq => (q3.saved q hq).mono (by omega)⟩ (q4.trans ?_) q5)
    dsimp only
    rw [if_neg h0, if_neg h1, if_neg h2, if_pos h3]
  refine family_ok hop.1 hop.2 ?_; conv => whnf
  refine CondX.eqI (fun h4 => ?_) (fun h4 => ?_) <;> conv => whnf
  · have hent : o = 240 ∨ o = 245 ∨ o = 241 ∨ o = 242 ∨ o = 244 ∨ o = 250 := by
      unfold famI at h4
      repeat (first | (split at h4 <;> first | omega | skip) | omega)
    have hlen := reach_e hA0 hent
    have hT : entT o ≤ f2.st.length := by
      rw [hf2st]
      have := RO.takes
      rcases hent with rfl | rfl | rfl | rfl | rfl | rfl
      · have : (arI 240).1 = 3 := rfl
        show 3 ≤ f.st.length; omega
      · have : (arI 245).1 = 4 := rfl
        show 4 ≤ f.st.length; omega
      · have : (arI 241).1 = 7 := rfl
        show 7 ≤ f.st.length; omega
      · have : (arI 242).1 = 7 := rfl
        show 7 ≤ f.st.length; omega
      · have : (arI 244).1 = 6 := rfl
        show 6 ≤ f.st.length; omega
      · have : (arI 250).1 = 6 := rfl
        show 6 ≤ f.st.length; omega
    refine enters_ok hent S5 N5 (by omega) (by omega) (by omega) hfb hself2 hbal2 (by rw [hf2v]; exact P.val) hT (by rw [hf2st]; omega) (by rw [hf2p]; omega) (by rw [hf2st]; exact hsW) ?_
    intro hi' hm' s' frs' ret' left' q1 q2 q3 q4 q5
    conv => whnf
    refine RetX.same (hk hi' hm' s' frs' ret' left' (e14.trans q1) q2 ⟨q3.now.mono (by omega), fun q hq => (q3.saved q hq).mono (by omega)⟩ (q4.trans ?_) q5)
    dsimp only
    rw [if_neg h0, if_neg h1, if_neg h2, if_neg h3, if_pos h4]
  have hfam31 : famI o ≠ 31 := by unfold famI; rw [if_neg (by omega)]; repeat (first | (split <;> first | omega | skip) | omega)
  have hpl0 := arI_bd hop.1 hop.2
  have htk := RO.takes
  have hrm := RO.room
  have hsW2 : stW f2.st := by rw [hf2st]; exact hsW
  have htk2 : (arI o).1 ≤ f2.st.length := by rw [hf2st]; exact htk
  have hpc2 : f2.pc + 100 < big := by rw [hf2p]; omega
  by_cases c1 : o = 86 ∨ (o = 87 ∧ argI f.st 1 ≠ 0)
  · refine plain_jump (by rw [hf2st]; exact c1) hop.1 hop.2 S5 N5 (by omega) hfb htk2 hpc2 ?_
    intro hi' hm' s' frs' ret' left' q1 q2 q3 q4 q5
    conv => whnf
    refine RetX.same (hk hi' hm' s' frs' ret' left' (e14.trans q1) q2 ⟨q3.now.mono (by omega), fun q hq => (q3.saved q hq).mono (by omega)⟩ (q4.trans ?_) q5)
    dsimp only
    rw [if_neg h0, if_neg h1, if_neg h2, if_neg h3, if_neg h4]
  by_cases c2 : 128 ≤ o ∧ o ≤ 143
  · refine plain_dup c2 ?_ hop.1 hop.2 S5 N5 (by omega) hfb htk2 hpc2 ?_
    · have : (arI o).1 = o - 127 ∧ (arI o).2.1 = o - 126 := by unfold arI; rw [if_neg (by rw [famI_row (by omega)]; decide), if_pos c2]; exact ⟨rfl, rfl⟩
      rw [hf2st]; omega
    · intro hi' hm' s' frs' ret' left' q1 q2 q3 q4 q5
      conv => whnf
      refine RetX.same (hk hi' hm' s' frs' ret' left' (e14.trans q1) q2 ⟨q3.now.mono (by omega), fun q hq => (q3.saved q hq).mono (by omega)⟩ (q4.trans ?_) q5)
      dsimp only
      rw [if_neg h0, if_neg h1, if_neg h2, if_neg h3, if_neg h4]
  by_cases c3 : 144 ≤ o ∧ o ≤ 159
  · refine plain_swap c3 hop.1 hop.2 S5 N5 (by omega) hfb htk2 hpc2 ?_
    intro hi' hm' s' frs' ret' left' q1 q2 q3 q4 q5
    conv => whnf
    refine RetX.same (hk hi' hm' s' frs' ret' left' (e14.trans q1) q2 ⟨q3.now.mono (by omega), fun q hq => (q3.saved q hq).mono (by omega)⟩ (q4.trans ?_) q5)
    dsimp only
    rw [if_neg h0, if_neg h1, if_neg h2, if_neg h3, if_neg h4]
  by_cases c4 : (arI o).2.1 = 1
  · refine plain_val c4 RO.known h4 ?_ ?_ hE5 hself2 hcal2 hsW2 hop.1 hop.2 S5 N5 (by omega) hfb htk2 hpc2 ?_
    · intro h; rw [hf2st]; have := reach_1 (o := o) hA0 (.inl h); omega
    · rw [hf2st]; omega
    · intro hi' hm' s' frs' ret' left' q1 q2 q3 q4 q5
      conv => whnf
      refine RetX.same (hk hi' hm' s' frs' ret' left' (e14.trans q1) q2 ⟨q3.now.mono (by omega), fun q hq => (q3.saved q hq).mono (by omega)⟩ (q4.trans ?_) q5)
      dsimp only
      rw [if_neg h0, if_neg h1, if_neg h2, if_neg h3, if_neg h4]
  have c5 : (arI o).2.1 = 0 := gives_cases hop.1 hop.2 RO.known c2 c3 c4
  refine plain_eff c5 RO.known h4 hfam31 (fun h => c1 (.inl h)) (fun h => ?_) ⟨fun h => ?_, fun h => ?_, fun h => ?_⟩ hsW2 ?_ hop.1 hop.2 S5 N5 (by omega) hfb htk2 hpc2 ?_
  · rw [hf2st]; exact Decidable.byContradiction fun hh => c1 (.inr ⟨h, hh⟩)
  · rw [hf2st]; have := reach_2 hA0 h; omega
  · rw [hf2st]; have := reach_3 (A := argI f.st) hA0; rw [h] at hnd1 hnd0; unfold needI at hnd1; omega
  · rw [hf2st]
    have : 160 ≤ o ∧ o ≤ 164 := by
      refine ⟨h, Int.not_lt.1 fun hh => ?_⟩
      have := eOp_cases o.toNat (by omega) (by rw [show ((o.toNat : Nat) : Int) = o by omega]; exact c5) (by rw [show ((o.toNat : Nat) : Int) = o by omega]; exact RO.known) (by rw [show ((o.toNat : Nat) : Int) = o by omega]; exact h4) (by rw [show ((o.toNat : Nat) : Int) = o by omega]; exact hfam31) (by omega)
      rw [show ((o.toNat : Nat) : Int) = o by omega] at this
      simp only [eL, List.mem_cons, List.not_mem_nil, or_false] at this
      omega
    have := reach_1 (o := o) hA0 (.inr (.inr (.inr this))); omega
  · have : s.w.ref < 2 ^ 60 := P.ref
    have := big_val
    rw [big_val]; omega
  · intro hi' hm' s' frs' ret' left' q1 q2 q3 q4 q5
    conv => whnf
    refine RetX.same (hk hi' hm' s' frs' ret' left' (e14.trans q1) q2 ⟨q3.now.mono (by omega), fun q hq => (q3.saved q hq).mono (by omega)⟩ (q4.trans ?_) q5)
    dsimp only
    rw [if_neg h0, if_neg h1, if_neg h2, if_neg h3, if_neg h4]
end
end Go.Proofs.YgvalwGreat.X
