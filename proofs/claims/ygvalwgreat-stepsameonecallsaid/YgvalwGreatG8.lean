import Derived.Test.YgvalwGreatG7
set_option linter.unusedVariables false
set_option linter.unusedSimpArgs false
namespace Go.Proofs.YgvalwGreat.X
open Go

def crT (o : Int) : Nat := if o = 245 then 4 else 3
/-- A creation, abstractly. -/
def createA (a : AS) (base : List AF) (f : AF) (o : Int) : AS :=
  let me := a.w.acct f.self
  if 6 ≤ base.length ∨ me.bal < argA f.st 0 ∨ 18446744073709551615 ≤ me.nonce then
    { a with frs := base ++ [{ f with st := f.st.take (f.st.length - crT o) ++ [0], pc := f.pc + 1 }] }
  else
    let init := cutN f.mem (argA f.st 1).toNat (argA f.st 2).toNat
    let self := if o = 245 then create2I f.self (argA f.st 3) init else createI f.self me.nonce
    let sent := min f.gas (f.gas - f.gas / 64)
    let w2 := warmW (nonceW a.w f.self (me.nonce + 1)) self
    if (w2.acct self).nonce ≠ 0 ∨ (w2.acct self).code ≠ [] then
      { a with w := w2, frs := base ++ [{ f with gas := f.gas - sent, st := f.st.take (f.st.length - crT o) ++ [0], pc := f.pc + 1 }] }
    else
      enterA { a with w := w2, frs := base ++ [{ f with gas := f.gas - sent, st := f.st.take (f.st.length - crT o), oo := 0, ol := 0 }] }
        { kind := if o = 245 then 6 else 5, natv := 0, static := false, pc := 0, gas := sent, val := argA f.st 0, oo := 0, ol := 0, st := [], mem := [], code := init, input := [], self := self, caller := f.self, saved := w2 }
/-- A block aside stays as it is. -/
theorem CallX.side {P : Program} {f : FuncId} {args : List Value} {hi hm : Hp} {m : Nat} {x : List Value × TypeId} {K : Value → Hp → Prop} (hd : Dj hi (hput hm m x)) (hmn : hm m = none) (hc : CallX P f args (join hi hm) (fun v h' => h' m = none → K v (hput h' m x))) : CallX P f args (join hi (hput hm m x)) K := by
  have hin : hi m = none := hd.lft (hput_same ..)
  have e : ∀ h : Hp, h m = none → join h (hput (fun _ => none) m x) = hput h m x := fun h hn => by
    funext b
    by_cases hb : b = m
    · subst hb; rw [join_r hn, hput_same, hput_same]
    · rw [hput_ne hb]; unfold join; rw [hput_ne hb]; cases h b <;> rfl
  have hj : join hi hm m = none := by rw [join_r hin]; exact hmn
  have e2 : join hi (hput hm m x) = join (join hi hm) (hput (fun _ => none) m x) := by rw [e _ hj, join_putm hin]
  rw [e2]
  refine CallX.frame (fun b => ?_) hc fun v h' hd' k => ?_
  · by_cases hb : b = m
    · subst hb; exact .inl hj
    · exact .inr (by rw [hput_ne hb])
  · have hn : h' m = none := hd'.lft (hput_same ..)
    rw [e _ hn]; exact k hn
theorem cmp_ge {x y : Int} : decide (cmpI x y ≥ 0) = decide (y ≤ x) := by
  rw [decide_eq_decide]; unfold cmpI; split
  · simp; omega
  · split <;> simp <;> omega
theorem setSeg_at {L v : List Value} (h : v.length = 20) : setSeg L 32 v = L.take 32 ++ (v ++ L.drop 52) := by simp [setSeg, h, List.append_assoc]
section
variable {hi hm : Hp} {K : Value → Hp → Prop} {c : Nat} {tc : TypeId} {s : YS} {base : List (YF × List Int)} {f : YF} {m ret : List Int} {left : Int} {N : Nat}

set_option maxRecDepth 100000 in
set_option maxHeartbeats 4000000 in
theorem create240_ok (S : StOK hi hm c tc s (base ++ [(f, m)]) ret left) (hN : StN N s (base ++ [(f, m)])) (hN30 : N + 4 < 2 ^ 30) (hbn : base.length ≤ 90) (hgr : f.gas < big) {fb : Nat} (hfb : at0 s.frS fb) (hself : isB f.self) (hbal : (getA s.w.acc f.self).bal = 0) (hst : crT 240 ≤ f.st.length) (hlen : argI f.st 2 < 2 ^ 40) (hpc : f.pc + 1 < big)
    (hk : StK hi c tc s (N + 3) (createA (absS s (base ++ [(f, m)]) ret left) (base.map absF) (absF (f, m)) 240) K) :
    CallX Hval.prog 132 [.pointer (some ⟨c, 0, none⟩), .pointer (some ⟨fb, (preC base).length, none⟩), .int .u8 240] (join hi hm) K := by
  refine CallX.of_xf T_ok Hval.func132 rfl (by kernel_rfl) (Nat.le_of_ble_eq_true rfl) ?_; conv => whnf
  obtain ⟨fb', pad, tf, hfb', hb, hn1, hn2, hn3⟩ := S.top
  have : some (⟨fb', 0, none⟩ : Addr) = some ⟨fb, 0, none⟩ := hfb'.symm.trans hfb
  cases this
  have hok := S.okT
  have hd := S.dj
  have hc := S.chain
  have hcf : c ≠ fb := S.frC fb hfb
  have hwr := hN.now.room S.now (by omega)
  have hsr : f.stS.2.1 < 2 ^ 30 := by have := hok.n; have := hok.stR; omega
  have hstR := hok.stR
  have hAA : ∀ i, argA (f.st.map Prod.snd) i = argI f.st i := fun i => (argI_abs f.st i).symm
  refine arity_ok (o := 240) (by omega) (by omega) ?_
  rw [show arI 240 = (3, 1, true) from rfl]
  conv => whnf
  refine arg_ok (join_hm hd hb) (hok.st.ext (Ext.jl _ _)) hsr 0 (by decide) ?_; conv => whnf
  have hself0 := ldV_self (join_hm hd hb) hok.self hok.caller (o := (preC base).length + 12) rfl
  refine DrawX.go T_ok hM Hval.func132 (tb := dr132) rfl (by kernel_rfl) ?_; conv => whnf
  refine LoadX.of _ hself0 ?_; conv => whnf
  refine account_ok (xs := s.w.acc) (join_hm hd hc) (show (sCells s)[0]? = some (sl s.w.sA) from rfl) (S.now.acc.arr.ext (Ext.jl _ _)) (fun x hx => (S.now.acc.each x hx).addr) hok.self (by have := hwr.acc; omega) ?_; conv => whnf
  have hx := getA_ok S.now.acc.each hok.self
  generalize hxe : getA s.w.acc f.self = x at *
  have habs : (absS s (base ++ [(f, m)]) ret left).w.acct (absF (f, m)).self = absA x := by show absA (getA s.w.acc f.self) = _; rw [hxe]
  have xlen := acCells_len hx.addr
  have xone := acCells_one x
  refine BoxW.j hd fun m6 hin6 hmn6 hd6' he6' => ?_; conv => whnf
  refine Ob.mk ⟨by rw [List.size_toArray, xlen]; rfl, xone⟩ ?_; conv => whnf
  refine StoreX.j (by rw [List.toList_toArray, xlen]; decide) ?_; conv => whnf
  rw [setSeg_all (by rw [List.toList_toArray, xlen]; rfl)]
  have hd1 : Dj (hput hi m6 (acCells x, 118)) hm := hd6'.hp
  have e1 : Ext hi (hput hi m6 (acCells x, 118)) := Ext.new hin6
  have h6 : hput hi m6 (acCells x, 118) m6 = some (acCells x, 118) := hput_same ..
  clear hd6' he6'
  generalize hput hi m6 (acCells x, 118) = hi1 at *
  have edep : IntKind.i64.wrap ((s.frS.2.1 : Int) - 1) = ((base.length : Nat) : Int) := by rw [wrap_i64 (by omega) (by omega)]; omega
  have hx1 := hx.ext e1
  have v0 : 0 ≤ argI f.st 0 := (argP_ok hok.stE 0).val
  refine DrawX.go T_ok hM Hval.func132 (tb := dr132) rfl (by kernel_rfl) ?_; conv => whnf
  refine LoadX.blk (join_hm hd1 hc) (sl s.frS) rfl ?_; conv => whnf
  rw [edep]
  refine CondX.decI (fun hdp => ?_) (fun hdp => ?_) <;> conv => whnf
  · repeat (first | (refine CondX.tt ?_; conv => whnf) | (refine CondX.ff ?_; conv => whnf))
    refine answer_ok (sw := nilS) (w := 0) (k := 3) (f := f) hd1 hb (hok.ext e1) (Nt_nil _) hst (by have : 3 ≤ f.st.length := hst; omega) hpc fun hi14 f3 e14 hf3 heq3 hd14 => ?_; conv => whnf
    obtain ⟨s3, p3, hf3e⟩ := heq3
    have S14 := (S.ext (e1.trans e14) (hd14.unput hb)).setTop (f' := f3) hfb hb hf3 (by rw [hf3e])
    refine RetX.same (hk hi14 _ s (base ++ [(f3, m)]) ret left (e1.trans e14) S14 ⟨hN.now.mono (by omega), fun q hq => ?_⟩ ?_ (fixS.refl s))
    · rcases List.mem_append.1 hq with h5 | h5
      · exact (hN.saved q (by simp [h5])).mono (by omega)
      · rw [List.mem_singleton.1 h5, hf3e]; exact (hN.saved (f, m) (by simp)).mono (by omega)
    · unfold createA; rw [if_pos (.inl (by simp; omega)), hf3e]; simp [absS, absF, crT]
  repeat (first | (refine CondX.tt ?_; conv => whnf) | (refine CondX.ff ?_; conv => whnf))
  refine LoadX.fld (join_l h6) hx.addr 1 rfl (v := sl x.bs) rfl ?_; conv => whnf
  repeat (first | (refine CondX.tt ?_; conv => whnf) | (refine CondX.ff ?_; conv => whnf))
  refine cmpN (hx1.bal.ext (Ext.jl _ _)) (((argP_ok hok.stE 0).ext e1).ext (Ext.jl _ _)) ?_; conv => whnf
  repeat (first | (refine CondX.tt ?_; conv => whnf) | (refine CondX.ff ?_; conv => whnf))
  rw [cmp_lt]
  refine CondX.decI (fun hlt => ?_) (fun hlt => ?_) <;> conv => whnf
  · repeat (first | (refine CondX.tt ?_; conv => whnf) | (refine CondX.ff ?_; conv => whnf))
    refine answer_ok (sw := nilS) (w := 0) (k := 3) (f := f) hd1 hb (hok.ext e1) (Nt_nil _) hst (by have : 3 ≤ f.st.length := hst; omega) hpc fun hi14 f3 e14 hf3 heq3 hd14 => ?_; conv => whnf
    obtain ⟨s3, p3, hf3e⟩ := heq3
    have S14 := (S.ext (e1.trans e14) (hd14.unput hb)).setTop (f' := f3) hfb hb hf3 (by rw [hf3e])
    refine RetX.same (hk hi14 _ s (base ++ [(f3, m)]) ret left (e1.trans e14) S14 ⟨hN.now.mono (by omega), fun q hq => ?_⟩ ?_ (fixS.refl s))
    · rcases List.mem_append.1 hq with h5 | h5
      · exact (hN.saved q (by simp [h5])).mono (by omega)
      · rw [List.mem_singleton.1 h5, hf3e]; exact (hN.saved (f, m) (by simp)).mono (by omega)
    · unfold createA; rw [if_pos (.inr (.inl (by rw [habs]; show x.bal < argA (f.st.map Prod.snd) 0; rw [hAA]; exact hlt))), hf3e]; simp [absS, absF, crT]
  repeat (first | (refine CondX.tt ?_; conv => whnf) | (refine CondX.ff ?_; conv => whnf))
  refine LoadX.fld (join_l h6) hx.addr 0 rfl (v := sl x.ns) rfl ?_; conv => whnf
  repeat (first | (refine CondX.tt ?_; conv => whnf) | (refine CondX.ff ?_; conv => whnf))
  refine CallX.fj hd1 (num_ok (by omega) (by omega) fun b2 n2 c2 hi2 e2 g2 hd2 => ?_); conv => whnf
  refine Ob.mk (ldV_fld (join_l (e2 _ _ h6)) hx.addr 0 rfl rfl) ?_; conv => whnf
  repeat (first | (refine CondX.tt ?_; conv => whnf) | (refine CondX.ff ?_; conv => whnf))
  refine cmpN ((hx1.nonce.ext e2).ext (Ext.jl _ _)) (g2.ext (Ext.jl _ _)) ?_; conv => whnf
  repeat (first | (refine CondX.tt ?_; conv => whnf) | (refine CondX.ff ?_; conv => whnf))
  rw [cmp_ge]
  have e12 := e1.trans e2
  refine CondX.decI (fun hge => ?_) (fun hge => ?_) <;> conv => whnf
  · repeat (first | (refine CondX.tt ?_; conv => whnf) | (refine CondX.ff ?_; conv => whnf))
    refine answer_ok (sw := nilS) (w := 0) (k := 3) (f := f) hd2 hb (hok.ext e12) (Nt_nil _) hst (by have : 3 ≤ f.st.length := hst; omega) hpc fun hi14 f3 e14 hf3 heq3 hd14 => ?_; conv => whnf
    obtain ⟨s3, p3, hf3e⟩ := heq3
    have S14 := (S.ext (e12.trans e14) (hd14.unput hb)).setTop (f' := f3) hfb hb hf3 (by rw [hf3e])
    refine RetX.same (hk hi14 _ s (base ++ [(f3, m)]) ret left (e12.trans e14) S14 ⟨hN.now.mono (by omega), fun q hq => ?_⟩ ?_ (fixS.refl s))
    · rcases List.mem_append.1 hq with h5 | h5
      · exact (hN.saved q (by simp [h5])).mono (by omega)
      · rw [List.mem_singleton.1 h5, hf3e]; exact (hN.saved (f, m) (by simp)).mono (by omega)
    · unfold createA; rw [if_pos (.inr (.inr (by rw [habs]; exact hge))), hf3e]; simp [absS, absF, crT]
  repeat (first | (refine CondX.tt ?_; conv => whnf) | (refine CondX.ff ?_; conv => whnf))
  have hgo : ¬ (6 ≤ (base.map absF).length ∨ ((absS s (base ++ [(f, m)]) ret left).w.acct (absF (f, m)).self).bal < argA (absF (f, m)).st 0 ∨ 18446744073709551615 ≤ ((absS s (base ++ [(f, m)]) ret left).w.acct (absF (f, m)).self).nonce) := by
    rw [habs]
    show ¬ (6 ≤ (base.map absF).length ∨ x.bal < argA (f.st.map Prod.snd) 0 ∨ 18446744073709551615 ≤ x.nonce)
    rw [hAA, List.length_map]
    have h1 : (argP f.st 0).2 = argI f.st 0 := rfl
    rintro (h | h | h) <;> omega
  have hvz : argI f.st 0 = 0 := by have h1 : (argP f.st 0).2 = argI f.st 0 := rfl; omega
  have hn0 := hx.nonce.val
  have h62 := e2 _ _ h6
  have hx2 := hx1.ext e2
  clear hd1
  have hself2 := ldV_self (join_hm hd2 hb) hok.self hok.caller (o := (preC base).length + 12) rfl
  refine DrawX.go T_ok hM Hval.func132 (tb := dr132) rfl (by kernel_rfl) ?_; conv => whnf
  refine LoadX.of _ hself2 ?_; conv => whnf
  refine CallX.fj hd2 (normN ((argP_ok hok.stE 0).ext e12) fun bv nv cv hi3 e3 g3 hd3 => ?_); conv => whnf
  have hself3 := ldV_self (join_hm hd3 hb) hok.self hok.caller (o := (preC base).length + 12) rfl
  repeat (refine Ob.mk (by first | exact hself3) ?_; conv => whnf)
  have e13 := e12.trans e3
  refine arg_ok (join_hm hd3 hb) ((hok.st.ext e13).ext (Ext.jl _ _)) hsr 1 (by decide) ?_; conv => whnf
  repeat (refine Ob.mk (by first | exact hself3) ?_; conv => whnf)
  refine arg_ok (join_hm hd3 hb) ((hok.st.ext e13).ext (Ext.jl _ _)) hsr 2 (by decide) ?_; conv => whnf
  repeat (refine Ob.mk (by first | exact hself3) ?_; conv => whnf)
  refine read_ok hd3 hb (S.memT.byt hd3) ((argP_ok hok.stE 1).ext e13) ((argP_ok hok.stE 2).ext e13) hlen fun sC hi4 e4 hd4 g4 => ?_; conv => whnf
  have hself4 := ldV_self (join_hm hd4 hb) hok.self hok.caller (o := (preC base).length + 12) rfl
  repeat (refine Ob.mk (by first | exact hself4) ?_; conv => whnf)
  have g4 : BytS hi4 sC (cutN m (argI f.st 1).toNat (argI f.st 2).toNat) := g4
  have alenS : (bcells f.self).length = 20 := by rw [bcells_length, hok.self]
  erw [fillL_one (off := 0) (v := .int .u8 5) rfl rfl (by decide), fillL_one (off := 5) (v := .slice bv nv cv) rfl rfl (Nat.le_of_ble_eq_true rfl), fillL_agg (off := 32) (n := 20) rfl alenS (Nat.le_of_ble_eq_true rfl)]
  rw [setSeg_at alenS]
  erw [fillL_one (off := 10) (v := sl sC) rfl rfl (by rw [List.length_append, List.length_append, alenS]; exact Nat.le_of_ble_eq_true rfl), fillL_done]
  generalize hini : cutN m (argI f.st 1).toNat (argI f.st 2).toNat = ini at *
  have hfill : setSeg ((setSeg (setSeg z135 0 [Value.int IntKind.u8 5]) 5 [Value.slice bv nv cv]).take 32 ++ (bcells f.self ++ (setSeg (setSeg z135 0 [Value.int IntKind.u8 5]) 5 [Value.slice bv nv cv]).drop 52)) 10 [sl sC] = fCells { chF 5 false (bv, nv, cv) (argI f.st 0) (List.replicate 20 0) f.self with codeS := sC, code := ini } := rfl
  erw [hfill]
  refine forceL_of (fok_fCells _) ?_; conv => whnf
  obtain ⟨ch, hch⟩ : ∃ ch : YF, ch = { chF 5 false (bv, nv, cv) (argI f.st 0) (List.replicate 20 0) f.self with codeS := sC, code := ini } := ⟨_, rfl⟩
  rw [← hch]
  have chok : ch.ok hi4 := by
    rw [hch]
    have q := chF_ok (kind := 5) (static := false) (vS := (bv, nv, cv)) (v := argI f.st 0) (g3.ext e4) (show (List.replicate 20 (0 : Int)).length = 20 from rfl) hok.self
    exact ⟨q.pc, q.gas, q.val, q.oo, q.ol, q.st, q.stE, q.stR, g4, q.input, q.self, q.caller, q.saved⟩
  have chlen := fCells_len chok.self chok.caller
  refine BoxW.jm hd4 fun m13 hin13 hmn13 hd13 => ?_; conv => whnf
  refine Ob.mk ⟨by rw [List.size_toArray, chlen]; rfl, fCells_one ch⟩ ?_; conv => whnf
  refine StoreX.top hd13 ([] ++ (fCells ch ++ [])) (by rw [setSeg_all (by rw [List.toList_toArray, chlen]; rfl)]; simp) (by rw [List.toList_toArray, chlen]; decide) fun hd5 => ?_; conv => whnf
  have hfb13 : fb ≠ m13 := ne_get hb hmn13
  have hc13 : c ≠ m13 := ne_get hc hmn13
  have hb5 : ∀ y, hput hm m13 y fb = some (preC base ++ (fCells f ++ pad), tf) := fun y => hput_old hb hmn13
  have hself5 := ldV_self (join_hm hd5 (hb5 _)) hok.self hok.caller (o := (preC base).length + 12) rfl
  have h64 := e4 _ _ (e3 _ _ h62)
  have hx4 := (hx2.ext e3).ext e4
  have S4 := S.ext (e13.trans e4) hd4
  refine DrawX.go T_ok hM Hval.func132 (tb := dr132) rfl (by kernel_rfl) ?_; conv => whnf
  refine LoadX.of _ hself5 ?_; conv => whnf
  refine LoadX.fld (join_l h64) hx.addr 0 rfl (v := sl x.ns) rfl ?_; conv => whnf
  refine createAddr_ok hok.self hself (hx4.nonce.ext (Ext.jl _ _)) (by omega) ?_; conv => whnf
  repeat (refine Ob.mk (by first | exact hself5 | exact ldV_fld (join_l h64) hx.addr 0 rfl rfl) ?_; conv => whnf)
  have slen : (createI f.self x.nonce).length = 20 := hashedI_len _
  refine Ob.mk ⟨by rw [List.size_toArray, bcells_length, slen]; rfl, ones_bcells _⟩ ?_; conv => whnf
  refine StoreX.top hd5 ([] ++ (fCells { ch with self := createI f.self x.nonce } ++ [])) (fCells_self chok.self slen) (by rw [List.toList_toArray, bcells_length, slen, List.nil_append, List.append_nil, chlen]; exact Nat.le_of_ble_eq_true rfl) fun hd6 => ?_; conv => whnf
  repeat (first | (refine CondX.tt ?_; conv => whnf) | (refine CondX.ff ?_; conv => whnf))
  obtain ⟨ch1, hch1⟩ : ∃ ch1 : YF, ch1 = { chF 5 false (bv, nv, cv) (argI f.st 0) (createI f.self x.nonce) f.self with codeS := sC, code := ini } := ⟨_, rfl⟩
  have hch1' : { ch with self := createI f.self x.nonce } = ch1 := by rw [hch, hch1]; rfl
  rw [hch1'] at hd6 ⊢
  have ch1ok : ch1.ok hi4 := by rw [← hch1']; exact ⟨chok.pc, chok.gas, chok.val, chok.oo, chok.ol, chok.st, chok.stE, chok.stR, chok.code, chok.input, slen, chok.caller, chok.saved⟩
  clear hch1'
  generalize hns : createI f.self x.nonce = ns at *
  have chs : ch1.self = ns := by rw [hch1]; rfl
  have hself6 := ldV_self (join_hm hd6 (hb5 _)) hok.self hok.caller (o := (preC base).length + 12) rfl
  refine DrawX.go T_ok hM Hval.func132 (tb := dr132) rfl (by kernel_rfl) ?_; conv => whnf
  refine LoadX.of _ hself6 ?_; conv => whnf
  refine LoadX.fld (join_l h64) hx.addr 0 rfl (v := sl x.ns) rfl ?_; conv => whnf
  refine CallX.fj hd6 (num_ok (by omega) (by omega) fun b9 n9 c9 hi9 e9 g9 hd9 => ?_); conv => whnf
  have hself9 := ldV_self (join_hm hd9 (hb5 _)) hok.self hok.caller (o := (preC base).length + 12) rfl
  repeat (refine Ob.mk (by first | exact hself9 | exact ldV_fld (join_l (e9 _ _ h64)) hx.addr 0 rfl rfl) ?_; conv => whnf)
  refine CallX.fj hd9 (addN (hx4.nonce.ext e9) g9 (by have := big_lt; omega) fun b10 n10 c10 hi10 e10 g10 hd10 => ?_); conv => whnf
  have hself10 := ldV_self (join_hm hd10 (hb5 _)) hok.self hok.caller (o := (preC base).length + 12) rfl
  have h610 := e10 _ _ (e9 _ _ h64)
  repeat (refine Ob.mk (by first | exact hself10 | exact ldV_fld (join_l h610) hx.addr 0 rfl rfl) ?_; conv => whnf)
  refine CallX.side hd10 hmn13 (setNonceSt_ok (sn := (b10, n10, c10)) (S4.ext (e9.trans e10) (hd10.mono (Ext.new hmn13))) hN.now (by omega) hok.self g10 ?_)
  intro hiA wA eA SA szA absA_ hnone
  obtain ⟨hinA, hmnA⟩ := join_none hnone
  rw [join_putm hinA]
  have hdA : Dj hiA (hput (hput hm c (sCells { s with w := wA }, tc)) m13 ([] ++ (fCells ch1 ++ []), 135)) := SA.dj.newm hinA
  conv => whnf
  obtain ⟨s1, hs1⟩ : ∃ s1 : YS, s1 = { s with w := wA } := ⟨_, rfl⟩
  have hs1w : s1.w = wA := by rw [hs1]
  have hs1f : s1.frS = s.frS := by rw [hs1]
  rw [← hs1] at SA hdA hmnA ⊢
  have hbA : hput hm c (sCells s1, tc) fb = some (preC base ++ (fCells f ++ pad), tf) := by rw [hput_ne hcf.symm]; exact hb
  generalize hput hm c (sCells s1, tc) = hmA at *
  have hfb1 : at0 s1.frS fb := by rw [hs1f]; exact hfb
  have eA4 : Ext hi4 hiA := (e9.trans e10).trans eA
  have ch1A := ch1ok.ext eA4
  have hokA := hok.ext ((e13.trans e4).trans eA4)
  have hbA5 : ∀ y, hput hmA m13 y fb = some (preC base ++ (fCells f ++ pad), tf) := fun y => hput_old hbA hmnA
  refine DrawX.go T_ok hM Hval.func132 (tb := dr132) rfl (by kernel_rfl) ?_; conv => whnf
  refine LoadX.mid (join_hm hdA (hbA5 _)) 4 (by decide) rfl (v := sl f.gasS) rfl ?_; conv => whnf
  refine LoadX.mid (join_hm hdA (hbA5 _)) 4 (by decide) rfl (v := sl f.gasS) rfl ?_; conv => whnf
  have hg0 := hok.gas.val
  refine CallX.fj hdA (ypSentGas_ok hokA.gas hokA.gas hgr fun bs ns' cs hiB eB gB hdB => ?_); conv => whnf
  repeat (refine Ob.mk (by first | exact ldV_mid (join_hm hdB (hbA5 _)) 4 (by decide) rfl rfl) ?_; conv => whnf)
  have hsent : min f.gas (f.gas - f.gas / 64) ≤ f.gas ∧ 0 ≤ min f.gas (f.gas - f.gas / 64) := by omega
  have gB : NtS hiB (bs, ns', cs) (min f.gas (f.gas - f.gas / 64)) := gB
  generalize hsn : min f.gas (f.gas - f.gas / 64) = sent at *
  refine StoreX.mid (pre := []) (post := []) (f := ch1) hdB (hput_same ..) 4 (by decide) rfl { ch1 with gasS := (bs, ns', cs), gas := sent } rfl fun hdC => ?_; conv => whnf
  rw [hput_hput] at hdC ⊢
  have h13C := hput_same hmA m13 ([] ++ (fCells { ch1 with gasS := (bs, ns', cs), gas := sent } ++ []), (135 : TypeId))
  refine DrawX.go T_ok hM Hval.func132 (tb := dr132) rfl (by kernel_rfl) ?_; conv => whnf
  refine LoadX.mid (join_hm hdC (hbA5 _)) 4 (by decide) rfl (v := sl f.gasS) rfl ?_; conv => whnf
  refine LoadX.mid (pre := []) (post := []) (f := { ch1 with gasS := (bs, ns', cs), gas := sent }) (join_hm hdC h13C) 4 (by decide) rfl (v := sl (bs, ns', cs)) rfl ?_; conv => whnf
  refine CallX.fj hdC (less_ok (hokA.gas.ext eB) gB fun bl nl cl hiD eD gD hdD => ?_); conv => whnf
  repeat (refine Ob.mk (by first | exact ldV_mid (join_hm hdD (hbA5 _)) 4 (by decide) rfl rfl | exact ldV_mid (pre := []) (post := []) (f := { ch1 with gasS := (bs, ns', cs), gas := sent }) (join_hm hdD h13C) 4 (by decide) rfl rfl) ?_; conv => whnf)
  have hless : lessI f.gas sent = f.gas - sent := by unfold lessI; rw [if_neg (by omega)]
  rw [hless] at gD
  have hokD := (hokA.ext eB).ext eD
  obtain ⟨f1, hf1⟩ : ∃ f1 : YF, f1 = { f with gasS := (bl, nl, cl), gas := f.gas - sent } := ⟨_, rfl⟩
  have hf1ok : f1.ok hiD := by rw [hf1]; exact ⟨hokD.pc, gD, hokD.val, hokD.oo, hokD.ol, hokD.st, hokD.stE, hokD.stR, hokD.code, hokD.input, hokD.self, hokD.caller, hokD.saved⟩
  refine StoreX.mid (f := f) hdD (hbA5 _) 4 (by decide) rfl f1 (by rw [hf1]; rfl) fun hdE => ?_; conv => whnf
  rw [hput_comm hfb13] at hdE ⊢
  have SD := (SA.ext (eB.trans eD) (hdD.mono (Ext.new hmnA))).setTop (f' := f1) hfb1 hbA hf1ok (by rw [hf1])
  have hmnE : hput hmA fb (preC base ++ (fCells f1 ++ pad), tf) m13 = none := by rw [hput_ne hfb13.symm]; exact hmnA
  have hbE : hput hmA fb (preC base ++ (fCells f1 ++ pad), tf) fb = some (preC base ++ (fCells f1 ++ pad), tf) := hput_same ..
  generalize hput hmA fb (preC base ++ (fCells f1 ++ pad), tf) = hmE at *
  obtain ⟨ch2, hch2⟩ : ∃ ch2 : YF, ch2 = { ch1 with gasS := (bs, ns', cs), gas := sent } := ⟨_, rfl⟩
  have ch2s : ch2.self = ns := by rw [hch2]; exact chs
  have ch2ok : ch2.ok hiD := by
    rw [hch2]
    have q := (ch1A.ext eB).ext eD
    exact ⟨q.pc, gB.ext eD, q.val, q.oo, q.ol, q.st, q.stE, q.stR, q.code, q.input, q.self, q.caller, q.saved⟩
  rw [← hch2] at hdE ⊢
  have hselfE := ldV_self (pre := []) (post := []) (f := ch2) (join_hm hdE (hput_same ..)) ch2ok.self ch2ok.caller (o := 12) rfl
  refine DrawX.go T_ok hM Hval.func132 (tb := dr132) rfl (by kernel_rfl) ?_; conv => whnf
  refine LoadX.of _ hselfE ?_; conv => whnf
  rw [ch2s]
  refine CallX.side hdE hmnE (warmSt_ok (N := N + 1) SD (by rw [hs1w]; exact szA) (by omega) slen ?_)
  intro hiF wF eF SF szF absF_ hnoneF
  obtain ⟨hinF, hmnF⟩ := join_none hnoneF
  rw [join_putm hinF]
  have hdF : Dj hiF (hput (hput hmE c (sCells { s1 with w := wF }, tc)) m13 ([] ++ (fCells ch2 ++ []), 135)) := SF.dj.newm hinF
  conv => whnf
  obtain ⟨s2, hs2⟩ : ∃ s2 : YS, s2 = { s1 with w := wF } := ⟨_, rfl⟩
  have hs2w : s2.w = wF := by rw [hs2]
  have hs2f : s2.frS = s.frS := by rw [hs2]; exact hs1f
  rw [← hs2] at SF hdF hmnF ⊢
  have hbF : hput hmE c (sCells s2, tc) fb = some (preC base ++ (fCells f1 ++ pad), tf) := by rw [hput_ne hcf.symm]; exact hbE
  generalize hput hmE c (sCells s2, tc) = hmF at *
  have hfb2 : at0 s2.frS fb := by rw [hs2f]; exact hfb
  have f1F := hf1ok.ext eF
  have ch2F := ch2ok.ext eF
  have hselfF := ldV_self (pre := []) (post := []) (f := ch2) (join_hm hdF (hput_same ..)) ch2F.self ch2F.caller (o := 12) rfl
  have hcF : hput hmF m13 ([] ++ (fCells ch2 ++ []), 135) c = some (sCells s2, tc) := hput_old SF.chain hmnF
  have hbFm : hput hmF m13 ([] ++ (fCells ch2 ++ []), 135) fb = some (preC base ++ (fCells f1 ++ pad), tf) := hput_old hbF hmnF
  have hw2 : absW s2.w = warmW (nonceW (absW s.w) f.self (x.nonce + 1)) ns := by rw [hs2w, absF_, hs1w, absA_]
  refine LoadX.of _ hselfF ?_; conv => whnf
  rw [ch2s]
  refine taken_ok (xs := s2.w.acc) (join_hm hdF hcF) (show (sCells s2)[0]? = some (sl s2.w.sA) from rfl) (SF.now.acc.ext (Ext.jl _ _)) slen (by have := ((show s2.w.sz (N + 1 + 1) by rw [hs2w]; exact szF).room SF.now (by omega)).acc; omega) ?_; conv => whnf
  have htk : ∀ P : AA → Prop, P (absA (getA s2.w.acc ns)) = P ((warmW (nonceW (absW s.w) f.self (x.nonce + 1)) ns).acct ns) := fun P => by rw [← hw2]; rfl
  have eAll : Ext hi hiF := ((((e13.trans e4).trans eA4).trans eB).trans eD).trans eF
  have hfix : fixS s s2 := by rw [hs2, hs1]; exact ⟨rfl, rfl, rfl, rfl, rfl, rfl, rfl, rfl⟩
  have hrl : absS s2 (base ++ [(f, m)]) ret left = { absS s (base ++ [(f, m)]) ret left with w := warmW (nonceW (absW s.w) f.self (x.nonce + 1)) ns } := by
    unfold absS; rw [hw2, hs2, hs1]
  have hme : ((absS s (base ++ [(f, m)]) ret left).w.acct (absF (f, m)).self).nonce = x.nonce := by rw [habs]; rfl
  have hf1st : f1.st = f.st := by rw [hf1]
  have hself' : (if (240 : Int) = 245 then create2I (absF (f, m)).self (argA (absF (f, m)).st 3) (cutN (absF (f, m)).mem (argA (absF (f, m)).st 1).toNat (argA (absF (f, m)).st 2).toNat) else createI (absF (f, m)).self ((absS s (base ++ [(f, m)]) ret left).w.acct (absF (f, m)).self).nonce) = ns := by
    rw [hme]
    show (if (240 : Int) = 245 then create2I f.self (argA (f.st.map Prod.snd) 3) (cutN m (argA (f.st.map Prod.snd) 1).toNat (argA (f.st.map Prod.snd) 2).toNat) else createI f.self x.nonce) = ns
    rw [hAA, hAA, hAA, hini]
    exact hns
  have hph : s2.phase = s.phase := by rw [hs2, hs1]
  have hstt : s2.status = s.status := by rw [hs2, hs1]
  refine CondX.decI (fun htaken => ?_) (fun htaken => ?_) <;> conv => whnf
  · refine answer_ok (sw := nilS) (w := 0) (k := 3) (f := f1) hdF hbFm f1F (Nt_nil _) (by rw [hf1st]; exact hst) (by have : 3 ≤ f.st.length := hst; rw [hf1st]; omega) (by rw [hf1]; exact hpc) fun hiG f3 eG hf3 heq3 hdG => ?_; conv => whnf
    obtain ⟨s3, p3, hf3e⟩ := heq3
    have SG := ((SF.more (Ext.new hmnF) hdF).ext eG (hdG.unput hbFm)).setTop (f' := f3) hfb2 hbFm hf3 (by rw [hf3e])
    refine RetX.same (hk hiG _ s2 (base ++ [(f3, m)]) ret left (eAll.trans eG) SG ⟨by rw [hs2w]; exact szF.mono (by omega), fun q hq => ?_⟩ ?_ hfix)
    · rcases List.mem_append.1 hq with h5 | h5
      · exact (hN.saved q (by simp [h5])).mono (by omega)
      · rw [List.mem_singleton.1 h5, hf3e, hf1]; exact (hN.saved (f, m) (by simp)).mono (by omega)
    · unfold createA
      rw [if_neg hgo]
      dsimp only
      rw [hself', hme]
      rw [if_pos (by have := (htk fun a => a.nonce ≠ 0 ∨ a.code ≠ []).mp htaken; exact this)]
      unfold absS
      rw [hw2, hf3e, hf1, hph, hstt]
      simp [absF, crT, hsn]
  · refine wait_ok (so := nilS) (sn := nilS) (x := 0) (y := 0) (k := 3) (f := f1) hdF hbFm f1F (Nt_nil _) (Nt_nil _) (by rw [hf1st]; exact hst) fun hiG f4 eG hf4 heq4 hdG => ?_; conv => whnf
    obtain ⟨s4, s41, s42, hf4e⟩ := heq4
    have h13G : hput (hput hmF m13 ([] ++ (fCells ch2 ++ []), 135)) fb (preC base ++ (fCells f4 ++ pad), tf) m13 = some ([] ++ (fCells ch2 ++ []), 135) := by rw [hput_ne hfb13.symm]; exact hput_same ..
    have ch2len := fCells_len ch2F.self ch2F.caller
    refine LoadX.all (c := [] ++ (fCells ch2 ++ [])) (join_hm hdG h13G) (by rw [List.nil_append, List.append_nil, ch2len]; rfl) ?_; conv => whnf
    rw [List.nil_append, List.append_nil] at hdF hdG hbFm ⊢
    have SG := ((SF.more (Ext.new (x := (fCells ch2, 135)) hmnF) hdF).ext eG (hdG.unput hbFm)).setTop (f' := f4) hfb2 hbFm hf4 (by rw [hf4e])
    have hNG : StN (N + 2) s2 (base ++ [(f4, m)]) := ⟨by rw [hs2w]; exact szF, fun q hq => by
      rcases List.mem_append.1 hq with h5 | h5
      · exact (hN.saved q (by simp [h5])).mono (by omega)
      · rw [List.mem_singleton.1 h5, hf4e, hf1]; exact (hN.saved (f, m) (by simp)).mono (by omega)⟩
    refine enterSt_ok (f := ch2) SG hNG (by omega) (by simp; omega) (ch2F.ext eG) (by rw [hch2, hch1]; exact hvz) (by rw [hch2, hch1]; rfl) ?_
    intro hi' hm' s' frs' ret' left' q1 q2 q3 q4 q5
    conv => whnf
    refine RetX.same (hk hi' hm' s' frs' ret' left' ((eAll.trans eG).trans q1) q2 q3 ?_ (fixS.trans hfix q5))
    rw [q4]
    unfold createA
    rw [if_neg hgo]
    dsimp only
    rw [hself', hme]
    rw [if_neg (by have := (htk fun a => a.nonce ≠ 0 ∨ a.code ≠ []); intro hh; exact htaken (this.mpr hh))]
    unfold absS
    rw [hw2, hf4e, hf1, hph, hstt]
    simp [absF, crT, hsn, enterA, hch2, hch1, chF, hAA, hini]
    try rfl
set_option maxRecDepth 100000 in
set_option maxHeartbeats 4000000 in
theorem create245_ok (S : StOK hi hm c tc s (base ++ [(f, m)]) ret left) (hN : StN N s (base ++ [(f, m)])) (hN30 : N + 4 < 2 ^ 30) (hbn : base.length ≤ 90) (hgr : f.gas < big) {fb : Nat} (hfb : at0 s.frS fb) (hself : isB f.self) (hbal : (getA s.w.acc f.self).bal = 0) (hst : crT 245 ≤ f.st.length) (hlen : argI f.st 2 < 2 ^ 40) (hpc : f.pc + 1 < big) (hsW : stW f.st)
    (hk : StK hi c tc s (N + 3) (createA (absS s (base ++ [(f, m)]) ret left) (base.map absF) (absF (f, m)) 245) K) :
    CallX Hval.prog 132 [.pointer (some ⟨c, 0, none⟩), .pointer (some ⟨fb, (preC base).length, none⟩), .int .u8 245] (join hi hm) K := by
  refine CallX.of_xf T_ok Hval.func132 rfl (by kernel_rfl) (Nat.le_of_ble_eq_true rfl) ?_; conv => whnf
  obtain ⟨fb', pad, tf, hfb', hb, hn1, hn2, hn3⟩ := S.top
  have : some (⟨fb', 0, none⟩ : Addr) = some ⟨fb, 0, none⟩ := hfb'.symm.trans hfb
  cases this
  have hok := S.okT
  have hd := S.dj
  have hc := S.chain
  have hcf : c ≠ fb := S.frC fb hfb
  have hwr := hN.now.room S.now (by omega)
  have hsr : f.stS.2.1 < 2 ^ 30 := by have := hok.n; have := hok.stR; omega
  have hstR := hok.stR
  have hAA : ∀ i, argA (f.st.map Prod.snd) i = argI f.st i := fun i => (argI_abs f.st i).symm
  refine arity_ok (o := 245) (by omega) (by omega) ?_
  rw [show arI 245 = (4, 1, true) from rfl]
  conv => whnf
  refine arg_ok (join_hm hd hb) (hok.st.ext (Ext.jl _ _)) hsr 0 (by decide) ?_; conv => whnf
  have hself0 := ldV_self (join_hm hd hb) hok.self hok.caller (o := (preC base).length + 12) rfl
  refine DrawX.go T_ok hM Hval.func132 (tb := dr132) rfl (by kernel_rfl) ?_; conv => whnf
  refine LoadX.of _ hself0 ?_; conv => whnf
  refine account_ok (xs := s.w.acc) (join_hm hd hc) (show (sCells s)[0]? = some (sl s.w.sA) from rfl) (S.now.acc.arr.ext (Ext.jl _ _)) (fun x hx => (S.now.acc.each x hx).addr) hok.self (by have := hwr.acc; omega) ?_; conv => whnf
  have hx := getA_ok S.now.acc.each hok.self
  generalize hxe : getA s.w.acc f.self = x at *
  have habs : (absS s (base ++ [(f, m)]) ret left).w.acct (absF (f, m)).self = absA x := by show absA (getA s.w.acc f.self) = _; rw [hxe]
  have xlen := acCells_len hx.addr
  have xone := acCells_one x
  refine BoxW.j hd fun m6 hin6 hmn6 hd6' he6' => ?_; conv => whnf
  refine Ob.mk ⟨by rw [List.size_toArray, xlen]; rfl, xone⟩ ?_; conv => whnf
  refine StoreX.j (by rw [List.toList_toArray, xlen]; decide) ?_; conv => whnf
  rw [setSeg_all (by rw [List.toList_toArray, xlen]; rfl)]
  have hd1 : Dj (hput hi m6 (acCells x, 118)) hm := hd6'.hp
  have e1 : Ext hi (hput hi m6 (acCells x, 118)) := Ext.new hin6
  have h6 : hput hi m6 (acCells x, 118) m6 = some (acCells x, 118) := hput_same ..
  clear hd6' he6'
  generalize hput hi m6 (acCells x, 118) = hi1 at *
  have edep : IntKind.i64.wrap ((s.frS.2.1 : Int) - 1) = ((base.length : Nat) : Int) := by rw [wrap_i64 (by omega) (by omega)]; omega
  have hx1 := hx.ext e1
  have v0 : 0 ≤ argI f.st 0 := (argP_ok hok.stE 0).val
  refine DrawX.go T_ok hM Hval.func132 (tb := dr132) rfl (by kernel_rfl) ?_; conv => whnf
  refine LoadX.blk (join_hm hd1 hc) (sl s.frS) rfl ?_; conv => whnf
  rw [edep]
  refine CondX.decI (fun hdp => ?_) (fun hdp => ?_) <;> conv => whnf
  · repeat (first | (refine CondX.tt ?_; conv => whnf) | (refine CondX.ff ?_; conv => whnf))
    refine answer_ok (sw := nilS) (w := 0) (k := 4) (f := f) hd1 hb (hok.ext e1) (Nt_nil _) hst (by have : 4 ≤ f.st.length := hst; omega) hpc fun hi14 f3 e14 hf3 heq3 hd14 => ?_; conv => whnf
    obtain ⟨s3, p3, hf3e⟩ := heq3
    have S14 := (S.ext (e1.trans e14) (hd14.unput hb)).setTop (f' := f3) hfb hb hf3 (by rw [hf3e])
    refine RetX.same (hk hi14 _ s (base ++ [(f3, m)]) ret left (e1.trans e14) S14 ⟨hN.now.mono (by omega), fun q hq => ?_⟩ ?_ (fixS.refl s))
    · rcases List.mem_append.1 hq with h5 | h5
      · exact (hN.saved q (by simp [h5])).mono (by omega)
      · rw [List.mem_singleton.1 h5, hf3e]; exact (hN.saved (f, m) (by simp)).mono (by omega)
    · unfold createA; rw [if_pos (.inl (by simp; omega)), hf3e]; simp [absS, absF, crT]
  repeat (first | (refine CondX.tt ?_; conv => whnf) | (refine CondX.ff ?_; conv => whnf))
  refine LoadX.fld (join_l h6) hx.addr 1 rfl (v := sl x.bs) rfl ?_; conv => whnf
  repeat (first | (refine CondX.tt ?_; conv => whnf) | (refine CondX.ff ?_; conv => whnf))
  refine cmpN (hx1.bal.ext (Ext.jl _ _)) (((argP_ok hok.stE 0).ext e1).ext (Ext.jl _ _)) ?_; conv => whnf
  repeat (first | (refine CondX.tt ?_; conv => whnf) | (refine CondX.ff ?_; conv => whnf))
  rw [cmp_lt]
  refine CondX.decI (fun hlt => ?_) (fun hlt => ?_) <;> conv => whnf
  · repeat (first | (refine CondX.tt ?_; conv => whnf) | (refine CondX.ff ?_; conv => whnf))
    refine answer_ok (sw := nilS) (w := 0) (k := 4) (f := f) hd1 hb (hok.ext e1) (Nt_nil _) hst (by have : 4 ≤ f.st.length := hst; omega) hpc fun hi14 f3 e14 hf3 heq3 hd14 => ?_; conv => whnf
    obtain ⟨s3, p3, hf3e⟩ := heq3
    have S14 := (S.ext (e1.trans e14) (hd14.unput hb)).setTop (f' := f3) hfb hb hf3 (by rw [hf3e])
    refine RetX.same (hk hi14 _ s (base ++ [(f3, m)]) ret left (e1.trans e14) S14 ⟨hN.now.mono (by omega), fun q hq => ?_⟩ ?_ (fixS.refl s))
    · rcases List.mem_append.1 hq with h5 | h5
      · exact (hN.saved q (by simp [h5])).mono (by omega)
      · rw [List.mem_singleton.1 h5, hf3e]; exact (hN.saved (f, m) (by simp)).mono (by omega)
    · unfold createA; rw [if_pos (.inr (.inl (by rw [habs]; show x.bal < argA (f.st.map Prod.snd) 0; rw [hAA]; exact hlt))), hf3e]; simp [absS, absF, crT]
  repeat (first | (refine CondX.tt ?_; conv => whnf) | (refine CondX.ff ?_; conv => whnf))
  refine LoadX.fld (join_l h6) hx.addr 0 rfl (v := sl x.ns) rfl ?_; conv => whnf
  repeat (first | (refine CondX.tt ?_; conv => whnf) | (refine CondX.ff ?_; conv => whnf))
  refine CallX.fj hd1 (num_ok (by omega) (by omega) fun b2 n2 c2 hi2 e2 g2 hd2 => ?_); conv => whnf
  refine Ob.mk (ldV_fld (join_l (e2 _ _ h6)) hx.addr 0 rfl rfl) ?_; conv => whnf
  repeat (first | (refine CondX.tt ?_; conv => whnf) | (refine CondX.ff ?_; conv => whnf))
  refine cmpN ((hx1.nonce.ext e2).ext (Ext.jl _ _)) (g2.ext (Ext.jl _ _)) ?_; conv => whnf
  repeat (first | (refine CondX.tt ?_; conv => whnf) | (refine CondX.ff ?_; conv => whnf))
  rw [cmp_ge]
  have e12 := e1.trans e2
  refine CondX.decI (fun hge => ?_) (fun hge => ?_) <;> conv => whnf
  · repeat (first | (refine CondX.tt ?_; conv => whnf) | (refine CondX.ff ?_; conv => whnf))
    refine answer_ok (sw := nilS) (w := 0) (k := 4) (f := f) hd2 hb (hok.ext e12) (Nt_nil _) hst (by have : 4 ≤ f.st.length := hst; omega) hpc fun hi14 f3 e14 hf3 heq3 hd14 => ?_; conv => whnf
    obtain ⟨s3, p3, hf3e⟩ := heq3
    have S14 := (S.ext (e12.trans e14) (hd14.unput hb)).setTop (f' := f3) hfb hb hf3 (by rw [hf3e])
    refine RetX.same (hk hi14 _ s (base ++ [(f3, m)]) ret left (e12.trans e14) S14 ⟨hN.now.mono (by omega), fun q hq => ?_⟩ ?_ (fixS.refl s))
    · rcases List.mem_append.1 hq with h5 | h5
      · exact (hN.saved q (by simp [h5])).mono (by omega)
      · rw [List.mem_singleton.1 h5, hf3e]; exact (hN.saved (f, m) (by simp)).mono (by omega)
    · unfold createA; rw [if_pos (.inr (.inr (by rw [habs]; exact hge))), hf3e]; simp [absS, absF, crT]
  repeat (first | (refine CondX.tt ?_; conv => whnf) | (refine CondX.ff ?_; conv => whnf))
  have hgo : ¬ (6 ≤ (base.map absF).length ∨ ((absS s (base ++ [(f, m)]) ret left).w.acct (absF (f, m)).self).bal < argA (absF (f, m)).st 0 ∨ 18446744073709551615 ≤ ((absS s (base ++ [(f, m)]) ret left).w.acct (absF (f, m)).self).nonce) := by
    rw [habs]
    show ¬ (6 ≤ (base.map absF).length ∨ x.bal < argA (f.st.map Prod.snd) 0 ∨ 18446744073709551615 ≤ x.nonce)
    rw [hAA, List.length_map]
    have h1 : (argP f.st 0).2 = argI f.st 0 := rfl
    rintro (h | h | h) <;> omega
  have hvz : argI f.st 0 = 0 := by have h1 : (argP f.st 0).2 = argI f.st 0 := rfl; omega
  have hn0 := hx.nonce.val
  have h62 := e2 _ _ h6
  have hx2 := hx1.ext e2
  clear hd1
  have hself2 := ldV_self (join_hm hd2 hb) hok.self hok.caller (o := (preC base).length + 12) rfl
  refine DrawX.go T_ok hM Hval.func132 (tb := dr132) rfl (by kernel_rfl) ?_; conv => whnf
  refine LoadX.of _ hself2 ?_; conv => whnf
  refine CallX.fj hd2 (normN ((argP_ok hok.stE 0).ext e12) fun bv nv cv hi3 e3 g3 hd3 => ?_); conv => whnf
  have hself3 := ldV_self (join_hm hd3 hb) hok.self hok.caller (o := (preC base).length + 12) rfl
  repeat (refine Ob.mk (by first | exact hself3) ?_; conv => whnf)
  have e13 := e12.trans e3
  refine arg_ok (join_hm hd3 hb) ((hok.st.ext e13).ext (Ext.jl _ _)) hsr 1 (by decide) ?_; conv => whnf
  repeat (refine Ob.mk (by first | exact hself3) ?_; conv => whnf)
  refine arg_ok (join_hm hd3 hb) ((hok.st.ext e13).ext (Ext.jl _ _)) hsr 2 (by decide) ?_; conv => whnf
  repeat (refine Ob.mk (by first | exact hself3) ?_; conv => whnf)
  refine read_ok hd3 hb (S.memT.byt hd3) ((argP_ok hok.stE 1).ext e13) ((argP_ok hok.stE 2).ext e13) hlen fun sC hi4 e4 hd4 g4 => ?_; conv => whnf
  have hself4 := ldV_self (join_hm hd4 hb) hok.self hok.caller (o := (preC base).length + 12) rfl
  repeat (refine Ob.mk (by first | exact hself4) ?_; conv => whnf)
  have g4 : BytS hi4 sC (cutN m (argI f.st 1).toNat (argI f.st 2).toNat) := g4
  have alenS : (bcells f.self).length = 20 := by rw [bcells_length, hok.self]
  erw [fillL_one (off := 0) (v := .int .u8 5) rfl rfl (by decide), fillL_one (off := 5) (v := .slice bv nv cv) rfl rfl (Nat.le_of_ble_eq_true rfl), fillL_agg (off := 32) (n := 20) rfl alenS (Nat.le_of_ble_eq_true rfl)]
  rw [setSeg_at alenS]
  erw [fillL_one (off := 10) (v := sl sC) rfl rfl (by rw [List.length_append, List.length_append, alenS]; exact Nat.le_of_ble_eq_true rfl), fillL_done]
  generalize hini : cutN m (argI f.st 1).toNat (argI f.st 2).toNat = ini at *
  have hfill : setSeg ((setSeg (setSeg z135 0 [Value.int IntKind.u8 5]) 5 [Value.slice bv nv cv]).take 32 ++ (bcells f.self ++ (setSeg (setSeg z135 0 [Value.int IntKind.u8 5]) 5 [Value.slice bv nv cv]).drop 52)) 10 [sl sC] = fCells { chF 5 false (bv, nv, cv) (argI f.st 0) (List.replicate 20 0) f.self with codeS := sC, code := ini } := rfl
  erw [hfill]
  refine forceL_of (fok_fCells _) ?_; conv => whnf
  obtain ⟨ch, hch⟩ : ∃ ch : YF, ch = { chF 5 false (bv, nv, cv) (argI f.st 0) (List.replicate 20 0) f.self with codeS := sC, code := ini } := ⟨_, rfl⟩
  rw [← hch]
  have chok : ch.ok hi4 := by
    rw [hch]
    have q := chF_ok (kind := 5) (static := false) (vS := (bv, nv, cv)) (v := argI f.st 0) (g3.ext e4) (show (List.replicate 20 (0 : Int)).length = 20 from rfl) hok.self
    exact ⟨q.pc, q.gas, q.val, q.oo, q.ol, q.st, q.stE, q.stR, g4, q.input, q.self, q.caller, q.saved⟩
  have chlen := fCells_len chok.self chok.caller
  refine BoxW.jm hd4 fun m13 hin13 hmn13 hd13 => ?_; conv => whnf
  refine Ob.mk ⟨by rw [List.size_toArray, chlen]; rfl, fCells_one ch⟩ ?_; conv => whnf
  refine StoreX.top hd13 ([] ++ (fCells ch ++ [])) (by rw [setSeg_all (by rw [List.toList_toArray, chlen]; rfl)]; simp) (by rw [List.toList_toArray, chlen]; decide) fun hd5 => ?_; conv => whnf
  have hfb13 : fb ≠ m13 := ne_get hb hmn13
  have hc13 : c ≠ m13 := ne_get hc hmn13
  have hb5 : ∀ y, hput hm m13 y fb = some (preC base ++ (fCells f ++ pad), tf) := fun y => hput_old hb hmn13
  have hself5 := ldV_self (join_hm hd5 (hb5 _)) hok.self hok.caller (o := (preC base).length + 12) rfl
  have h64 := e4 _ _ (e3 _ _ h62)
  have hx4 := (hx2.ext e3).ext e4
  have S4 := S.ext (e13.trans e4) hd4
  refine DrawX.go T_ok hM Hval.func132 (tb := dr132) rfl (by kernel_rfl) ?_; conv => whnf
  refine LoadX.of _ hself5 ?_; conv => whnf
  refine LoadX.fld (join_l h64) hx.addr 0 rfl (v := sl x.ns) rfl ?_; conv => whnf
  refine createAddr_ok hok.self hself (hx4.nonce.ext (Ext.jl _ _)) (by omega) ?_; conv => whnf
  repeat (refine Ob.mk (by first | exact hself5 | exact ldV_fld (join_l h64) hx.addr 0 rfl rfl) ?_; conv => whnf)
  have slen : (createI f.self x.nonce).length = 20 := hashedI_len _
  refine Ob.mk ⟨by rw [List.size_toArray, bcells_length, slen]; rfl, ones_bcells _⟩ ?_; conv => whnf
  refine StoreX.top hd5 ([] ++ (fCells { ch with self := createI f.self x.nonce } ++ [])) (fCells_self chok.self slen) (by rw [List.toList_toArray, bcells_length, slen, List.nil_append, List.append_nil, chlen]; exact Nat.le_of_ble_eq_true rfl) fun hd6 => ?_; conv => whnf
  repeat (first | (refine CondX.tt ?_; conv => whnf) | (refine CondX.ff ?_; conv => whnf))
  have chok2 : ({ ch with self := createI f.self x.nonce } : YF).ok hi4 := ⟨chok.pc, chok.gas, chok.val, chok.oo, chok.ol, chok.st, chok.stE, chok.stR, chok.code, chok.input, slen, chok.caller, chok.saved⟩
  refine StoreX.mid (pre := []) (post := []) (f := { ch with self := createI f.self x.nonce }) hd6 (hput_same ..) 0 (by decide) rfl { ch with self := createI f.self x.nonce, kind := 6 } rfl fun hd7 => ?_; conv => whnf
  rw [hput_hput] at hd7 ⊢
  have hself7 := ldV_self (join_hm hd7 (hb5 _)) hok.self hok.caller (o := (preC base).length + 12) rfl
  have hcs : ch.codeS = sC := by rw [hch]
  have hcode7 := ldV_mid (sz := 1) (pre := []) (post := []) (f := { ch with self := createI f.self x.nonce, kind := 6 }) (join_hm hd7 (hput_same ..)) 10 (by decide) rfl (v := sl sC) (by rw [← hcs]; rfl)
  refine DrawX.go T_ok hM Hval.func132 (tb := dr132) rfl (by kernel_rfl) ?_; conv => whnf
  refine LoadX.of _ hself7 ?_; conv => whnf
  refine LoadX.of _ hcode7 ?_; conv => whnf
  refine arg_ok (join_hm hd7 (hb5 _)) ((hok.st.ext (e13.trans e4)).ext (Ext.jl _ _)) hsr 3 (by decide) ?_; conv => whnf
  repeat (refine Ob.mk (by first | exact hself7 | exact hcode7) ?_; conv => whnf)
  refine create2Addr_ok hok.self hself (((argP_ok hok.stE 3).ext (e13.trans e4)).ext (Ext.jl _ _)) (argI_lt hsW 3) (g4.ext (Ext.jl _ _)) ?_; conv => whnf
  repeat (refine Ob.mk (by first | exact hself7 | exact hcode7) ?_; conv => whnf)
  have slen2 : (create2I f.self (argI f.st 3) ini).length = 20 := hashedI_len _
  refine Ob.mk ⟨by rw [List.size_toArray, bcells_length]; erw [slen2]; rfl, ones_bcells _⟩ ?_; conv => whnf
  refine StoreX.top hd7 ([] ++ (fCells { ch with self := create2I f.self (argI f.st 3) ini, kind := 6 } ++ [])) (fCells_self (f := { ch with self := createI f.self x.nonce, kind := 6 }) slen slen2) (by rw [List.toList_toArray, bcells_length]; erw [slen2]; rw [List.nil_append, List.append_nil, fCells_len (f := { ch with self := createI f.self x.nonce, kind := 6 }) slen chok.caller]; exact Nat.le_of_ble_eq_true rfl) fun hd8 => ?_; conv => whnf
  obtain ⟨ch1, hch1⟩ : ∃ ch1 : YF, ch1 = { chF 6 false (bv, nv, cv) (argI f.st 0) (create2I f.self (argI f.st 3) ini) f.self with codeS := sC, code := ini } := ⟨_, rfl⟩
  have hch1' : { ch with self := create2I f.self (argI f.st 3) ini, kind := 6 } = ch1 := by rw [hch, hch1]; rfl
  rw [hch1'] at hd8 ⊢
  have ch1ok : ch1.ok hi4 := by rw [← hch1']; exact ⟨chok.pc, chok.gas, chok.val, chok.oo, chok.ol, chok.st, chok.stE, chok.stR, chok.code, chok.input, slen2, chok.caller, chok.saved⟩
  clear hch1' slen
  have slen := slen2
  have hd6 := hd8
  generalize hns : create2I f.self (argI f.st 3) ini = ns at *
  have chs : ch1.self = ns := by rw [hch1]; rfl
  have hself6 := ldV_self (join_hm hd6 (hb5 _)) hok.self hok.caller (o := (preC base).length + 12) rfl
  refine DrawX.go T_ok hM Hval.func132 (tb := dr132) rfl (by kernel_rfl) ?_; conv => whnf
  refine LoadX.of _ hself6 ?_; conv => whnf
  refine LoadX.fld (join_l h64) hx.addr 0 rfl (v := sl x.ns) rfl ?_; conv => whnf
  refine CallX.fj hd6 (num_ok (by omega) (by omega) fun b9 n9 c9 hi9 e9 g9 hd9 => ?_); conv => whnf
  have hself9 := ldV_self (join_hm hd9 (hb5 _)) hok.self hok.caller (o := (preC base).length + 12) rfl
  repeat (refine Ob.mk (by first | exact hself9 | exact ldV_fld (join_l (e9 _ _ h64)) hx.addr 0 rfl rfl) ?_; conv => whnf)
  refine CallX.fj hd9 (addN (hx4.nonce.ext e9) g9 (by have := big_lt; omega) fun b10 n10 c10 hi10 e10 g10 hd10 => ?_); conv => whnf
  have hself10 := ldV_self (join_hm hd10 (hb5 _)) hok.self hok.caller (o := (preC base).length + 12) rfl
  have h610 := e10 _ _ (e9 _ _ h64)
  repeat (refine Ob.mk (by first | exact hself10 | exact ldV_fld (join_l h610) hx.addr 0 rfl rfl) ?_; conv => whnf)
  refine CallX.side hd10 hmn13 (setNonceSt_ok (sn := (b10, n10, c10)) (S4.ext (e9.trans e10) (hd10.mono (Ext.new hmn13))) hN.now (by omega) hok.self g10 ?_)
  intro hiA wA eA SA szA absA_ hnone
  obtain ⟨hinA, hmnA⟩ := join_none hnone
  rw [join_putm hinA]
  have hdA : Dj hiA (hput (hput hm c (sCells { s with w := wA }, tc)) m13 ([] ++ (fCells ch1 ++ []), 135)) := SA.dj.newm hinA
  conv => whnf
  obtain ⟨s1, hs1⟩ : ∃ s1 : YS, s1 = { s with w := wA } := ⟨_, rfl⟩
  have hs1w : s1.w = wA := by rw [hs1]
  have hs1f : s1.frS = s.frS := by rw [hs1]
  rw [← hs1] at SA hdA hmnA ⊢
  have hbA : hput hm c (sCells s1, tc) fb = some (preC base ++ (fCells f ++ pad), tf) := by rw [hput_ne hcf.symm]; exact hb
  generalize hput hm c (sCells s1, tc) = hmA at *
  have hfb1 : at0 s1.frS fb := by rw [hs1f]; exact hfb
  have eA4 : Ext hi4 hiA := (e9.trans e10).trans eA
  have ch1A := ch1ok.ext eA4
  have hokA := hok.ext ((e13.trans e4).trans eA4)
  have hbA5 : ∀ y, hput hmA m13 y fb = some (preC base ++ (fCells f ++ pad), tf) := fun y => hput_old hbA hmnA
  refine DrawX.go T_ok hM Hval.func132 (tb := dr132) rfl (by kernel_rfl) ?_; conv => whnf
  refine LoadX.mid (join_hm hdA (hbA5 _)) 4 (by decide) rfl (v := sl f.gasS) rfl ?_; conv => whnf
  refine LoadX.mid (join_hm hdA (hbA5 _)) 4 (by decide) rfl (v := sl f.gasS) rfl ?_; conv => whnf
  have hg0 := hok.gas.val
  refine CallX.fj hdA (ypSentGas_ok hokA.gas hokA.gas hgr fun bs ns' cs hiB eB gB hdB => ?_); conv => whnf
  repeat (refine Ob.mk (by first | exact ldV_mid (join_hm hdB (hbA5 _)) 4 (by decide) rfl rfl) ?_; conv => whnf)
  have hsent : min f.gas (f.gas - f.gas / 64) ≤ f.gas ∧ 0 ≤ min f.gas (f.gas - f.gas / 64) := by omega
  have gB : NtS hiB (bs, ns', cs) (min f.gas (f.gas - f.gas / 64)) := gB
  generalize hsn : min f.gas (f.gas - f.gas / 64) = sent at *
  refine StoreX.mid (pre := []) (post := []) (f := ch1) hdB (hput_same ..) 4 (by decide) rfl { ch1 with gasS := (bs, ns', cs), gas := sent } rfl fun hdC => ?_; conv => whnf
  rw [hput_hput] at hdC ⊢
  have h13C := hput_same hmA m13 ([] ++ (fCells { ch1 with gasS := (bs, ns', cs), gas := sent } ++ []), (135 : TypeId))
  refine DrawX.go T_ok hM Hval.func132 (tb := dr132) rfl (by kernel_rfl) ?_; conv => whnf
  refine LoadX.mid (join_hm hdC (hbA5 _)) 4 (by decide) rfl (v := sl f.gasS) rfl ?_; conv => whnf
  refine LoadX.mid (pre := []) (post := []) (f := { ch1 with gasS := (bs, ns', cs), gas := sent }) (join_hm hdC h13C) 4 (by decide) rfl (v := sl (bs, ns', cs)) rfl ?_; conv => whnf
  refine CallX.fj hdC (less_ok (hokA.gas.ext eB) gB fun bl nl cl hiD eD gD hdD => ?_); conv => whnf
  repeat (refine Ob.mk (by first | exact ldV_mid (join_hm hdD (hbA5 _)) 4 (by decide) rfl rfl | exact ldV_mid (pre := []) (post := []) (f := { ch1 with gasS := (bs, ns', cs), gas := sent }) (join_hm hdD h13C) 4 (by decide) rfl rfl) ?_; conv => whnf)
  have hless : lessI f.gas sent = f.gas - sent := by unfold lessI; rw [if_neg (by omega)]
  rw [hless] at gD
  have hokD := (hokA.ext eB).ext eD
  obtain ⟨f1, hf1⟩ : ∃ f1 : YF, f1 = { f with gasS := (bl, nl, cl), gas := f.gas - sent } := ⟨_, rfl⟩
  have hf1ok : f1.ok hiD := by rw [hf1]; exact ⟨hokD.pc, gD, hokD.val, hokD.oo, hokD.ol, hokD.st, hokD.stE, hokD.stR, hokD.code, hokD.input, hokD.self, hokD.caller, hokD.saved⟩
  refine StoreX.mid (f := f) hdD (hbA5 _) 4 (by decide) rfl f1 (by rw [hf1]; rfl) fun hdE => ?_; conv => whnf
  rw [hput_comm hfb13] at hdE ⊢
  have SD := (SA.ext (eB.trans eD) (hdD.mono (Ext.new hmnA))).setTop (f' := f1) hfb1 hbA hf1ok (by rw [hf1])
  have hmnE : hput hmA fb (preC base ++ (fCells f1 ++ pad), tf) m13 = none := by rw [hput_ne hfb13.symm]; exact hmnA
  have hbE : hput hmA fb (preC base ++ (fCells f1 ++ pad), tf) fb = some (preC base ++ (fCells f1 ++ pad), tf) := hput_same ..
  generalize hput hmA fb (preC base ++ (fCells f1 ++ pad), tf) = hmE at *
  obtain ⟨ch2, hch2⟩ : ∃ ch2 : YF, ch2 = { ch1 with gasS := (bs, ns', cs), gas := sent } := ⟨_, rfl⟩
  have ch2s : ch2.self = ns := by rw [hch2]; exact chs
  have ch2ok : ch2.ok hiD := by
    rw [hch2]
    have q := (ch1A.ext eB).ext eD
    exact ⟨q.pc, gB.ext eD, q.val, q.oo, q.ol, q.st, q.stE, q.stR, q.code, q.input, q.self, q.caller, q.saved⟩
  rw [← hch2] at hdE ⊢
  have hselfE := ldV_self (pre := []) (post := []) (f := ch2) (join_hm hdE (hput_same ..)) ch2ok.self ch2ok.caller (o := 12) rfl
  refine DrawX.go T_ok hM Hval.func132 (tb := dr132) rfl (by kernel_rfl) ?_; conv => whnf
  refine LoadX.of _ hselfE ?_; conv => whnf
  rw [ch2s]
  refine CallX.side hdE hmnE (warmSt_ok (N := N + 1) SD (by rw [hs1w]; exact szA) (by omega) slen ?_)
  intro hiF wF eF SF szF absF_ hnoneF
  obtain ⟨hinF, hmnF⟩ := join_none hnoneF
  rw [join_putm hinF]
  have hdF : Dj hiF (hput (hput hmE c (sCells { s1 with w := wF }, tc)) m13 ([] ++ (fCells ch2 ++ []), 135)) := SF.dj.newm hinF
  conv => whnf
  obtain ⟨s2, hs2⟩ : ∃ s2 : YS, s2 = { s1 with w := wF } := ⟨_, rfl⟩
  have hs2w : s2.w = wF := by rw [hs2]
  have hs2f : s2.frS = s.frS := by rw [hs2]; exact hs1f
  rw [← hs2] at SF hdF hmnF ⊢
  have hbF : hput hmE c (sCells s2, tc) fb = some (preC base ++ (fCells f1 ++ pad), tf) := by rw [hput_ne hcf.symm]; exact hbE
  generalize hput hmE c (sCells s2, tc) = hmF at *
  have hfb2 : at0 s2.frS fb := by rw [hs2f]; exact hfb
  have f1F := hf1ok.ext eF
  have ch2F := ch2ok.ext eF
  have hselfF := ldV_self (pre := []) (post := []) (f := ch2) (join_hm hdF (hput_same ..)) ch2F.self ch2F.caller (o := 12) rfl
  have hcF : hput hmF m13 ([] ++ (fCells ch2 ++ []), 135) c = some (sCells s2, tc) := hput_old SF.chain hmnF
  have hbFm : hput hmF m13 ([] ++ (fCells ch2 ++ []), 135) fb = some (preC base ++ (fCells f1 ++ pad), tf) := hput_old hbF hmnF
  have hw2 : absW s2.w = warmW (nonceW (absW s.w) f.self (x.nonce + 1)) ns := by rw [hs2w, absF_, hs1w, absA_]
  refine LoadX.of _ hselfF ?_; conv => whnf
  rw [ch2s]
  refine taken_ok (xs := s2.w.acc) (join_hm hdF hcF) (show (sCells s2)[0]? = some (sl s2.w.sA) from rfl) (SF.now.acc.ext (Ext.jl _ _)) slen (by have := ((show s2.w.sz (N + 1 + 1) by rw [hs2w]; exact szF).room SF.now (by omega)).acc; omega) ?_; conv => whnf
  have htk : ∀ P : AA → Prop, P (absA (getA s2.w.acc ns)) = P ((warmW (nonceW (absW s.w) f.self (x.nonce + 1)) ns).acct ns) := fun P => by rw [← hw2]; rfl
  have eAll : Ext hi hiF := ((((e13.trans e4).trans eA4).trans eB).trans eD).trans eF
  have hfix : fixS s s2 := by rw [hs2, hs1]; exact ⟨rfl, rfl, rfl, rfl, rfl, rfl, rfl, rfl⟩
  have hrl : absS s2 (base ++ [(f, m)]) ret left = { absS s (base ++ [(f, m)]) ret left with w := warmW (nonceW (absW s.w) f.self (x.nonce + 1)) ns } := by
    unfold absS; rw [hw2, hs2, hs1]
  have hme : ((absS s (base ++ [(f, m)]) ret left).w.acct (absF (f, m)).self).nonce = x.nonce := by rw [habs]; rfl
  have hf1st : f1.st = f.st := by rw [hf1]
  have hself' : (if (245 : Int) = 245 then create2I (absF (f, m)).self (argA (absF (f, m)).st 3) (cutN (absF (f, m)).mem (argA (absF (f, m)).st 1).toNat (argA (absF (f, m)).st 2).toNat) else createI (absF (f, m)).self ((absS s (base ++ [(f, m)]) ret left).w.acct (absF (f, m)).self).nonce) = ns := by
    rw [hme]
    show (if (245 : Int) = 245 then create2I f.self (argA (f.st.map Prod.snd) 3) (cutN m (argA (f.st.map Prod.snd) 1).toNat (argA (f.st.map Prod.snd) 2).toNat) else createI f.self x.nonce) = ns
    rw [hAA, hAA, hAA, hini]
    exact hns
  have hph : s2.phase = s.phase := by rw [hs2, hs1]
  have hstt : s2.status = s.status := by rw [hs2, hs1]
  refine CondX.decI (fun htaken => ?_) (fun htaken => ?_) <;> conv => whnf
  · refine answer_ok (sw := nilS) (w := 0) (k := 4) (f := f1) hdF hbFm f1F (Nt_nil _) (by rw [hf1st]; exact hst) (by have : 4 ≤ f.st.length := hst; rw [hf1st]; omega) (by rw [hf1]; exact hpc) fun hiG f3 eG hf3 heq3 hdG => ?_; conv => whnf
    obtain ⟨s3, p3, hf3e⟩ := heq3
    have SG := ((SF.more (Ext.new hmnF) hdF).ext eG (hdG.unput hbFm)).setTop (f' := f3) hfb2 hbFm hf3 (by rw [hf3e])
    refine RetX.same (hk hiG _ s2 (base ++ [(f3, m)]) ret left (eAll.trans eG) SG ⟨by rw [hs2w]; exact szF.mono (by omega), fun q hq => ?_⟩ ?_ hfix)
    · rcases List.mem_append.1 hq with h5 | h5
      · exact (hN.saved q (by simp [h5])).mono (by omega)
      · rw [List.mem_singleton.1 h5, hf3e, hf1]; exact (hN.saved (f, m) (by simp)).mono (by omega)
    · unfold createA
      rw [if_neg hgo]
      dsimp only
      rw [hself', hme]
      rw [if_pos (by have := (htk fun a => a.nonce ≠ 0 ∨ a.code ≠ []).mp htaken; exact this)]
      unfold absS
      rw [hw2, hf3e, hf1, hph, hstt]
      simp [absF, crT, hsn]
  · refine wait_ok (so := nilS) (sn := nilS) (x := 0) (y := 0) (k := 4) (f := f1) hdF hbFm f1F (Nt_nil _) (Nt_nil _) (by rw [hf1st]; exact hst) fun hiG f4 eG hf4 heq4 hdG => ?_; conv => whnf
    obtain ⟨s4, s41, s42, hf4e⟩ := heq4
    have h13G : hput (hput hmF m13 ([] ++ (fCells ch2 ++ []), 135)) fb (preC base ++ (fCells f4 ++ pad), tf) m13 = some ([] ++ (fCells ch2 ++ []), 135) := by rw [hput_ne hfb13.symm]; exact hput_same ..
    have ch2len := fCells_len ch2F.self ch2F.caller
    refine LoadX.all (c := [] ++ (fCells ch2 ++ [])) (join_hm hdG h13G) (by rw [List.nil_append, List.append_nil, ch2len]; rfl) ?_; conv => whnf
    rw [List.nil_append, List.append_nil] at hdF hdG hbFm ⊢
    have SG := ((SF.more (Ext.new (x := (fCells ch2, 135)) hmnF) hdF).ext eG (hdG.unput hbFm)).setTop (f' := f4) hfb2 hbFm hf4 (by rw [hf4e])
    have hNG : StN (N + 2) s2 (base ++ [(f4, m)]) := ⟨by rw [hs2w]; exact szF, fun q hq => by
      rcases List.mem_append.1 hq with h5 | h5
      · exact (hN.saved q (by simp [h5])).mono (by omega)
      · rw [List.mem_singleton.1 h5, hf4e, hf1]; exact (hN.saved (f, m) (by simp)).mono (by omega)⟩
    refine enterSt_ok (f := ch2) SG hNG (by omega) (by simp; omega) (ch2F.ext eG) (by rw [hch2, hch1]; exact hvz) (by rw [hch2, hch1]; rfl) ?_
    intro hi' hm' s' frs' ret' left' q1 q2 q3 q4 q5
    conv => whnf
    refine RetX.same (hk hi' hm' s' frs' ret' left' ((eAll.trans eG).trans q1) q2 q3 ?_ (fixS.trans hfix q5))
    rw [q4]
    unfold createA
    rw [if_neg hgo]
    dsimp only
    rw [hself', hme]
    rw [if_neg (by have := (htk fun a => a.nonce ≠ 0 ∨ a.code ≠ []); intro hh; exact htaken (this.mpr hh))]
    unfold absS
    rw [hw2, hf4e, hf1, hph, hstt]
    simp [absF, crT, hsn, enterA, hch2, hch1, chF, hAA, hini]
    try rfl
end
end Go.Proofs.YgvalwGreat.X
