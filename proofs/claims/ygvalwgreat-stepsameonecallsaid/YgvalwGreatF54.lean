import Derived.Test.YgvalwGreatF53
set_option linter.unusedVariables false
set_option linter.unusedSimpArgs false
namespace Go.Proofs.YgvalwGreat.X
open Go

theorem IdxX.of {base : Option Addr} {b off len : Nat} {j : Int} {KK : Nat → Nat → Prop} (hs : base = some ⟨b, off, none⟩) (h0 : 0 ≤ j) (h1 : j < len) (hk : KK b off) : IdxX base len j KK := by
  subst hs; exact IdxX.at h0 h1 hk
theorem depI_bd {g : Int} {l : List Int} (h : 0 ≤ g) : 0 ≤ (depI g l).1 ∧ (depI g l).1 ≤ g := by
  unfold depI
  repeat' split
  all_goals simp
  all_goals omega
theorem lvG_bd {f : YF} {st : Int} {l : List Int} (h : 0 ≤ f.gas) : 0 ≤ lvG f st l ∧ lvG f st l ≤ f.gas := by
  have := depI_bd (l := l) h
  unfold lvG
  repeat' split
  all_goals omega
/-- The word that a call or a creation gives. -/
def lvF (f : YF) (st : Int) (l : List Int) : Int := if lvS f st l = 0 then (if crK f.kind = true then bv f.self else 1) else 0
/-- The memory behind a call. -/
def lvM (p : YF) (mem : List Int) (out : List Int) : List Int := if min p.ol out.length = 0 then mem else writeI mem p.oo (out.take (min p.ol out.length).toNat)

theorem LvW.ext {h h' : Hp} (he : Ext h h') {w w' : YW} {f : YF} {st : Int} {l : List Int} (a : LvW h w w' f st l) : LvW h' w w' f st l :=
  ⟨a.back, a.keep, fun h1 h2 h3 => by obtain ⟨sC, sA, ys, q1, q2, q3⟩ := a.code h1 h2 h3; exact ⟨sC, sA, ys, q1, q2.ext he, q3⟩⟩
theorem MemB.put {hm : Hp} {s : Sl} {mem : List Int} {b : Nat} {x} (a : MemB hm s mem) (h : ∀ mb, s.1 = some ⟨mb, 0, none⟩ → mb ≠ b) : MemB (hput hm b x) s mem := by
  obtain ⟨q1, q2, q3⟩ := a
  refine ⟨q1, q2, ?_⟩
  rcases q3 with q3 | ⟨mb, q4, q5⟩
  · exact .inl q3
  · exact .inr ⟨mb, q4, by rw [hput_ne (h mb (by rw [q4]))]; exact q5⟩
section
variable {hi hm : Hp} {K : Value → Hp → Prop}



set_option maxRecDepth 100000 in
set_option maxHeartbeats 4000000 in
theorem leaveUp_ok (hd : Dj hi hm) {c : Nat} {tc : TypeId} {s : YS} {f p : YF} {st : Int} {so : Sl} {l : List Int} (hc : hm c = some (sCells s, tc)) (hw : s.w.ok hi (join hi hm)) (hwr : s.w.room) {base b0 : List YF} (hbase : base = b0 ++ [p]) (hbn : base.length ≤ 100) (hfr : ArrM hm s.frS 60 ((base ++ [f]).map fCells)) (hcf : ∀ fb, s.frS.1 = some ⟨fb, 0, none⟩ → c ≠ fb)
    {fb : Nat} {pre post : List Value} {tf : TypeId} (hs : s.frS.1 = some ⟨fb, 0, none⟩) (hpl : pre.length = b0.length * 60) (hfb : hm fb = some (pre ++ (fCells p ++ post), tf))
    (hok : f.ok hi) (hgr : f.gas < big) (hst0 : 0 ≤ st) (hst1 : st < 256) (hl : BytS hi so l) (hp : p.ok hi) (hpg : p.gas + f.gas < big) (hpst : p.st.length < 64) (hppc : p.pc + 1 < big) (hol : p.ol < 18446744073709551616) {mem : List Int} (hmem : MemB hm p.memS mem) (hselfB : isB f.self) (hmc : ∀ mb, p.memS.1 = some ⟨mb, 0, none⟩ → mb ≠ c ∧ mb ≠ fb)
    (hk : ∀ hi' hm' s' p' oS, Ext hi hi' → Dj hi' hm' → s' = { s with w := s'.w, retS := oS, frS := (s.frS.1, base.length, base.length) } → BytS hi' oS (lvO f st l) → LvW hi' s.w s'.w f st l → hm' c = some (sCells s', tc) → p'.ok hi' → (∃ gS stS pS fS, p' = { p with gasS := gS, gas := p.gas + lvG f st l, stS := stS, st := p.st ++ [(fS, lvF f st l)], pcS := pS, pc := p.pc + 1 }) → hm' fb = some (pre ++ (fCells p' ++ post), tf) → MemB hm' p.memS (lvM p mem (lvO f st l)) →
      (∀ b y, hm b = some y → b ≠ c → b ≠ fb → (∀ mb, p.memS.1 = some ⟨mb, 0, none⟩ → b ≠ mb) → hm' b = some y) → K (.tuple #[]) (join hi' hm')) :
    CallX Hval.prog 53 [.pointer (some ⟨c, 0, none⟩), .int .u8 st, sl so] (join hi hm) K := by
  refine CallX.of_xf T_ok Hval.func53 rfl (by kernel_rfl) (Nat.le_of_ble_eq_true rfl) ?_; conv => whnf
  have hfc : fb ≠ c := (hcf fb hs).symm
  have hg0 := hok.gas.val
  have hbl : base.length = b0.length + 1 := by rw [hbase]; simp
  refine DrawX.go T_ok hM Hval.func53 (tb := dr53) rfl (by kernel_rfl) ?_; conv => whnf
  refine LoadX.blk (join_hm hd hc) (sl s.frS) rfl ?_; conv => whnf
  refine LoadX.blk (join_hm hd hc) (sl s.frS) rfl ?_; conv => whnf
  have hfA := hfr.arr hd
  have hfn := hfr.len
  simp only [List.length_map, List.length_append, List.length_singleton] at hfn
  have en : IntKind.i64.wrap ((s.frS.2.1 : Int) - 1) = ((base.length : Nat) : Int) := by rw [wrap_i64 (by omega) (by omega)]; omega
  rw [en]
  refine IdxX.arr hfA (by omega) (by omega) (by omega) fun bq offq eq0 => ?_; conv => whnf
  refine LoadX.elt hfA eq0 base.length rfl (by omega) ?_; conv => whnf
  have hget : ((base ++ [f]).map fCells).getD base.length [] = fCells f := by
    rw [getD_map (by simp)]; simp
  rw [hget]
  have flen := fCells_len hok.self hok.caller
  have fone := fCells_one f
  refine BoxW.j hd fun m6 hin6 hmn6 hd6' he6' => ?_; conv => whnf
  refine Ob.mk ⟨by rw [List.size_toArray, flen]; rfl, fone⟩ ?_; conv => whnf
  refine StoreX.j (by rw [List.toList_toArray, flen]; decide) ?_; conv => whnf
  rw [setSeg_all (by rw [List.toList_toArray, flen]; rfl)]
  have hd6 : Dj (hput hi m6 (fCells f, 135)) hm := hd6'.hp
  have e6 : Ext hi (hput hi m6 (fCells f, 135)) := Ext.new hin6
  have h6 : hput hi m6 (fCells f, 135) m6 = some (fCells f, 135) := hput_same ..
  clear hd6' he6'
  generalize hput hi m6 (fCells f, 135) = hiA at *
  refine LoadX.blk (join_l h6) (sl f.gasS) rfl ?_; conv => whnf
  refine LoadX.blk (join_l h6) (.int .u8 f.kind) rfl ?_; conv => whnf
  refine creates_ok ?_; conv => whnf
  cases hcr : crK f.kind with
  | false =>
    repeat (first | (refine CondX.tt ?_; conv => whnf) | (refine CondX.ff ?_; conv => whnf))
    by_cases h0 : st = 0
    · subst h0
      repeat (first | (refine CondX.tt ?_; conv => whnf) | (refine CondX.ff ?_; conv => whnf))
      have hLs : lvS f 0 l = 0 := by simp [lvS, hcr]
      have hLw : ∀ h', LvW h' s.w s.w f 0 l := fun h' => ⟨fun h => absurd hLs h, fun _ _ => rfl, fun _ h => absurd (h.symm.trans hcr) (by decide)⟩
      have gG : NtS hiA f.gasS (lvG f 0 l) := by
        have : lvG f 0 l = f.gas := by simp [lvG, hLs, hcr]
        rw [this]; exact hok.gas.ext e6
      have gO : BytS hiA so (lvO f 0 l) := by
        have : lvO f 0 l = l := by simp [lvO, hLs, hcr]
        rw [this]; exact hl.ext e6
      have hcX := hc
      have hkX : ∀ b y, hm b = some y → b ≠ c → hm b = some y := fun b y hb hbc => hb
      refine StoreX.st (s := s) hd6 hcX 10 (by decide) { s with retS := so } rfl fun hdA => ?_; conv => whnf
      refine DrawX.go T_ok hM Hval.func53 (tb := dr53) rfl (by kernel_rfl) ?_; conv => whnf
      refine LoadX.blk (join_hm hdA (hput_same ..)) (sl s.frS) rfl ?_; conv => whnf
      refine LoadX.blk (join_hm hdA (hput_same ..)) (sl s.frS) rfl ?_; conv => whnf
      refine LoadX.blk (join_hm hdA (hput_same ..)) (sl s.frS) rfl ?_; conv => whnf
      rw [en]
      refine SlcX.gen hfA.rd hfA.nil hfA.le 0 base.length base.length rfl rfl rfl (Nat.zero_le _) (Nat.le_refl _) (by have := hfA.le; omega) (.inr (by simp)) ?_; conv => whnf
      rw [bsh_zero]
      refine StoreX.st (s := { s with retS := so }) hdA (hput_same ..) 9 (by decide) { s with retS := so, frS := (s.frS.1, base.length, base.length) } rfl fun hdB => ?_; conv => whnf
      refine LoadX.blk (join_hm hdB (hput_same ..)) (sl (s.frS.1, base.length, base.length)) rfl ?_; conv => whnf
      refine CondX.eqF (show ((base.length : Nat) : Int) ≠ 0 by omega) ?_; conv => whnf
      refine DrawX.go T_ok hM Hval.func53 (tb := dr53) rfl (by kernel_rfl) ?_; conv => whnf
      refine LoadX.blk (join_hm hdB (hput_same ..)) (sl (s.frS.1, base.length, base.length)) rfl ?_; conv => whnf
      refine LoadX.blk (join_hm hdB (hput_same ..)) (sl (s.frS.1, base.length, base.length)) rfl ?_; conv => whnf
      have en2 : IntKind.i64.wrap (((base.length : Nat) : Int) - 1) = ((b0.length : Nat) : Int) := by rw [wrap_i64 (by omega) (by omega)]; omega
      erw [en2]
      refine IdxX.of hs (by omega) (by show ((b0.length : Nat) : Int) < ((base.length : Nat) : Int); omega) ?_; conv => whnf
      have hoff : 0 + ((b0.length : Nat) : Int).toNat * 60 = pre.length := by rw [hpl, Int.toNat_natCast]; omega
      erw [hoff]
      have hfbB : hput (hput hm c (sCells { s with retS := so }, tc)) c (sCells { s with retS := so, frS := (s.frS.1, base.length, base.length) }, tc) fb = some (pre ++ (fCells p ++ post), tf) := by
        rw [hput_ne hfc, hput_ne hfc]; exact hkX fb _ hfb hfc
      refine LoadX.mid (join_hm hdB hfbB) 4 (by decide) rfl (v := sl p.gasS) rfl ?_; conv => whnf
      have hgb := lvG_bd (st := 0) (l := l) hg0
      have hpE := hp.ext e6
      refine CallX.fj hdB (addN hpE.gas gG (by omega) fun bg ng cg hi2 e2 g2 hd2 => ?_); conv => whnf
      refine StoreX.mid (f := p) hd2 hfbB 4 (by decide) rfl { p with gasS := (bg, ng, cg), gas := p.gas + lvG f 0 l } rfl fun hdg => ?_; conv => whnf
      have h62 := e2 _ _ h6
      have gO2 := gO.ext e2
      have hpG : ({ p with gasS := (bg, ng, cg), gas := p.gas + lvG f 0 l } : YF).ok hi2 := ⟨(hpE.ext e2).pc, g2, (hpE.ext e2).val, (hpE.ext e2).oo, (hpE.ext e2).ol, (hpE.ext e2).st, (hpE.ext e2).stE, (hpE.ext e2).stR, (hpE.ext e2).code, (hpE.ext e2).input, (hpE.ext e2).self, (hpE.ext e2).caller, (hpE.ext e2).saved⟩
      have eY : Ext hi hi2 := e6.trans e2
      have hLw2 : LvW hi2 s.w s.w f 0 l := by first | exact hLw _ | exact hLw e2
      obtain ⟨HG, hHG⟩ : ∃ HG : Hp, HG = hput (hput (hput hm c (sCells { s with retS := so }, tc)) c (sCells { s with retS := so, frS := (s.frS.1, base.length, base.length) }, tc)) fb (pre ++ (fCells { p with gasS := (bg, ng, cg), gas := p.gas + lvG f 0 l } ++ post), tf) := ⟨_, rfl⟩
      rw [← hHG] at hdg ⊢
      have hGf : HG fb = some (pre ++ (fCells { p with gasS := (bg, ng, cg), gas := p.gas + lvG f 0 l } ++ post), tf) := by rw [hHG]; exact hput_same ..
      have hGc : HG c = some (sCells { s with retS := so, frS := (s.frS.1, base.length, base.length) }, tc) := by rw [hHG, hput_ne hfc.symm]; exact hput_same ..
      have hGk : ∀ b y, hm b = some y → b ≠ c → b ≠ fb → HG b = some y := fun b y hb hbc hbf => by rw [hHG, hput_ne hbf, hput_ne hbc, hput_ne hbc]; exact hkX b y hb hbc
      have hmemG : MemB HG p.memS mem := by
        obtain ⟨q1, q2, q3⟩ := hmem
        refine ⟨q1, q2, ?_⟩
        rcases q3 with q3 | ⟨mb, q4, q5⟩
        · exact .inl q3
        · exact .inr ⟨mb, q4, hGk mb _ q5 (hmc mb (by rw [q4])).1 (hmc mb (by rw [q4])).2⟩
      clear hHG
      repeat (first | (refine CondX.tt ?_; conv => whnf) | (refine CondX.ff ?_; conv => whnf))
      refine CallX.fj hdg (num_ok (by omega) (by omega) fun bf nf cf hi3 e3 g3 hd3 => ?_); conv => whnf
      repeat (first | (refine CondX.tt ?_; conv => whnf) | (refine CondX.ff ?_; conv => whnf))
      have hF : lvF f 0 l = 1 := by unfold lvF; rw [if_pos hLs, if_neg (by simp [hcr])]
      have gF : NtS hi3 (bf, nf, cf) (lvF f 0 l) := by rw [hF]; exact g3
      refine LoadX.mid (join_hm hd3 hGf) 7 (by decide) rfl (v := sl p.olS) rfl ?_; conv => whnf
      have hp3 := hpG.ext e3
      have ol0 : 0 ≤ p.ol := hp3.ol.val
      refine small_ok (hp3.ol.ext (Ext.jl _ _)) ?_; conv => whnf
      rw [if_pos hol]
      have gO3 := gO2.ext e3
      have ho := gO3.len
      have hor := gO3.room
      have eu : IntKind.u64.wrap ((so.2.1 : Nat) : Int) = so.2.1 := by rw [wrap_u64']; omega
      erw [eu]
      have emin : (if ((so.2.1 : Nat) : Int) < p.ol then ((so.2.1 : Nat) : Int) else p.ol) = min p.ol (lvO f 0 l).length := by rw [← ho]; split <;> omega
      erw [emin]
      have eZ := eY.trans e3
      refine CondX.decI (fun hn => ?_) (fun hn => ?_) <;> conv => whnf
      · refine DrawX.go T_ok hM Hval.func53 (tb := dr53) rfl (by kernel_rfl) ?_; conv => whnf
        refine LoadX.mid (join_hm hd3 hGf) 6 (by decide) rfl (v := sl p.ooS) rfl ?_; conv => whnf
        have gOj := gO3.ext (Ext.jl hi3 HG)
        have hmn : ((min p.ol ((lvO f 0 l).length : Int)).toNat : Int) = min p.ol (lvO f 0 l).length := by omega
        refine SlcX.gen gOj.rd gOj.nil gOj.le 0 (min p.ol ((lvO f 0 l).length : Int)).toNat so.2.2 rfl (show min p.ol ((lvO f 0 l).length : Int) = _ by omega) rfl (Nat.zero_le _) (by have := gO3.le; omega) (Nat.le_refl _) (.inl rfl) ?_; conv => whnf
        rw [bsh_zero]
        have gP := gOj.pre (k := (min p.ol ((lvO f 0 l).length : Int)).toNat) (m := so.2.2) (by omega) (by have := gO3.le; omega) (Nat.le_refl _)
        refine write_ok (f := { p with gasS := (bg, ng, cg), gas := p.gas + lvG f 0 l }) (sb := (so.1, (min p.ol ((lvO f 0 l).length : Int)).toNat, so.2.2)) hd3 hGf hmemG hp3.oo gP fun hmW hdW hMW hKW => ?_; conv => whnf
        have hM : lvM p mem (lvO f 0 l) = writeI mem p.oo ((lvO f 0 l).take (min p.ol ((lvO f 0 l).length : Int)).toNat) := by unfold lvM; rw [if_neg (by omega)]
        have hWf := hKW fb _ hGf (fun mb h => (hmc mb h).2.symm)
        have hWc := hKW c _ hGc (fun mb h => (hmc mb h).1.symm)
        refine answer_ok (sw := (bf, nf, cf)) (k := 0) hdW hWf (hpG.ext e3) gF (Nat.zero_le _) (by show p.st.length - 0 + 1 ≤ 64; omega) hppc fun hi5 p5 e5 hp5 heq5 hd5 => ?_; conv => whnf
        obtain ⟨sS5, pS5, hp5e⟩ := heq5
        refine RetX.same (hk hi5 _ { s with retS := so, frS := (s.frS.1, base.length, base.length) } p5 so (eZ.trans e5) hd5 rfl (gO3.ext e5) ?_ (by rw [hput_ne hfc.symm]; exact hWc) hp5 ⟨(bg, ng, cg), sS5, pS5, (bf, nf, cf), ?_⟩ (hput_same ..) ?_ fun b y hb hbc hbf hbm => ?_)
        · exact (hLw2.ext e3).ext e5
        · rw [hp5e]; simp
        · exact MemB.put ((by rw [hM]; exact hMW) : MemB hmW p.memS (lvM p mem (lvO f 0 l))) (fun mb h => (hmc mb h).2)
        · rw [hput_ne hbf]; exact ((fun b y hb hbc hbf hbm => hKW b y (hGk b y hb hbc hbf) hbm)) b y hb hbc hbf hbm
      · have hM : lvM p mem (lvO f 0 l) = mem := by unfold lvM; rw [if_pos (by omega)]
        refine answer_ok (sw := (bf, nf, cf)) (k := 0) hd3 hGf (hpG.ext e3) gF (Nat.zero_le _) (by show p.st.length - 0 + 1 ≤ 64; omega) hppc fun hi5 p5 e5 hp5 heq5 hd5 => ?_; conv => whnf
        obtain ⟨sS5, pS5, hp5e⟩ := heq5
        refine RetX.same (hk hi5 _ { s with retS := so, frS := (s.frS.1, base.length, base.length) } p5 so (eZ.trans e5) hd5 rfl (gO3.ext e5) ?_ (by rw [hput_ne hfc.symm]; exact hGc) hp5 ⟨(bg, ng, cg), sS5, pS5, (bf, nf, cf), ?_⟩ (hput_same ..) ?_ fun b y hb hbc hbf hbm => ?_)
        · exact (hLw2.ext e3).ext e5
        · rw [hp5e]; simp
        · exact MemB.put ((by rw [hM]; exact hmemG) : MemB HG p.memS (lvM p mem (lvO f 0 l))) (fun mb h => (hmc mb h).2)
        · rw [hput_ne hbf]; exact ((fun b y hb hbc hbf _ => hGk b y hb hbc hbf)) b y hb hbc hbf hbm
    · refine CondX.neI (fun _ => ?_) (fun h => absurd h h0); conv => whnf
      refine LoadX.of (.agg f.saved.cells.toArray) (ldV_saved (join_l h6) hok.self hok.caller rfl) ?_; conv => whnf
      refine Ob.mk ⟨rfl, rfl⟩ ?_; conv => whnf
      refine StoreX.jm hd6 hc (by have := sCells_len s; show 0 + 8 ≤ _; omega) ?_; conv => whnf
      erw [sCells_now]
      have hdX : Dj hiA (hput hm c (sCells { s with w := f.saved }, tc)) := hd6.put hc
      have hcX : hput hm c (sCells { s with w := f.saved }, tc) c = some (sCells { s with w := f.saved }, tc) := hput_same ..
      have hkX : ∀ b y, hm b = some y → b ≠ c → hput hm c (sCells { s with w := f.saved }, tc) b = some y := fun b y hb hbc => by rw [hput_ne hbc]; exact hb
      have hLs : lvS f st l = st := by unfold lvS; rw [if_neg (fun h => h0 h.2)]
      have hLw : ∀ h', LvW h' s.w f.saved f st l := fun h' => ⟨fun _ => rfl, fun h => absurd (hLs.symm.trans h) h0, fun h => absurd (hLs.symm.trans h) h0⟩
      by_cases h1 : 1 < st
      · refine CondX.dT h1 ?_; conv => whnf
        have hG : lvG f st l = 0 := by unfold lvG; rw [hLs, if_pos h1]
        have hO : lvO f st l = [] := by unfold lvO; rw [hLs, if_pos h1]
        have gG : NtS hiA nilS (lvG f st l) := by rw [hG]; exact Nt_nil _
        have gO : BytS hiA nilS (lvO f st l) := by rw [hO]; exact Byt_nil _
        refine StoreX.st (s := ({ s with w := f.saved } : YS)) hdX hcX 10 (by decide) { ({ s with w := f.saved } : YS) with retS := nilS } rfl fun hdA => ?_; conv => whnf
        refine DrawX.go T_ok hM Hval.func53 (tb := dr53) rfl (by kernel_rfl) ?_; conv => whnf
        refine LoadX.blk (join_hm hdA (hput_same ..)) (sl s.frS) rfl ?_; conv => whnf
        refine LoadX.blk (join_hm hdA (hput_same ..)) (sl s.frS) rfl ?_; conv => whnf
        refine LoadX.blk (join_hm hdA (hput_same ..)) (sl s.frS) rfl ?_; conv => whnf
        rw [en]
        refine SlcX.gen hfA.rd hfA.nil hfA.le 0 base.length base.length rfl rfl rfl (Nat.zero_le _) (Nat.le_refl _) (by have := hfA.le; omega) (.inr (by simp)) ?_; conv => whnf
        rw [bsh_zero]
        refine StoreX.st (s := { ({ s with w := f.saved } : YS) with retS := nilS }) hdA (hput_same ..) 9 (by decide) { ({ s with w := f.saved } : YS) with retS := nilS, frS := (s.frS.1, base.length, base.length) } rfl fun hdB => ?_; conv => whnf
        refine LoadX.blk (join_hm hdB (hput_same ..)) (sl (s.frS.1, base.length, base.length)) rfl ?_; conv => whnf
        refine CondX.eqF (show ((base.length : Nat) : Int) ≠ 0 by omega) ?_; conv => whnf
        refine DrawX.go T_ok hM Hval.func53 (tb := dr53) rfl (by kernel_rfl) ?_; conv => whnf
        refine LoadX.blk (join_hm hdB (hput_same ..)) (sl (s.frS.1, base.length, base.length)) rfl ?_; conv => whnf
        refine LoadX.blk (join_hm hdB (hput_same ..)) (sl (s.frS.1, base.length, base.length)) rfl ?_; conv => whnf
        have en2 : IntKind.i64.wrap (((base.length : Nat) : Int) - 1) = ((b0.length : Nat) : Int) := by rw [wrap_i64 (by omega) (by omega)]; omega
        erw [en2]
        refine IdxX.of hs (by omega) (by show ((b0.length : Nat) : Int) < ((base.length : Nat) : Int); omega) ?_; conv => whnf
        have hoff : 0 + ((b0.length : Nat) : Int).toNat * 60 = pre.length := by rw [hpl, Int.toNat_natCast]; omega
        erw [hoff]
        have hfbB : hput (hput (hput hm c (sCells { s with w := f.saved }, tc)) c (sCells { ({ s with w := f.saved } : YS) with retS := nilS }, tc)) c (sCells { ({ s with w := f.saved } : YS) with retS := nilS, frS := (s.frS.1, base.length, base.length) }, tc) fb = some (pre ++ (fCells p ++ post), tf) := by
          rw [hput_ne hfc, hput_ne hfc]; exact hkX fb _ hfb hfc
        refine LoadX.mid (join_hm hdB hfbB) 4 (by decide) rfl (v := sl p.gasS) rfl ?_; conv => whnf
        have hgb := lvG_bd (st := st) (l := l) hg0
        have hpE := hp.ext e6
        refine CallX.fj hdB (addN hpE.gas gG (by omega) fun bg ng cg hi2 e2 g2 hd2 => ?_); conv => whnf
        refine StoreX.mid (f := p) hd2 hfbB 4 (by decide) rfl { p with gasS := (bg, ng, cg), gas := p.gas + lvG f st l } rfl fun hdg => ?_; conv => whnf
        have h62 := e2 _ _ h6
        have gO2 := gO.ext e2
        have hpG : ({ p with gasS := (bg, ng, cg), gas := p.gas + lvG f st l } : YF).ok hi2 := ⟨(hpE.ext e2).pc, g2, (hpE.ext e2).val, (hpE.ext e2).oo, (hpE.ext e2).ol, (hpE.ext e2).st, (hpE.ext e2).stE, (hpE.ext e2).stR, (hpE.ext e2).code, (hpE.ext e2).input, (hpE.ext e2).self, (hpE.ext e2).caller, (hpE.ext e2).saved⟩
        have eY : Ext hi hi2 := e6.trans e2
        have hLw2 : LvW hi2 s.w ({ s with w := f.saved } : YS).w f st l := by first | exact hLw _ | exact hLw e2
        obtain ⟨HG, hHG⟩ : ∃ HG : Hp, HG = hput (hput (hput (hput hm c (sCells { s with w := f.saved }, tc)) c (sCells { ({ s with w := f.saved } : YS) with retS := nilS }, tc)) c (sCells { ({ s with w := f.saved } : YS) with retS := nilS, frS := (s.frS.1, base.length, base.length) }, tc)) fb (pre ++ (fCells { p with gasS := (bg, ng, cg), gas := p.gas + lvG f st l } ++ post), tf) := ⟨_, rfl⟩
        rw [← hHG] at hdg ⊢
        have hGf : HG fb = some (pre ++ (fCells { p with gasS := (bg, ng, cg), gas := p.gas + lvG f st l } ++ post), tf) := by rw [hHG]; exact hput_same ..
        have hGc : HG c = some (sCells { ({ s with w := f.saved } : YS) with retS := nilS, frS := (s.frS.1, base.length, base.length) }, tc) := by rw [hHG, hput_ne hfc.symm]; exact hput_same ..
        have hGk : ∀ b y, hm b = some y → b ≠ c → b ≠ fb → HG b = some y := fun b y hb hbc hbf => by rw [hHG, hput_ne hbf, hput_ne hbc, hput_ne hbc]; exact hkX b y hb hbc
        have hmemG : MemB HG p.memS mem := by
          obtain ⟨q1, q2, q3⟩ := hmem
          refine ⟨q1, q2, ?_⟩
          rcases q3 with q3 | ⟨mb, q4, q5⟩
          · exact .inl q3
          · exact .inr ⟨mb, q4, hGk mb _ q5 (hmc mb (by rw [q4])).1 (hmc mb (by rw [q4])).2⟩
        clear hHG
        refine CondX.eqF (by omega) ?_; conv => whnf
        have hF : lvF f st l = 0 := by unfold lvF; rw [if_neg (by rw [hLs]; omega)]
        have gF : NtS hi2 nilS (lvF f st l) := by rw [hF]; exact Nt_nil _
        have e3 : Ext hi2 hi2 := Ext.refl _
        refine LoadX.mid (join_hm hdg hGf) 7 (by decide) rfl (v := sl p.olS) rfl ?_; conv => whnf
        have hp3 := hpG.ext e3
        have ol0 : 0 ≤ p.ol := hp3.ol.val
        refine small_ok (hp3.ol.ext (Ext.jl _ _)) ?_; conv => whnf
        rw [if_pos hol]
        have gO3 := gO2.ext e3
        have ho := gO3.len
        have hor := gO3.room
        have eu : IntKind.u64.wrap ((nilS.2.1 : Nat) : Int) = nilS.2.1 := by rw [wrap_u64']; omega
        erw [eu]
        have emin : (if ((nilS.2.1 : Nat) : Int) < p.ol then ((nilS.2.1 : Nat) : Int) else p.ol) = min p.ol (lvO f st l).length := by rw [← ho]; split <;> omega
        erw [emin]
        have eZ := eY.trans e3
        refine CondX.decI (fun hn => ?_) (fun hn => ?_) <;> conv => whnf
        · refine DrawX.go T_ok hM Hval.func53 (tb := dr53) rfl (by kernel_rfl) ?_; conv => whnf
          refine LoadX.mid (join_hm hdg hGf) 6 (by decide) rfl (v := sl p.ooS) rfl ?_; conv => whnf
          have gOj := gO3.ext (Ext.jl hi2 HG)
          have hmn : ((min p.ol ((lvO f st l).length : Int)).toNat : Int) = min p.ol (lvO f st l).length := by omega
          refine SlcX.gen gOj.rd gOj.nil gOj.le 0 (min p.ol ((lvO f st l).length : Int)).toNat nilS.2.2 rfl (show min p.ol ((lvO f st l).length : Int) = _ by omega) rfl (Nat.zero_le _) (by have := gO3.le; omega) (Nat.le_refl _) (.inl rfl) ?_; conv => whnf
          rw [bsh_zero]
          have gP := gOj.pre (k := (min p.ol ((lvO f st l).length : Int)).toNat) (m := nilS.2.2) (by omega) (by have := gO3.le; omega) (Nat.le_refl _)
          refine write_ok (f := { p with gasS := (bg, ng, cg), gas := p.gas + lvG f st l }) (sb := (nilS.1, (min p.ol ((lvO f st l).length : Int)).toNat, nilS.2.2)) hdg hGf hmemG hp3.oo gP fun hmW hdW hMW hKW => ?_; conv => whnf
          have hM : lvM p mem (lvO f st l) = writeI mem p.oo ((lvO f st l).take (min p.ol ((lvO f st l).length : Int)).toNat) := by unfold lvM; rw [if_neg (by omega)]
          have hWf := hKW fb _ hGf (fun mb h => (hmc mb h).2.symm)
          have hWc := hKW c _ hGc (fun mb h => (hmc mb h).1.symm)
          refine answer_ok (sw := nilS) (k := 0) hdW hWf (hpG.ext e3) gF (Nat.zero_le _) (by show p.st.length - 0 + 1 ≤ 64; omega) hppc fun hi5 p5 e5 hp5 heq5 hd5 => ?_; conv => whnf
          obtain ⟨sS5, pS5, hp5e⟩ := heq5
          refine RetX.same (hk hi5 _ { ({ s with w := f.saved } : YS) with retS := nilS, frS := (s.frS.1, base.length, base.length) } p5 nilS (eZ.trans e5) hd5 rfl (gO3.ext e5) ?_ (by rw [hput_ne hfc.symm]; exact hWc) hp5 ⟨(bg, ng, cg), sS5, pS5, nilS, ?_⟩ (hput_same ..) ?_ fun b y hb hbc hbf hbm => ?_)
          · exact (hLw2.ext e3).ext e5
          · rw [hp5e]; simp
          · exact MemB.put ((by rw [hM]; exact hMW) : MemB hmW p.memS (lvM p mem (lvO f st l))) (fun mb h => (hmc mb h).2)
          · rw [hput_ne hbf]; exact ((fun b y hb hbc hbf hbm => hKW b y (hGk b y hb hbc hbf) hbm)) b y hb hbc hbf hbm
        · have hM : lvM p mem (lvO f st l) = mem := by unfold lvM; rw [if_pos (by omega)]
          refine answer_ok (sw := nilS) (k := 0) hdg hGf (hpG.ext e3) gF (Nat.zero_le _) (by show p.st.length - 0 + 1 ≤ 64; omega) hppc fun hi5 p5 e5 hp5 heq5 hd5 => ?_; conv => whnf
          obtain ⟨sS5, pS5, hp5e⟩ := heq5
          refine RetX.same (hk hi5 _ { ({ s with w := f.saved } : YS) with retS := nilS, frS := (s.frS.1, base.length, base.length) } p5 nilS (eZ.trans e5) hd5 rfl (gO3.ext e5) ?_ (by rw [hput_ne hfc.symm]; exact hGc) hp5 ⟨(bg, ng, cg), sS5, pS5, nilS, ?_⟩ (hput_same ..) ?_ fun b y hb hbc hbf hbm => ?_)
          · exact (hLw2.ext e3).ext e5
          · rw [hp5e]; simp
          · exact MemB.put ((by rw [hM]; exact hmemG) : MemB HG p.memS (lvM p mem (lvO f st l))) (fun mb h => (hmc mb h).2)
          · rw [hput_ne hbf]; exact ((fun b y hb hbc hbf _ => hGk b y hb hbc hbf)) b y hb hbc hbf hbm
      · refine CondX.dF h1 ?_; conv => whnf
        have hG : lvG f st l = f.gas := by unfold lvG; rw [hLs, if_neg h1, if_neg (fun h => h0 h.2)]
        have hO : lvO f st l = l := by unfold lvO; rw [hLs, if_neg h1, if_neg (fun h => h0 h.2)]
        have gG : NtS hiA f.gasS (lvG f st l) := by rw [hG]; exact hok.gas.ext e6
        have gO : BytS hiA so (lvO f st l) := by rw [hO]; exact hl.ext e6
        refine StoreX.st (s := ({ s with w := f.saved } : YS)) hdX hcX 10 (by decide) { ({ s with w := f.saved } : YS) with retS := so } rfl fun hdA => ?_; conv => whnf
        refine DrawX.go T_ok hM Hval.func53 (tb := dr53) rfl (by kernel_rfl) ?_; conv => whnf
        refine LoadX.blk (join_hm hdA (hput_same ..)) (sl s.frS) rfl ?_; conv => whnf
        refine LoadX.blk (join_hm hdA (hput_same ..)) (sl s.frS) rfl ?_; conv => whnf
        refine LoadX.blk (join_hm hdA (hput_same ..)) (sl s.frS) rfl ?_; conv => whnf
        rw [en]
        refine SlcX.gen hfA.rd hfA.nil hfA.le 0 base.length base.length rfl rfl rfl (Nat.zero_le _) (Nat.le_refl _) (by have := hfA.le; omega) (.inr (by simp)) ?_; conv => whnf
        rw [bsh_zero]
        refine StoreX.st (s := { ({ s with w := f.saved } : YS) with retS := so }) hdA (hput_same ..) 9 (by decide) { ({ s with w := f.saved } : YS) with retS := so, frS := (s.frS.1, base.length, base.length) } rfl fun hdB => ?_; conv => whnf
        refine LoadX.blk (join_hm hdB (hput_same ..)) (sl (s.frS.1, base.length, base.length)) rfl ?_; conv => whnf
        refine CondX.eqF (show ((base.length : Nat) : Int) ≠ 0 by omega) ?_; conv => whnf
        refine DrawX.go T_ok hM Hval.func53 (tb := dr53) rfl (by kernel_rfl) ?_; conv => whnf
        refine LoadX.blk (join_hm hdB (hput_same ..)) (sl (s.frS.1, base.length, base.length)) rfl ?_; conv => whnf
        refine LoadX.blk (join_hm hdB (hput_same ..)) (sl (s.frS.1, base.length, base.length)) rfl ?_; conv => whnf
        have en2 : IntKind.i64.wrap (((base.length : Nat) : Int) - 1) = ((b0.length : Nat) : Int) := by rw [wrap_i64 (by omega) (by omega)]; omega
        erw [en2]
        refine IdxX.of hs (by omega) (by show ((b0.length : Nat) : Int) < ((base.length : Nat) : Int); omega) ?_; conv => whnf
        have hoff : 0 + ((b0.length : Nat) : Int).toNat * 60 = pre.length := by rw [hpl, Int.toNat_natCast]; omega
        erw [hoff]
        have hfbB : hput (hput (hput hm c (sCells { s with w := f.saved }, tc)) c (sCells { ({ s with w := f.saved } : YS) with retS := so }, tc)) c (sCells { ({ s with w := f.saved } : YS) with retS := so, frS := (s.frS.1, base.length, base.length) }, tc) fb = some (pre ++ (fCells p ++ post), tf) := by
          rw [hput_ne hfc, hput_ne hfc]; exact hkX fb _ hfb hfc
        refine LoadX.mid (join_hm hdB hfbB) 4 (by decide) rfl (v := sl p.gasS) rfl ?_; conv => whnf
        have hgb := lvG_bd (st := st) (l := l) hg0
        have hpE := hp.ext e6
        refine CallX.fj hdB (addN hpE.gas gG (by omega) fun bg ng cg hi2 e2 g2 hd2 => ?_); conv => whnf
        refine StoreX.mid (f := p) hd2 hfbB 4 (by decide) rfl { p with gasS := (bg, ng, cg), gas := p.gas + lvG f st l } rfl fun hdg => ?_; conv => whnf
        have h62 := e2 _ _ h6
        have gO2 := gO.ext e2
        have hpG : ({ p with gasS := (bg, ng, cg), gas := p.gas + lvG f st l } : YF).ok hi2 := ⟨(hpE.ext e2).pc, g2, (hpE.ext e2).val, (hpE.ext e2).oo, (hpE.ext e2).ol, (hpE.ext e2).st, (hpE.ext e2).stE, (hpE.ext e2).stR, (hpE.ext e2).code, (hpE.ext e2).input, (hpE.ext e2).self, (hpE.ext e2).caller, (hpE.ext e2).saved⟩
        have eY : Ext hi hi2 := e6.trans e2
        have hLw2 : LvW hi2 s.w ({ s with w := f.saved } : YS).w f st l := by first | exact hLw _ | exact hLw e2
        obtain ⟨HG, hHG⟩ : ∃ HG : Hp, HG = hput (hput (hput (hput hm c (sCells { s with w := f.saved }, tc)) c (sCells { ({ s with w := f.saved } : YS) with retS := so }, tc)) c (sCells { ({ s with w := f.saved } : YS) with retS := so, frS := (s.frS.1, base.length, base.length) }, tc)) fb (pre ++ (fCells { p with gasS := (bg, ng, cg), gas := p.gas + lvG f st l } ++ post), tf) := ⟨_, rfl⟩
        rw [← hHG] at hdg ⊢
        have hGf : HG fb = some (pre ++ (fCells { p with gasS := (bg, ng, cg), gas := p.gas + lvG f st l } ++ post), tf) := by rw [hHG]; exact hput_same ..
        have hGc : HG c = some (sCells { ({ s with w := f.saved } : YS) with retS := so, frS := (s.frS.1, base.length, base.length) }, tc) := by rw [hHG, hput_ne hfc.symm]; exact hput_same ..
        have hGk : ∀ b y, hm b = some y → b ≠ c → b ≠ fb → HG b = some y := fun b y hb hbc hbf => by rw [hHG, hput_ne hbf, hput_ne hbc, hput_ne hbc]; exact hkX b y hb hbc
        have hmemG : MemB HG p.memS mem := by
          obtain ⟨q1, q2, q3⟩ := hmem
          refine ⟨q1, q2, ?_⟩
          rcases q3 with q3 | ⟨mb, q4, q5⟩
          · exact .inl q3
          · exact .inr ⟨mb, q4, hGk mb _ q5 (hmc mb (by rw [q4])).1 (hmc mb (by rw [q4])).2⟩
        clear hHG
        refine CondX.eqF (by omega) ?_; conv => whnf
        have hF : lvF f st l = 0 := by unfold lvF; rw [if_neg (by rw [hLs]; omega)]
        have gF : NtS hi2 nilS (lvF f st l) := by rw [hF]; exact Nt_nil _
        have e3 : Ext hi2 hi2 := Ext.refl _
        refine LoadX.mid (join_hm hdg hGf) 7 (by decide) rfl (v := sl p.olS) rfl ?_; conv => whnf
        have hp3 := hpG.ext e3
        have ol0 : 0 ≤ p.ol := hp3.ol.val
        refine small_ok (hp3.ol.ext (Ext.jl _ _)) ?_; conv => whnf
        rw [if_pos hol]
        have gO3 := gO2.ext e3
        have ho := gO3.len
        have hor := gO3.room
        have eu : IntKind.u64.wrap ((so.2.1 : Nat) : Int) = so.2.1 := by rw [wrap_u64']; omega
        erw [eu]
        have emin : (if ((so.2.1 : Nat) : Int) < p.ol then ((so.2.1 : Nat) : Int) else p.ol) = min p.ol (lvO f st l).length := by rw [← ho]; split <;> omega
        erw [emin]
        have eZ := eY.trans e3
        refine CondX.decI (fun hn => ?_) (fun hn => ?_) <;> conv => whnf
        · refine DrawX.go T_ok hM Hval.func53 (tb := dr53) rfl (by kernel_rfl) ?_; conv => whnf
          refine LoadX.mid (join_hm hdg hGf) 6 (by decide) rfl (v := sl p.ooS) rfl ?_; conv => whnf
          have gOj := gO3.ext (Ext.jl hi2 HG)
          have hmn : ((min p.ol ((lvO f st l).length : Int)).toNat : Int) = min p.ol (lvO f st l).length := by omega
          refine SlcX.gen gOj.rd gOj.nil gOj.le 0 (min p.ol ((lvO f st l).length : Int)).toNat so.2.2 rfl (show min p.ol ((lvO f st l).length : Int) = _ by omega) rfl (Nat.zero_le _) (by have := gO3.le; omega) (Nat.le_refl _) (.inl rfl) ?_; conv => whnf
          rw [bsh_zero]
          have gP := gOj.pre (k := (min p.ol ((lvO f st l).length : Int)).toNat) (m := so.2.2) (by omega) (by have := gO3.le; omega) (Nat.le_refl _)
          refine write_ok (f := { p with gasS := (bg, ng, cg), gas := p.gas + lvG f st l }) (sb := (so.1, (min p.ol ((lvO f st l).length : Int)).toNat, so.2.2)) hdg hGf hmemG hp3.oo gP fun hmW hdW hMW hKW => ?_; conv => whnf
          have hM : lvM p mem (lvO f st l) = writeI mem p.oo ((lvO f st l).take (min p.ol ((lvO f st l).length : Int)).toNat) := by unfold lvM; rw [if_neg (by omega)]
          have hWf := hKW fb _ hGf (fun mb h => (hmc mb h).2.symm)
          have hWc := hKW c _ hGc (fun mb h => (hmc mb h).1.symm)
          refine answer_ok (sw := nilS) (k := 0) hdW hWf (hpG.ext e3) gF (Nat.zero_le _) (by show p.st.length - 0 + 1 ≤ 64; omega) hppc fun hi5 p5 e5 hp5 heq5 hd5 => ?_; conv => whnf
          obtain ⟨sS5, pS5, hp5e⟩ := heq5
          refine RetX.same (hk hi5 _ { ({ s with w := f.saved } : YS) with retS := so, frS := (s.frS.1, base.length, base.length) } p5 so (eZ.trans e5) hd5 rfl (gO3.ext e5) ?_ (by rw [hput_ne hfc.symm]; exact hWc) hp5 ⟨(bg, ng, cg), sS5, pS5, nilS, ?_⟩ (hput_same ..) ?_ fun b y hb hbc hbf hbm => ?_)
          · exact (hLw2.ext e3).ext e5
          · rw [hp5e]; simp
          · exact MemB.put ((by rw [hM]; exact hMW) : MemB hmW p.memS (lvM p mem (lvO f st l))) (fun mb h => (hmc mb h).2)
          · rw [hput_ne hbf]; exact ((fun b y hb hbc hbf hbm => hKW b y (hGk b y hb hbc hbf) hbm)) b y hb hbc hbf hbm
        · have hM : lvM p mem (lvO f st l) = mem := by unfold lvM; rw [if_pos (by omega)]
          refine answer_ok (sw := nilS) (k := 0) hdg hGf (hpG.ext e3) gF (Nat.zero_le _) (by show p.st.length - 0 + 1 ≤ 64; omega) hppc fun hi5 p5 e5 hp5 heq5 hd5 => ?_; conv => whnf
          obtain ⟨sS5, pS5, hp5e⟩ := heq5
          refine RetX.same (hk hi5 _ { ({ s with w := f.saved } : YS) with retS := so, frS := (s.frS.1, base.length, base.length) } p5 so (eZ.trans e5) hd5 rfl (gO3.ext e5) ?_ (by rw [hput_ne hfc.symm]; exact hGc) hp5 ⟨(bg, ng, cg), sS5, pS5, nilS, ?_⟩ (hput_same ..) ?_ fun b y hb hbc hbf hbm => ?_)
          · exact (hLw2.ext e3).ext e5
          · rw [hp5e]; simp
          · exact MemB.put ((by rw [hM]; exact hmemG) : MemB HG p.memS (lvM p mem (lvO f st l))) (fun mb h => (hmc mb h).2)
          · rw [hput_ne hbf]; exact ((fun b y hb hbc hbf _ => hGk b y hb hbc hbf)) b y hb hbc hbf hbm
  | true =>
    repeat (first | (refine CondX.tt ?_; conv => whnf) | (refine CondX.ff ?_; conv => whnf))
    by_cases h0 : st = 0
    · subst h0
      repeat (first | (refine CondX.tt ?_; conv => whnf) | (refine CondX.ff ?_; conv => whnf))
      refine CallX.fj hd6 (deposit_ok h6 (hok.gas.ext e6) hgr (hl.ext e6) fun sD hi7 e7 g7 hd7 => ?_); conv => whnf
      have hLs : lvS f 0 l = (depI f.gas l).2 := by simp [lvS, hcr]
      have h67 := e7 _ _ h6
      have e67 := e6.trans e7
      have hdv : (depI f.gas l).2 = 0 ∨ 1 < (depI f.gas l).2 := by
        unfold depI
        repeat' split
        all_goals simp
      rcases hdv with hd0 | hd1
      · refine CondX.eqT hd0 ?_; conv => whnf
        have hLs0 := hLs.trans hd0
        have gG : NtS hi7 sD (lvG f 0 l) := by
          have : lvG f 0 l = (depI f.gas l).1 := by simp [lvG, hLs0, hcr]
          rw [this]; exact g7
        have hO : lvO f 0 l = [] := by simp [lvO, hLs0, hcr]
        have hll := hl.len
        refine CondX.decI (fun hlen => ?_) (fun hlen => ?_) <;> conv => whnf
        · have hne : l ≠ [] := by intro h; rw [h] at hll; simp at hll; omega
          have hself6 : join hi7 hm m6 = some ([] ++ (fCells f ++ []), 135) := by rw [List.append_nil]; exact join_l h67
          refine DrawX.go T_ok hM Hval.func53 (tb := dr53) rfl (by kernel_rfl) ?_; conv => whnf
          refine LoadX.of _ (ldV_self hself6 hok.self hok.caller rfl) ?_; conv => whnf
          refine account_ok (xs := s.w.acc) (join_hm hd7 hc) (show (sCells s)[0]? = some (sl s.w.sA) from rfl) ((hw.acc.ext e67).arr.ext (Ext.jl _ _)) (fun x hx => (hw.acc.each x hx).addr) hok.self (by have := hwr.acc; omega) ?_; conv => whnf
          have hx := getA_ok (hw.acc.ext e67).each hok.self
          generalize hxe : getA s.w.acc f.self = x at *
          have xlen := acCells_len hx.addr
          have xone := acCells_one x
          refine BoxW.j hd7 fun m9 hin9 hmn9 hd9' he9 => ?_; conv => whnf
          refine Ob.mk ⟨by rw [List.size_toArray, xlen]; rfl, xone⟩ ?_; conv => whnf
          refine StoreX.j (by rw [List.toList_toArray, xlen]; decide) ?_; conv => whnf
          rw [setSeg_all (by rw [List.toList_toArray, xlen]; rfl)]
          refine StoreX.j (by rw [xlen]; exact Nat.le_of_ble_eq_true rfl) ?_; conv => whnf
          have ec := withCode_cells (x := x) (s := so) (n := l) hx.addr
          erw [ec]
          have hd10 : Dj (hput hi7 m9 (acCells (withCode x so l), 118)) hm := hd9'.hp
          have e10 : Ext hi7 (hput hi7 m9 (acCells (withCode x so l), 118)) := Ext.new hin9
          have xlen2 := acCells_len (x := withCode x so l) hx.addr
          refine DrawX.go T_ok hM Hval.func53 (tb := dr53) rfl (by kernel_rfl) ?_; conv => whnf
          refine LoadX.all (c := acCells (withCode x so l)) (t := 118) (join_l (hput_same ..)) (by rw [xlen2]; rfl) ?_; conv => whnf
          have e710 := e67.trans e10
          refine put_ok (o := 0) (x := withCode x so l) hd10 hc (show (sCells s)[0]? = some (sl s.w.sA) from rfl) (hw.acc.ext e710) ((⟨hx.addr, hx.nonce, hx.bal, hl.ext e67, hx.slots, hx.each⟩ : (withCode x so l).ok hi7).ext e10) hwr.acc fun hi8 sA8 ys e8 hd8 hA8 hP8 => ?_; conv => whnf
          have hset : setSeg (sCells s) 0 [sl sA8] = sCells { s with w := { s.w with sA := sA8, acc := ys } } := (sCells_set (by decide)).trans rfl
          rw [hset] at hd8 ⊢
          refine CondX.neI (fun h => absurd hd0 h) (fun _ => ?_); conv => whnf
          refine CondX.dF (by omega) ?_; conv => whnf
          have eX := e710.trans e8
          have h6X := e8 _ _ (e10 _ _ h67)
          have hLw : ∀ {h'}, Ext hi8 h' → LvW h' s.w { s.w with sA := sA8, acc := ys } f 0 l := fun he => ⟨fun h => absurd hLs0 h, fun _ h => absurd ⟨hcr, hne⟩ h, fun _ _ _ => ⟨so, sA8, ys, rfl, hA8.ext he, by rw [hxe]; exact hP8⟩⟩
          have gG := (gG.ext e10).ext e8
          have gO : BytS hi8 nilS (lvO f 0 l) := by rw [hO]; exact Byt_nil _
          have hcX : hput hm c (sCells { s with w := { s.w with sA := sA8, acc := ys } }, tc) c = some (sCells { s with w := { s.w with sA := sA8, acc := ys } }, tc) := hput_same ..
          have hkX : ∀ b y, hm b = some y → b ≠ c → hput hm c (sCells { s with w := { s.w with sA := sA8, acc := ys } }, tc) b = some y := fun b y hb hbc => by rw [hput_ne hbc]; exact hb
          refine StoreX.st (s := ({ s with w := { s.w with sA := sA8, acc := ys } } : YS)) hd8 hcX 10 (by decide) { ({ s with w := { s.w with sA := sA8, acc := ys } } : YS) with retS := nilS } rfl fun hdA => ?_; conv => whnf
          refine DrawX.go T_ok hM Hval.func53 (tb := dr53) rfl (by kernel_rfl) ?_; conv => whnf
          refine LoadX.blk (join_hm hdA (hput_same ..)) (sl s.frS) rfl ?_; conv => whnf
          refine LoadX.blk (join_hm hdA (hput_same ..)) (sl s.frS) rfl ?_; conv => whnf
          refine LoadX.blk (join_hm hdA (hput_same ..)) (sl s.frS) rfl ?_; conv => whnf
          rw [en]
          refine SlcX.gen hfA.rd hfA.nil hfA.le 0 base.length base.length rfl rfl rfl (Nat.zero_le _) (Nat.le_refl _) (by have := hfA.le; omega) (.inr (by simp)) ?_; conv => whnf
          rw [bsh_zero]
          refine StoreX.st (s := { ({ s with w := { s.w with sA := sA8, acc := ys } } : YS) with retS := nilS }) hdA (hput_same ..) 9 (by decide) { ({ s with w := { s.w with sA := sA8, acc := ys } } : YS) with retS := nilS, frS := (s.frS.1, base.length, base.length) } rfl fun hdB => ?_; conv => whnf
          refine LoadX.blk (join_hm hdB (hput_same ..)) (sl (s.frS.1, base.length, base.length)) rfl ?_; conv => whnf
          refine CondX.eqF (show ((base.length : Nat) : Int) ≠ 0 by omega) ?_; conv => whnf
          refine DrawX.go T_ok hM Hval.func53 (tb := dr53) rfl (by kernel_rfl) ?_; conv => whnf
          refine LoadX.blk (join_hm hdB (hput_same ..)) (sl (s.frS.1, base.length, base.length)) rfl ?_; conv => whnf
          refine LoadX.blk (join_hm hdB (hput_same ..)) (sl (s.frS.1, base.length, base.length)) rfl ?_; conv => whnf
          have en2 : IntKind.i64.wrap (((base.length : Nat) : Int) - 1) = ((b0.length : Nat) : Int) := by rw [wrap_i64 (by omega) (by omega)]; omega
          erw [en2]
          refine IdxX.of hs (by omega) (by show ((b0.length : Nat) : Int) < ((base.length : Nat) : Int); omega) ?_; conv => whnf
          have hoff : 0 + ((b0.length : Nat) : Int).toNat * 60 = pre.length := by rw [hpl, Int.toNat_natCast]; omega
          erw [hoff]
          have hfbB : hput (hput (hput hm c (sCells { s with w := { s.w with sA := sA8, acc := ys } }, tc)) c (sCells { ({ s with w := { s.w with sA := sA8, acc := ys } } : YS) with retS := nilS }, tc)) c (sCells { ({ s with w := { s.w with sA := sA8, acc := ys } } : YS) with retS := nilS, frS := (s.frS.1, base.length, base.length) }, tc) fb = some (pre ++ (fCells p ++ post), tf) := by
            rw [hput_ne hfc, hput_ne hfc]; exact hkX fb _ hfb hfc
          refine LoadX.mid (join_hm hdB hfbB) 4 (by decide) rfl (v := sl p.gasS) rfl ?_; conv => whnf
          have hgb := lvG_bd (st := 0) (l := l) hg0
          have hpE := hp.ext eX
          refine CallX.fj hdB (addN hpE.gas gG (by omega) fun bg ng cg hi2 e2 g2 hd2 => ?_); conv => whnf
          refine StoreX.mid (f := p) hd2 hfbB 4 (by decide) rfl { p with gasS := (bg, ng, cg), gas := p.gas + lvG f 0 l } rfl fun hdg => ?_; conv => whnf
          have h62 := e2 _ _ h6X
          have gO2 := gO.ext e2
          have hpG : ({ p with gasS := (bg, ng, cg), gas := p.gas + lvG f 0 l } : YF).ok hi2 := ⟨(hpE.ext e2).pc, g2, (hpE.ext e2).val, (hpE.ext e2).oo, (hpE.ext e2).ol, (hpE.ext e2).st, (hpE.ext e2).stE, (hpE.ext e2).stR, (hpE.ext e2).code, (hpE.ext e2).input, (hpE.ext e2).self, (hpE.ext e2).caller, (hpE.ext e2).saved⟩
          have eY : Ext hi hi2 := eX.trans e2
          have hLw2 : LvW hi2 s.w ({ s with w := { s.w with sA := sA8, acc := ys } } : YS).w f 0 l := by first | exact hLw _ | exact hLw e2
          obtain ⟨HG, hHG⟩ : ∃ HG : Hp, HG = hput (hput (hput (hput hm c (sCells { s with w := { s.w with sA := sA8, acc := ys } }, tc)) c (sCells { ({ s with w := { s.w with sA := sA8, acc := ys } } : YS) with retS := nilS }, tc)) c (sCells { ({ s with w := { s.w with sA := sA8, acc := ys } } : YS) with retS := nilS, frS := (s.frS.1, base.length, base.length) }, tc)) fb (pre ++ (fCells { p with gasS := (bg, ng, cg), gas := p.gas + lvG f 0 l } ++ post), tf) := ⟨_, rfl⟩
          rw [← hHG] at hdg ⊢
          have hGf : HG fb = some (pre ++ (fCells { p with gasS := (bg, ng, cg), gas := p.gas + lvG f 0 l } ++ post), tf) := by rw [hHG]; exact hput_same ..
          have hGc : HG c = some (sCells { ({ s with w := { s.w with sA := sA8, acc := ys } } : YS) with retS := nilS, frS := (s.frS.1, base.length, base.length) }, tc) := by rw [hHG, hput_ne hfc.symm]; exact hput_same ..
          have hGk : ∀ b y, hm b = some y → b ≠ c → b ≠ fb → HG b = some y := fun b y hb hbc hbf => by rw [hHG, hput_ne hbf, hput_ne hbc, hput_ne hbc]; exact hkX b y hb hbc
          have hmemG : MemB HG p.memS mem := by
            obtain ⟨q1, q2, q3⟩ := hmem
            refine ⟨q1, q2, ?_⟩
            rcases q3 with q3 | ⟨mb, q4, q5⟩
            · exact .inl q3
            · exact .inr ⟨mb, q4, hGk mb _ q5 (hmc mb (by rw [q4])).1 (hmc mb (by rw [q4])).2⟩
          clear hHG
          refine CondX.eqT hd0 ?_; conv => whnf
          refine CallX.fj hdg (num_ok (by omega) (by omega) fun bf0 nf0 cf0 hi30 e30 g30 hd30 => ?_); conv => whnf
          repeat (first | (refine CondX.tt ?_; conv => whnf) | (refine CondX.ff ?_; conv => whnf))
          have hself3 : BytS hi30 (some ⟨m6, 12, none⟩, 20, 20) f.self := by
            have h63 : hi30 m6 = some ([] ++ (fCells f ++ []), 135) := by rw [List.append_nil]; exact e30 _ _ h62
            have sg := seg_self (pre := []) (post := []) hok.self
            refine ⟨?_, hselfB, Nat.le_refl _, fun h => (by cases h), (by decide : 20 < 2 ^ 40)⟩
            simp only [rd, h63]
            rw [if_pos (by rw [mid_len hok.self hok.caller]; simp)]
            exact congrArg some sg
          refine CallX.fj hd30 (fromBE_ok hself3 fun bf nf cf hi3 e31 g3 hd3 => ?_); conv => whnf
          have e3 := e30.trans e31
          have hF : lvF f 0 l = bv f.self := by unfold lvF; rw [if_pos (by rw [hLs]; exact hd0), if_pos hcr]
          have gF : NtS hi3 (bf, nf, cf) (lvF f 0 l) := by rw [hF]; exact g3
          refine LoadX.mid (join_hm hd3 hGf) 7 (by decide) rfl (v := sl p.olS) rfl ?_; conv => whnf
          have hp3 := hpG.ext e3
          have ol0 : 0 ≤ p.ol := hp3.ol.val
          refine small_ok (hp3.ol.ext (Ext.jl _ _)) ?_; conv => whnf
          rw [if_pos hol]
          have gO3 := gO2.ext e3
          have ho := gO3.len
          have hor := gO3.room
          have eu : IntKind.u64.wrap ((nilS.2.1 : Nat) : Int) = nilS.2.1 := by rw [wrap_u64']; omega
          erw [eu]
          have emin : (if ((nilS.2.1 : Nat) : Int) < p.ol then ((nilS.2.1 : Nat) : Int) else p.ol) = min p.ol (lvO f 0 l).length := by rw [← ho]; split <;> omega
          erw [emin]
          have eZ := eY.trans e3
          refine CondX.decI (fun hn => ?_) (fun hn => ?_) <;> conv => whnf
          · refine DrawX.go T_ok hM Hval.func53 (tb := dr53) rfl (by kernel_rfl) ?_; conv => whnf
            refine LoadX.mid (join_hm hd3 hGf) 6 (by decide) rfl (v := sl p.ooS) rfl ?_; conv => whnf
            have gOj := gO3.ext (Ext.jl hi3 HG)
            have hmn : ((min p.ol ((lvO f 0 l).length : Int)).toNat : Int) = min p.ol (lvO f 0 l).length := by omega
            refine SlcX.gen gOj.rd gOj.nil gOj.le 0 (min p.ol ((lvO f 0 l).length : Int)).toNat nilS.2.2 rfl (show min p.ol ((lvO f 0 l).length : Int) = _ by omega) rfl (Nat.zero_le _) (by have := gO3.le; omega) (Nat.le_refl _) (.inl rfl) ?_; conv => whnf
            rw [bsh_zero]
            have gP := gOj.pre (k := (min p.ol ((lvO f 0 l).length : Int)).toNat) (m := nilS.2.2) (by omega) (by have := gO3.le; omega) (Nat.le_refl _)
            refine write_ok (f := { p with gasS := (bg, ng, cg), gas := p.gas + lvG f 0 l }) (sb := (nilS.1, (min p.ol ((lvO f 0 l).length : Int)).toNat, nilS.2.2)) hd3 hGf hmemG hp3.oo gP fun hmW hdW hMW hKW => ?_; conv => whnf
            have hM : lvM p mem (lvO f 0 l) = writeI mem p.oo ((lvO f 0 l).take (min p.ol ((lvO f 0 l).length : Int)).toNat) := by unfold lvM; rw [if_neg (by omega)]
            have hWf := hKW fb _ hGf (fun mb h => (hmc mb h).2.symm)
            have hWc := hKW c _ hGc (fun mb h => (hmc mb h).1.symm)
            refine answer_ok (sw := (bf, nf, cf)) (k := 0) hdW hWf (hpG.ext e3) gF (Nat.zero_le _) (by show p.st.length - 0 + 1 ≤ 64; omega) hppc fun hi5 p5 e5 hp5 heq5 hd5 => ?_; conv => whnf
            obtain ⟨sS5, pS5, hp5e⟩ := heq5
            refine RetX.same (hk hi5 _ { ({ s with w := { s.w with sA := sA8, acc := ys } } : YS) with retS := nilS, frS := (s.frS.1, base.length, base.length) } p5 nilS (eZ.trans e5) hd5 rfl (gO3.ext e5) ?_ (by rw [hput_ne hfc.symm]; exact hWc) hp5 ⟨(bg, ng, cg), sS5, pS5, (bf, nf, cf), ?_⟩ (hput_same ..) ?_ fun b y hb hbc hbf hbm => ?_)
            · exact (hLw2.ext e3).ext e5
            · rw [hp5e]; simp
            · exact MemB.put ((by rw [hM]; exact hMW) : MemB hmW p.memS (lvM p mem (lvO f 0 l))) (fun mb h => (hmc mb h).2)
            · rw [hput_ne hbf]; exact ((fun b y hb hbc hbf hbm => hKW b y (hGk b y hb hbc hbf) hbm)) b y hb hbc hbf hbm
          · have hM : lvM p mem (lvO f 0 l) = mem := by unfold lvM; rw [if_pos (by omega)]
            refine answer_ok (sw := (bf, nf, cf)) (k := 0) hd3 hGf (hpG.ext e3) gF (Nat.zero_le _) (by show p.st.length - 0 + 1 ≤ 64; omega) hppc fun hi5 p5 e5 hp5 heq5 hd5 => ?_; conv => whnf
            obtain ⟨sS5, pS5, hp5e⟩ := heq5
            refine RetX.same (hk hi5 _ { ({ s with w := { s.w with sA := sA8, acc := ys } } : YS) with retS := nilS, frS := (s.frS.1, base.length, base.length) } p5 nilS (eZ.trans e5) hd5 rfl (gO3.ext e5) ?_ (by rw [hput_ne hfc.symm]; exact hGc) hp5 ⟨(bg, ng, cg), sS5, pS5, (bf, nf, cf), ?_⟩ (hput_same ..) ?_ fun b y hb hbc hbf hbm => ?_)
            · exact (hLw2.ext e3).ext e5
            · rw [hp5e]; simp
            · exact MemB.put ((by rw [hM]; exact hmemG) : MemB HG p.memS (lvM p mem (lvO f 0 l))) (fun mb h => (hmc mb h).2)
            · rw [hput_ne hbf]; exact ((fun b y hb hbc hbf _ => hGk b y hb hbc hbf)) b y hb hbc hbf hbm
        · have hle : l = [] := List.eq_nil_of_length_eq_zero (by omega)
          refine CondX.neI (fun h => absurd hd0 h) (fun _ => ?_); conv => whnf
          refine CondX.dF (by omega) ?_; conv => whnf
          have hLw : ∀ h', LvW h' s.w s.w f 0 l := fun h' => ⟨fun h => absurd hLs0 h, fun _ _ => rfl, fun _ _ h => absurd hle h⟩
          have gO : BytS hi7 nilS (lvO f 0 l) := by rw [hO]; exact Byt_nil _
          have hcX := hc
          have hkX : ∀ b y, hm b = some y → b ≠ c → hm b = some y := fun b y hb hbc => hb
          refine StoreX.st (s := s) hd7 hcX 10 (by decide) { s with retS := nilS } rfl fun hdA => ?_; conv => whnf
          refine DrawX.go T_ok hM Hval.func53 (tb := dr53) rfl (by kernel_rfl) ?_; conv => whnf
          refine LoadX.blk (join_hm hdA (hput_same ..)) (sl s.frS) rfl ?_; conv => whnf
          refine LoadX.blk (join_hm hdA (hput_same ..)) (sl s.frS) rfl ?_; conv => whnf
          refine LoadX.blk (join_hm hdA (hput_same ..)) (sl s.frS) rfl ?_; conv => whnf
          rw [en]
          refine SlcX.gen hfA.rd hfA.nil hfA.le 0 base.length base.length rfl rfl rfl (Nat.zero_le _) (Nat.le_refl _) (by have := hfA.le; omega) (.inr (by simp)) ?_; conv => whnf
          rw [bsh_zero]
          refine StoreX.st (s := { s with retS := nilS }) hdA (hput_same ..) 9 (by decide) { s with retS := nilS, frS := (s.frS.1, base.length, base.length) } rfl fun hdB => ?_; conv => whnf
          refine LoadX.blk (join_hm hdB (hput_same ..)) (sl (s.frS.1, base.length, base.length)) rfl ?_; conv => whnf
          refine CondX.eqF (show ((base.length : Nat) : Int) ≠ 0 by omega) ?_; conv => whnf
          refine DrawX.go T_ok hM Hval.func53 (tb := dr53) rfl (by kernel_rfl) ?_; conv => whnf
          refine LoadX.blk (join_hm hdB (hput_same ..)) (sl (s.frS.1, base.length, base.length)) rfl ?_; conv => whnf
          refine LoadX.blk (join_hm hdB (hput_same ..)) (sl (s.frS.1, base.length, base.length)) rfl ?_; conv => whnf
          have en2 : IntKind.i64.wrap (((base.length : Nat) : Int) - 1) = ((b0.length : Nat) : Int) := by rw [wrap_i64 (by omega) (by omega)]; omega
          erw [en2]
          refine IdxX.of hs (by omega) (by show ((b0.length : Nat) : Int) < ((base.length : Nat) : Int); omega) ?_; conv => whnf
          have hoff : 0 + ((b0.length : Nat) : Int).toNat * 60 = pre.length := by rw [hpl, Int.toNat_natCast]; omega
          erw [hoff]
          have hfbB : hput (hput hm c (sCells { s with retS := nilS }, tc)) c (sCells { s with retS := nilS, frS := (s.frS.1, base.length, base.length) }, tc) fb = some (pre ++ (fCells p ++ post), tf) := by
            rw [hput_ne hfc, hput_ne hfc]; exact hkX fb _ hfb hfc
          refine LoadX.mid (join_hm hdB hfbB) 4 (by decide) rfl (v := sl p.gasS) rfl ?_; conv => whnf
          have hgb := lvG_bd (st := 0) (l := l) hg0
          have hpE := hp.ext e67
          refine CallX.fj hdB (addN hpE.gas gG (by omega) fun bg ng cg hi2 e2 g2 hd2 => ?_); conv => whnf
          refine StoreX.mid (f := p) hd2 hfbB 4 (by decide) rfl { p with gasS := (bg, ng, cg), gas := p.gas + lvG f 0 l } rfl fun hdg => ?_; conv => whnf
          have h62 := e2 _ _ h67
          have gO2 := gO.ext e2
          have hpG : ({ p with gasS := (bg, ng, cg), gas := p.gas + lvG f 0 l } : YF).ok hi2 := ⟨(hpE.ext e2).pc, g2, (hpE.ext e2).val, (hpE.ext e2).oo, (hpE.ext e2).ol, (hpE.ext e2).st, (hpE.ext e2).stE, (hpE.ext e2).stR, (hpE.ext e2).code, (hpE.ext e2).input, (hpE.ext e2).self, (hpE.ext e2).caller, (hpE.ext e2).saved⟩
          have eY : Ext hi hi2 := e67.trans e2
          have hLw2 : LvW hi2 s.w s.w f 0 l := by first | exact hLw _ | exact hLw e2
          obtain ⟨HG, hHG⟩ : ∃ HG : Hp, HG = hput (hput (hput hm c (sCells { s with retS := nilS }, tc)) c (sCells { s with retS := nilS, frS := (s.frS.1, base.length, base.length) }, tc)) fb (pre ++ (fCells { p with gasS := (bg, ng, cg), gas := p.gas + lvG f 0 l } ++ post), tf) := ⟨_, rfl⟩
          rw [← hHG] at hdg ⊢
          have hGf : HG fb = some (pre ++ (fCells { p with gasS := (bg, ng, cg), gas := p.gas + lvG f 0 l } ++ post), tf) := by rw [hHG]; exact hput_same ..
          have hGc : HG c = some (sCells { s with retS := nilS, frS := (s.frS.1, base.length, base.length) }, tc) := by rw [hHG, hput_ne hfc.symm]; exact hput_same ..
          have hGk : ∀ b y, hm b = some y → b ≠ c → b ≠ fb → HG b = some y := fun b y hb hbc hbf => by rw [hHG, hput_ne hbf, hput_ne hbc, hput_ne hbc]; exact hkX b y hb hbc
          have hmemG : MemB HG p.memS mem := by
            obtain ⟨q1, q2, q3⟩ := hmem
            refine ⟨q1, q2, ?_⟩
            rcases q3 with q3 | ⟨mb, q4, q5⟩
            · exact .inl q3
            · exact .inr ⟨mb, q4, hGk mb _ q5 (hmc mb (by rw [q4])).1 (hmc mb (by rw [q4])).2⟩
          clear hHG
          refine CondX.eqT hd0 ?_; conv => whnf
          refine CallX.fj hdg (num_ok (by omega) (by omega) fun bf0 nf0 cf0 hi30 e30 g30 hd30 => ?_); conv => whnf
          repeat (first | (refine CondX.tt ?_; conv => whnf) | (refine CondX.ff ?_; conv => whnf))
          have hself3 : BytS hi30 (some ⟨m6, 12, none⟩, 20, 20) f.self := by
            have h63 : hi30 m6 = some ([] ++ (fCells f ++ []), 135) := by rw [List.append_nil]; exact e30 _ _ h62
            have sg := seg_self (pre := []) (post := []) hok.self
            refine ⟨?_, hselfB, Nat.le_refl _, fun h => (by cases h), (by decide : 20 < 2 ^ 40)⟩
            simp only [rd, h63]
            rw [if_pos (by rw [mid_len hok.self hok.caller]; simp)]
            exact congrArg some sg
          refine CallX.fj hd30 (fromBE_ok hself3 fun bf nf cf hi3 e31 g3 hd3 => ?_); conv => whnf
          have e3 := e30.trans e31
          have hF : lvF f 0 l = bv f.self := by unfold lvF; rw [if_pos (by rw [hLs]; exact hd0), if_pos hcr]
          have gF : NtS hi3 (bf, nf, cf) (lvF f 0 l) := by rw [hF]; exact g3
          refine LoadX.mid (join_hm hd3 hGf) 7 (by decide) rfl (v := sl p.olS) rfl ?_; conv => whnf
          have hp3 := hpG.ext e3
          have ol0 : 0 ≤ p.ol := hp3.ol.val
          refine small_ok (hp3.ol.ext (Ext.jl _ _)) ?_; conv => whnf
          rw [if_pos hol]
          have gO3 := gO2.ext e3
          have ho := gO3.len
          have hor := gO3.room
          have eu : IntKind.u64.wrap ((nilS.2.1 : Nat) : Int) = nilS.2.1 := by rw [wrap_u64']; omega
          erw [eu]
          have emin : (if ((nilS.2.1 : Nat) : Int) < p.ol then ((nilS.2.1 : Nat) : Int) else p.ol) = min p.ol (lvO f 0 l).length := by rw [← ho]; split <;> omega
          erw [emin]
          have eZ := eY.trans e3
          refine CondX.decI (fun hn => ?_) (fun hn => ?_) <;> conv => whnf
          · refine DrawX.go T_ok hM Hval.func53 (tb := dr53) rfl (by kernel_rfl) ?_; conv => whnf
            refine LoadX.mid (join_hm hd3 hGf) 6 (by decide) rfl (v := sl p.ooS) rfl ?_; conv => whnf
            have gOj := gO3.ext (Ext.jl hi3 HG)
            have hmn : ((min p.ol ((lvO f 0 l).length : Int)).toNat : Int) = min p.ol (lvO f 0 l).length := by omega
            refine SlcX.gen gOj.rd gOj.nil gOj.le 0 (min p.ol ((lvO f 0 l).length : Int)).toNat nilS.2.2 rfl (show min p.ol ((lvO f 0 l).length : Int) = _ by omega) rfl (Nat.zero_le _) (by have := gO3.le; omega) (Nat.le_refl _) (.inl rfl) ?_; conv => whnf
            rw [bsh_zero]
            have gP := gOj.pre (k := (min p.ol ((lvO f 0 l).length : Int)).toNat) (m := nilS.2.2) (by omega) (by have := gO3.le; omega) (Nat.le_refl _)
            refine write_ok (f := { p with gasS := (bg, ng, cg), gas := p.gas + lvG f 0 l }) (sb := (nilS.1, (min p.ol ((lvO f 0 l).length : Int)).toNat, nilS.2.2)) hd3 hGf hmemG hp3.oo gP fun hmW hdW hMW hKW => ?_; conv => whnf
            have hM : lvM p mem (lvO f 0 l) = writeI mem p.oo ((lvO f 0 l).take (min p.ol ((lvO f 0 l).length : Int)).toNat) := by unfold lvM; rw [if_neg (by omega)]
            have hWf := hKW fb _ hGf (fun mb h => (hmc mb h).2.symm)
            have hWc := hKW c _ hGc (fun mb h => (hmc mb h).1.symm)
            refine answer_ok (sw := (bf, nf, cf)) (k := 0) hdW hWf (hpG.ext e3) gF (Nat.zero_le _) (by show p.st.length - 0 + 1 ≤ 64; omega) hppc fun hi5 p5 e5 hp5 heq5 hd5 => ?_; conv => whnf
            obtain ⟨sS5, pS5, hp5e⟩ := heq5
            refine RetX.same (hk hi5 _ { s with retS := nilS, frS := (s.frS.1, base.length, base.length) } p5 nilS (eZ.trans e5) hd5 rfl (gO3.ext e5) ?_ (by rw [hput_ne hfc.symm]; exact hWc) hp5 ⟨(bg, ng, cg), sS5, pS5, (bf, nf, cf), ?_⟩ (hput_same ..) ?_ fun b y hb hbc hbf hbm => ?_)
            · exact (hLw2.ext e3).ext e5
            · rw [hp5e]; simp
            · exact MemB.put ((by rw [hM]; exact hMW) : MemB hmW p.memS (lvM p mem (lvO f 0 l))) (fun mb h => (hmc mb h).2)
            · rw [hput_ne hbf]; exact ((fun b y hb hbc hbf hbm => hKW b y (hGk b y hb hbc hbf) hbm)) b y hb hbc hbf hbm
          · have hM : lvM p mem (lvO f 0 l) = mem := by unfold lvM; rw [if_pos (by omega)]
            refine answer_ok (sw := (bf, nf, cf)) (k := 0) hd3 hGf (hpG.ext e3) gF (Nat.zero_le _) (by show p.st.length - 0 + 1 ≤ 64; omega) hppc fun hi5 p5 e5 hp5 heq5 hd5 => ?_; conv => whnf
            obtain ⟨sS5, pS5, hp5e⟩ := heq5
            refine RetX.same (hk hi5 _ { s with retS := nilS, frS := (s.frS.1, base.length, base.length) } p5 nilS (eZ.trans e5) hd5 rfl (gO3.ext e5) ?_ (by rw [hput_ne hfc.symm]; exact hGc) hp5 ⟨(bg, ng, cg), sS5, pS5, (bf, nf, cf), ?_⟩ (hput_same ..) ?_ fun b y hb hbc hbf hbm => ?_)
            · exact (hLw2.ext e3).ext e5
            · rw [hp5e]; simp
            · exact MemB.put ((by rw [hM]; exact hmemG) : MemB HG p.memS (lvM p mem (lvO f 0 l))) (fun mb h => (hmc mb h).2)
            · rw [hput_ne hbf]; exact ((fun b y hb hbc hbf _ => hGk b y hb hbc hbf)) b y hb hbc hbf hbm
      · refine CondX.eqF (by omega) ?_; conv => whnf
        refine CondX.neI (fun _ => ?_) (fun h => absurd h (by omega)); conv => whnf
        refine LoadX.of (.agg f.saved.cells.toArray) (ldV_saved (join_l h67) hok.self hok.caller rfl) ?_; conv => whnf
        refine Ob.mk ⟨rfl, rfl⟩ ?_; conv => whnf
        refine StoreX.jm hd7 hc (by have := sCells_len s; show 0 + 8 ≤ _; omega) ?_; conv => whnf
        erw [sCells_now]
        have hdX : Dj hi7 (hput hm c (sCells { s with w := f.saved }, tc)) := hd7.put hc
        have hcX : hput hm c (sCells { s with w := f.saved }, tc) c = some (sCells { s with w := f.saved }, tc) := hput_same ..
        have hkX : ∀ b y, hm b = some y → b ≠ c → hput hm c (sCells { s with w := f.saved }, tc) b = some y := fun b y hb hbc => by rw [hput_ne hbc]; exact hb
        have hLw : ∀ h', LvW h' s.w f.saved f 0 l := fun h' => ⟨fun _ => rfl, fun h => by omega, fun h => by omega⟩
        refine CondX.dT hd1 ?_; conv => whnf
        have hG : lvG f 0 l = 0 := by unfold lvG; rw [hLs, if_pos hd1]
        have hO : lvO f 0 l = [] := by unfold lvO; rw [hLs, if_pos hd1]
        have gG : NtS hi7 nilS (lvG f 0 l) := by rw [hG]; exact Nt_nil _
        have gO : BytS hi7 nilS (lvO f 0 l) := by rw [hO]; exact Byt_nil _
        refine StoreX.st (s := ({ s with w := f.saved } : YS)) hdX hcX 10 (by decide) { ({ s with w := f.saved } : YS) with retS := nilS } rfl fun hdA => ?_; conv => whnf
        refine DrawX.go T_ok hM Hval.func53 (tb := dr53) rfl (by kernel_rfl) ?_; conv => whnf
        refine LoadX.blk (join_hm hdA (hput_same ..)) (sl s.frS) rfl ?_; conv => whnf
        refine LoadX.blk (join_hm hdA (hput_same ..)) (sl s.frS) rfl ?_; conv => whnf
        refine LoadX.blk (join_hm hdA (hput_same ..)) (sl s.frS) rfl ?_; conv => whnf
        rw [en]
        refine SlcX.gen hfA.rd hfA.nil hfA.le 0 base.length base.length rfl rfl rfl (Nat.zero_le _) (Nat.le_refl _) (by have := hfA.le; omega) (.inr (by simp)) ?_; conv => whnf
        rw [bsh_zero]
        refine StoreX.st (s := { ({ s with w := f.saved } : YS) with retS := nilS }) hdA (hput_same ..) 9 (by decide) { ({ s with w := f.saved } : YS) with retS := nilS, frS := (s.frS.1, base.length, base.length) } rfl fun hdB => ?_; conv => whnf
        refine LoadX.blk (join_hm hdB (hput_same ..)) (sl (s.frS.1, base.length, base.length)) rfl ?_; conv => whnf
        refine CondX.eqF (show ((base.length : Nat) : Int) ≠ 0 by omega) ?_; conv => whnf
        refine DrawX.go T_ok hM Hval.func53 (tb := dr53) rfl (by kernel_rfl) ?_; conv => whnf
        refine LoadX.blk (join_hm hdB (hput_same ..)) (sl (s.frS.1, base.length, base.length)) rfl ?_; conv => whnf
        refine LoadX.blk (join_hm hdB (hput_same ..)) (sl (s.frS.1, base.length, base.length)) rfl ?_; conv => whnf
        have en2 : IntKind.i64.wrap (((base.length : Nat) : Int) - 1) = ((b0.length : Nat) : Int) := by rw [wrap_i64 (by omega) (by omega)]; omega
        erw [en2]
        refine IdxX.of hs (by omega) (by show ((b0.length : Nat) : Int) < ((base.length : Nat) : Int); omega) ?_; conv => whnf
        have hoff : 0 + ((b0.length : Nat) : Int).toNat * 60 = pre.length := by rw [hpl, Int.toNat_natCast]; omega
        erw [hoff]
        have hfbB : hput (hput (hput hm c (sCells { s with w := f.saved }, tc)) c (sCells { ({ s with w := f.saved } : YS) with retS := nilS }, tc)) c (sCells { ({ s with w := f.saved } : YS) with retS := nilS, frS := (s.frS.1, base.length, base.length) }, tc) fb = some (pre ++ (fCells p ++ post), tf) := by
          rw [hput_ne hfc, hput_ne hfc]; exact hkX fb _ hfb hfc
        refine LoadX.mid (join_hm hdB hfbB) 4 (by decide) rfl (v := sl p.gasS) rfl ?_; conv => whnf
        have hgb := lvG_bd (st := 0) (l := l) hg0
        have hpE := hp.ext e67
        refine CallX.fj hdB (addN hpE.gas gG (by omega) fun bg ng cg hi2 e2 g2 hd2 => ?_); conv => whnf
        refine StoreX.mid (f := p) hd2 hfbB 4 (by decide) rfl { p with gasS := (bg, ng, cg), gas := p.gas + lvG f 0 l } rfl fun hdg => ?_; conv => whnf
        have h62 := e2 _ _ h67
        have gO2 := gO.ext e2
        have hpG : ({ p with gasS := (bg, ng, cg), gas := p.gas + lvG f 0 l } : YF).ok hi2 := ⟨(hpE.ext e2).pc, g2, (hpE.ext e2).val, (hpE.ext e2).oo, (hpE.ext e2).ol, (hpE.ext e2).st, (hpE.ext e2).stE, (hpE.ext e2).stR, (hpE.ext e2).code, (hpE.ext e2).input, (hpE.ext e2).self, (hpE.ext e2).caller, (hpE.ext e2).saved⟩
        have eY : Ext hi hi2 := e67.trans e2
        have hLw2 : LvW hi2 s.w ({ s with w := f.saved } : YS).w f 0 l := by first | exact hLw _ | exact hLw e2
        obtain ⟨HG, hHG⟩ : ∃ HG : Hp, HG = hput (hput (hput (hput hm c (sCells { s with w := f.saved }, tc)) c (sCells { ({ s with w := f.saved } : YS) with retS := nilS }, tc)) c (sCells { ({ s with w := f.saved } : YS) with retS := nilS, frS := (s.frS.1, base.length, base.length) }, tc)) fb (pre ++ (fCells { p with gasS := (bg, ng, cg), gas := p.gas + lvG f 0 l } ++ post), tf) := ⟨_, rfl⟩
        rw [← hHG] at hdg ⊢
        have hGf : HG fb = some (pre ++ (fCells { p with gasS := (bg, ng, cg), gas := p.gas + lvG f 0 l } ++ post), tf) := by rw [hHG]; exact hput_same ..
        have hGc : HG c = some (sCells { ({ s with w := f.saved } : YS) with retS := nilS, frS := (s.frS.1, base.length, base.length) }, tc) := by rw [hHG, hput_ne hfc.symm]; exact hput_same ..
        have hGk : ∀ b y, hm b = some y → b ≠ c → b ≠ fb → HG b = some y := fun b y hb hbc hbf => by rw [hHG, hput_ne hbf, hput_ne hbc, hput_ne hbc]; exact hkX b y hb hbc
        have hmemG : MemB HG p.memS mem := by
          obtain ⟨q1, q2, q3⟩ := hmem
          refine ⟨q1, q2, ?_⟩
          rcases q3 with q3 | ⟨mb, q4, q5⟩
          · exact .inl q3
          · exact .inr ⟨mb, q4, hGk mb _ q5 (hmc mb (by rw [q4])).1 (hmc mb (by rw [q4])).2⟩
        clear hHG
        refine CondX.eqF (by omega) ?_; conv => whnf
        have hF : lvF f 0 l = 0 := by unfold lvF; rw [if_neg (by rw [hLs]; omega)]
        have gF : NtS hi2 nilS (lvF f 0 l) := by rw [hF]; exact Nt_nil _
        have e3 : Ext hi2 hi2 := Ext.refl _
        refine LoadX.mid (join_hm hdg hGf) 7 (by decide) rfl (v := sl p.olS) rfl ?_; conv => whnf
        have hp3 := hpG.ext e3
        have ol0 : 0 ≤ p.ol := hp3.ol.val
        refine small_ok (hp3.ol.ext (Ext.jl _ _)) ?_; conv => whnf
        rw [if_pos hol]
        have gO3 := gO2.ext e3
        have ho := gO3.len
        have hor := gO3.room
        have eu : IntKind.u64.wrap ((nilS.2.1 : Nat) : Int) = nilS.2.1 := by rw [wrap_u64']; omega
        erw [eu]
        have emin : (if ((nilS.2.1 : Nat) : Int) < p.ol then ((nilS.2.1 : Nat) : Int) else p.ol) = min p.ol (lvO f 0 l).length := by rw [← ho]; split <;> omega
        erw [emin]
        have eZ := eY.trans e3
        refine CondX.decI (fun hn => ?_) (fun hn => ?_) <;> conv => whnf
        · refine DrawX.go T_ok hM Hval.func53 (tb := dr53) rfl (by kernel_rfl) ?_; conv => whnf
          refine LoadX.mid (join_hm hdg hGf) 6 (by decide) rfl (v := sl p.ooS) rfl ?_; conv => whnf
          have gOj := gO3.ext (Ext.jl hi2 HG)
          have hmn : ((min p.ol ((lvO f 0 l).length : Int)).toNat : Int) = min p.ol (lvO f 0 l).length := by omega
          refine SlcX.gen gOj.rd gOj.nil gOj.le 0 (min p.ol ((lvO f 0 l).length : Int)).toNat nilS.2.2 rfl (show min p.ol ((lvO f 0 l).length : Int) = _ by omega) rfl (Nat.zero_le _) (by have := gO3.le; omega) (Nat.le_refl _) (.inl rfl) ?_; conv => whnf
          rw [bsh_zero]
          have gP := gOj.pre (k := (min p.ol ((lvO f 0 l).length : Int)).toNat) (m := nilS.2.2) (by omega) (by have := gO3.le; omega) (Nat.le_refl _)
          refine write_ok (f := { p with gasS := (bg, ng, cg), gas := p.gas + lvG f 0 l }) (sb := (nilS.1, (min p.ol ((lvO f 0 l).length : Int)).toNat, nilS.2.2)) hdg hGf hmemG hp3.oo gP fun hmW hdW hMW hKW => ?_; conv => whnf
          have hM : lvM p mem (lvO f 0 l) = writeI mem p.oo ((lvO f 0 l).take (min p.ol ((lvO f 0 l).length : Int)).toNat) := by unfold lvM; rw [if_neg (by omega)]
          have hWf := hKW fb _ hGf (fun mb h => (hmc mb h).2.symm)
          have hWc := hKW c _ hGc (fun mb h => (hmc mb h).1.symm)
          refine answer_ok (sw := nilS) (k := 0) hdW hWf (hpG.ext e3) gF (Nat.zero_le _) (by show p.st.length - 0 + 1 ≤ 64; omega) hppc fun hi5 p5 e5 hp5 heq5 hd5 => ?_; conv => whnf
          obtain ⟨sS5, pS5, hp5e⟩ := heq5
          refine RetX.same (hk hi5 _ { ({ s with w := f.saved } : YS) with retS := nilS, frS := (s.frS.1, base.length, base.length) } p5 nilS (eZ.trans e5) hd5 rfl (gO3.ext e5) ?_ (by rw [hput_ne hfc.symm]; exact hWc) hp5 ⟨(bg, ng, cg), sS5, pS5, nilS, ?_⟩ (hput_same ..) ?_ fun b y hb hbc hbf hbm => ?_)
          · exact (hLw2.ext e3).ext e5
          · rw [hp5e]; simp
          · exact MemB.put ((by rw [hM]; exact hMW) : MemB hmW p.memS (lvM p mem (lvO f 0 l))) (fun mb h => (hmc mb h).2)
          · rw [hput_ne hbf]; exact ((fun b y hb hbc hbf hbm => hKW b y (hGk b y hb hbc hbf) hbm)) b y hb hbc hbf hbm
        · have hM : lvM p mem (lvO f 0 l) = mem := by unfold lvM; rw [if_pos (by omega)]
          refine answer_ok (sw := nilS) (k := 0) hdg hGf (hpG.ext e3) gF (Nat.zero_le _) (by show p.st.length - 0 + 1 ≤ 64; omega) hppc fun hi5 p5 e5 hp5 heq5 hd5 => ?_; conv => whnf
          obtain ⟨sS5, pS5, hp5e⟩ := heq5
          refine RetX.same (hk hi5 _ { ({ s with w := f.saved } : YS) with retS := nilS, frS := (s.frS.1, base.length, base.length) } p5 nilS (eZ.trans e5) hd5 rfl (gO3.ext e5) ?_ (by rw [hput_ne hfc.symm]; exact hGc) hp5 ⟨(bg, ng, cg), sS5, pS5, nilS, ?_⟩ (hput_same ..) ?_ fun b y hb hbc hbf hbm => ?_)
          · exact (hLw2.ext e3).ext e5
          · rw [hp5e]; simp
          · exact MemB.put ((by rw [hM]; exact hmemG) : MemB HG p.memS (lvM p mem (lvO f 0 l))) (fun mb h => (hmc mb h).2)
          · rw [hput_ne hbf]; exact ((fun b y hb hbc hbf _ => hGk b y hb hbc hbf)) b y hb hbc hbf hbm
    · repeat (first | (refine CondX.tt ?_; conv => whnf) | (refine CondX.ff ?_; conv => whnf))
      refine CondX.eqF h0 ?_; conv => whnf
      repeat (first | (refine CondX.tt ?_; conv => whnf) | (refine CondX.ff ?_; conv => whnf))
      refine CondX.neI (fun _ => ?_) (fun h => absurd h h0); conv => whnf
      refine LoadX.of (.agg f.saved.cells.toArray) (ldV_saved (join_l h6) hok.self hok.caller rfl) ?_; conv => whnf
      refine Ob.mk ⟨rfl, rfl⟩ ?_; conv => whnf
      refine StoreX.jm hd6 hc (by have := sCells_len s; show 0 + 8 ≤ _; omega) ?_; conv => whnf
      erw [sCells_now]
      have hdX : Dj hiA (hput hm c (sCells { s with w := f.saved }, tc)) := hd6.put hc
      have hcX : hput hm c (sCells { s with w := f.saved }, tc) c = some (sCells { s with w := f.saved }, tc) := hput_same ..
      have hkX : ∀ b y, hm b = some y → b ≠ c → hput hm c (sCells { s with w := f.saved }, tc) b = some y := fun b y hb hbc => by rw [hput_ne hbc]; exact hb
      have hLs : lvS f st l = st := by unfold lvS; rw [if_neg (fun h => h0 h.2)]
      have hLw : ∀ h', LvW h' s.w f.saved f st l := fun h' => ⟨fun _ => rfl, fun h => absurd (hLs.symm.trans h) h0, fun h => absurd (hLs.symm.trans h) h0⟩
      by_cases h1 : 1 < st
      · refine CondX.dT h1 ?_; conv => whnf
        have hG : lvG f st l = 0 := by unfold lvG; rw [hLs, if_pos h1]
        have hO : lvO f st l = [] := by unfold lvO; rw [hLs, if_pos h1]
        have gG : NtS hiA nilS (lvG f st l) := by rw [hG]; exact Nt_nil _
        have gO : BytS hiA nilS (lvO f st l) := by rw [hO]; exact Byt_nil _
        refine StoreX.st (s := ({ s with w := f.saved } : YS)) hdX hcX 10 (by decide) { ({ s with w := f.saved } : YS) with retS := nilS } rfl fun hdA => ?_; conv => whnf
        refine DrawX.go T_ok hM Hval.func53 (tb := dr53) rfl (by kernel_rfl) ?_; conv => whnf
        refine LoadX.blk (join_hm hdA (hput_same ..)) (sl s.frS) rfl ?_; conv => whnf
        refine LoadX.blk (join_hm hdA (hput_same ..)) (sl s.frS) rfl ?_; conv => whnf
        refine LoadX.blk (join_hm hdA (hput_same ..)) (sl s.frS) rfl ?_; conv => whnf
        rw [en]
        refine SlcX.gen hfA.rd hfA.nil hfA.le 0 base.length base.length rfl rfl rfl (Nat.zero_le _) (Nat.le_refl _) (by have := hfA.le; omega) (.inr (by simp)) ?_; conv => whnf
        rw [bsh_zero]
        refine StoreX.st (s := { ({ s with w := f.saved } : YS) with retS := nilS }) hdA (hput_same ..) 9 (by decide) { ({ s with w := f.saved } : YS) with retS := nilS, frS := (s.frS.1, base.length, base.length) } rfl fun hdB => ?_; conv => whnf
        refine LoadX.blk (join_hm hdB (hput_same ..)) (sl (s.frS.1, base.length, base.length)) rfl ?_; conv => whnf
        refine CondX.eqF (show ((base.length : Nat) : Int) ≠ 0 by omega) ?_; conv => whnf
        refine DrawX.go T_ok hM Hval.func53 (tb := dr53) rfl (by kernel_rfl) ?_; conv => whnf
        refine LoadX.blk (join_hm hdB (hput_same ..)) (sl (s.frS.1, base.length, base.length)) rfl ?_; conv => whnf
        refine LoadX.blk (join_hm hdB (hput_same ..)) (sl (s.frS.1, base.length, base.length)) rfl ?_; conv => whnf
        have en2 : IntKind.i64.wrap (((base.length : Nat) : Int) - 1) = ((b0.length : Nat) : Int) := by rw [wrap_i64 (by omega) (by omega)]; omega
        erw [en2]
        refine IdxX.of hs (by omega) (by show ((b0.length : Nat) : Int) < ((base.length : Nat) : Int); omega) ?_; conv => whnf
        have hoff : 0 + ((b0.length : Nat) : Int).toNat * 60 = pre.length := by rw [hpl, Int.toNat_natCast]; omega
        erw [hoff]
        have hfbB : hput (hput (hput hm c (sCells { s with w := f.saved }, tc)) c (sCells { ({ s with w := f.saved } : YS) with retS := nilS }, tc)) c (sCells { ({ s with w := f.saved } : YS) with retS := nilS, frS := (s.frS.1, base.length, base.length) }, tc) fb = some (pre ++ (fCells p ++ post), tf) := by
          rw [hput_ne hfc, hput_ne hfc]; exact hkX fb _ hfb hfc
        refine LoadX.mid (join_hm hdB hfbB) 4 (by decide) rfl (v := sl p.gasS) rfl ?_; conv => whnf
        have hgb := lvG_bd (st := st) (l := l) hg0
        have hpE := hp.ext e6
        refine CallX.fj hdB (addN hpE.gas gG (by omega) fun bg ng cg hi2 e2 g2 hd2 => ?_); conv => whnf
        refine StoreX.mid (f := p) hd2 hfbB 4 (by decide) rfl { p with gasS := (bg, ng, cg), gas := p.gas + lvG f st l } rfl fun hdg => ?_; conv => whnf
        have h62 := e2 _ _ h6
        have gO2 := gO.ext e2
        have hpG : ({ p with gasS := (bg, ng, cg), gas := p.gas + lvG f st l } : YF).ok hi2 := ⟨(hpE.ext e2).pc, g2, (hpE.ext e2).val, (hpE.ext e2).oo, (hpE.ext e2).ol, (hpE.ext e2).st, (hpE.ext e2).stE, (hpE.ext e2).stR, (hpE.ext e2).code, (hpE.ext e2).input, (hpE.ext e2).self, (hpE.ext e2).caller, (hpE.ext e2).saved⟩
        have eY : Ext hi hi2 := e6.trans e2
        have hLw2 : LvW hi2 s.w ({ s with w := f.saved } : YS).w f st l := by first | exact hLw _ | exact hLw e2
        obtain ⟨HG, hHG⟩ : ∃ HG : Hp, HG = hput (hput (hput (hput hm c (sCells { s with w := f.saved }, tc)) c (sCells { ({ s with w := f.saved } : YS) with retS := nilS }, tc)) c (sCells { ({ s with w := f.saved } : YS) with retS := nilS, frS := (s.frS.1, base.length, base.length) }, tc)) fb (pre ++ (fCells { p with gasS := (bg, ng, cg), gas := p.gas + lvG f st l } ++ post), tf) := ⟨_, rfl⟩
        rw [← hHG] at hdg ⊢
        have hGf : HG fb = some (pre ++ (fCells { p with gasS := (bg, ng, cg), gas := p.gas + lvG f st l } ++ post), tf) := by rw [hHG]; exact hput_same ..
        have hGc : HG c = some (sCells { ({ s with w := f.saved } : YS) with retS := nilS, frS := (s.frS.1, base.length, base.length) }, tc) := by rw [hHG, hput_ne hfc.symm]; exact hput_same ..
        have hGk : ∀ b y, hm b = some y → b ≠ c → b ≠ fb → HG b = some y := fun b y hb hbc hbf => by rw [hHG, hput_ne hbf, hput_ne hbc, hput_ne hbc]; exact hkX b y hb hbc
        have hmemG : MemB HG p.memS mem := by
          obtain ⟨q1, q2, q3⟩ := hmem
          refine ⟨q1, q2, ?_⟩
          rcases q3 with q3 | ⟨mb, q4, q5⟩
          · exact .inl q3
          · exact .inr ⟨mb, q4, hGk mb _ q5 (hmc mb (by rw [q4])).1 (hmc mb (by rw [q4])).2⟩
        clear hHG
        refine CondX.eqF (by omega) ?_; conv => whnf
        have hF : lvF f st l = 0 := by unfold lvF; rw [if_neg (by rw [hLs]; omega)]
        have gF : NtS hi2 nilS (lvF f st l) := by rw [hF]; exact Nt_nil _
        have e3 : Ext hi2 hi2 := Ext.refl _
        refine LoadX.mid (join_hm hdg hGf) 7 (by decide) rfl (v := sl p.olS) rfl ?_; conv => whnf
        have hp3 := hpG.ext e3
        have ol0 : 0 ≤ p.ol := hp3.ol.val
        refine small_ok (hp3.ol.ext (Ext.jl _ _)) ?_; conv => whnf
        rw [if_pos hol]
        have gO3 := gO2.ext e3
        have ho := gO3.len
        have hor := gO3.room
        have eu : IntKind.u64.wrap ((nilS.2.1 : Nat) : Int) = nilS.2.1 := by rw [wrap_u64']; omega
        erw [eu]
        have emin : (if ((nilS.2.1 : Nat) : Int) < p.ol then ((nilS.2.1 : Nat) : Int) else p.ol) = min p.ol (lvO f st l).length := by rw [← ho]; split <;> omega
        erw [emin]
        have eZ := eY.trans e3
        refine CondX.decI (fun hn => ?_) (fun hn => ?_) <;> conv => whnf
        · refine DrawX.go T_ok hM Hval.func53 (tb := dr53) rfl (by kernel_rfl) ?_; conv => whnf
          refine LoadX.mid (join_hm hdg hGf) 6 (by decide) rfl (v := sl p.ooS) rfl ?_; conv => whnf
          have gOj := gO3.ext (Ext.jl hi2 HG)
          have hmn : ((min p.ol ((lvO f st l).length : Int)).toNat : Int) = min p.ol (lvO f st l).length := by omega
          refine SlcX.gen gOj.rd gOj.nil gOj.le 0 (min p.ol ((lvO f st l).length : Int)).toNat nilS.2.2 rfl (show min p.ol ((lvO f st l).length : Int) = _ by omega) rfl (Nat.zero_le _) (by have := gO3.le; omega) (Nat.le_refl _) (.inl rfl) ?_; conv => whnf
          rw [bsh_zero]
          have gP := gOj.pre (k := (min p.ol ((lvO f st l).length : Int)).toNat) (m := nilS.2.2) (by omega) (by have := gO3.le; omega) (Nat.le_refl _)
          refine write_ok (f := { p with gasS := (bg, ng, cg), gas := p.gas + lvG f st l }) (sb := (nilS.1, (min p.ol ((lvO f st l).length : Int)).toNat, nilS.2.2)) hdg hGf hmemG hp3.oo gP fun hmW hdW hMW hKW => ?_; conv => whnf
          have hM : lvM p mem (lvO f st l) = writeI mem p.oo ((lvO f st l).take (min p.ol ((lvO f st l).length : Int)).toNat) := by unfold lvM; rw [if_neg (by omega)]
          have hWf := hKW fb _ hGf (fun mb h => (hmc mb h).2.symm)
          have hWc := hKW c _ hGc (fun mb h => (hmc mb h).1.symm)
          refine answer_ok (sw := nilS) (k := 0) hdW hWf (hpG.ext e3) gF (Nat.zero_le _) (by show p.st.length - 0 + 1 ≤ 64; omega) hppc fun hi5 p5 e5 hp5 heq5 hd5 => ?_; conv => whnf
          obtain ⟨sS5, pS5, hp5e⟩ := heq5
          refine RetX.same (hk hi5 _ { ({ s with w := f.saved } : YS) with retS := nilS, frS := (s.frS.1, base.length, base.length) } p5 nilS (eZ.trans e5) hd5 rfl (gO3.ext e5) ?_ (by rw [hput_ne hfc.symm]; exact hWc) hp5 ⟨(bg, ng, cg), sS5, pS5, nilS, ?_⟩ (hput_same ..) ?_ fun b y hb hbc hbf hbm => ?_)
          · exact (hLw2.ext e3).ext e5
          · rw [hp5e]; simp
          · exact MemB.put ((by rw [hM]; exact hMW) : MemB hmW p.memS (lvM p mem (lvO f st l))) (fun mb h => (hmc mb h).2)
          · rw [hput_ne hbf]; exact ((fun b y hb hbc hbf hbm => hKW b y (hGk b y hb hbc hbf) hbm)) b y hb hbc hbf hbm
        · have hM : lvM p mem (lvO f st l) = mem := by unfold lvM; rw [if_pos (by omega)]
          refine answer_ok (sw := nilS) (k := 0) hdg hGf (hpG.ext e3) gF (Nat.zero_le _) (by show p.st.length - 0 + 1 ≤ 64; omega) hppc fun hi5 p5 e5 hp5 heq5 hd5 => ?_; conv => whnf
          obtain ⟨sS5, pS5, hp5e⟩ := heq5
          refine RetX.same (hk hi5 _ { ({ s with w := f.saved } : YS) with retS := nilS, frS := (s.frS.1, base.length, base.length) } p5 nilS (eZ.trans e5) hd5 rfl (gO3.ext e5) ?_ (by rw [hput_ne hfc.symm]; exact hGc) hp5 ⟨(bg, ng, cg), sS5, pS5, nilS, ?_⟩ (hput_same ..) ?_ fun b y hb hbc hbf hbm => ?_)
          · exact (hLw2.ext e3).ext e5
          · rw [hp5e]; simp
          · exact MemB.put ((by rw [hM]; exact hmemG) : MemB HG p.memS (lvM p mem (lvO f st l))) (fun mb h => (hmc mb h).2)
          · rw [hput_ne hbf]; exact ((fun b y hb hbc hbf _ => hGk b y hb hbc hbf)) b y hb hbc hbf hbm
      · refine CondX.dF h1 ?_; conv => whnf
        have hG : lvG f st l = f.gas := by unfold lvG; rw [hLs, if_neg h1, if_neg (fun h => h0 h.2)]
        have hO : lvO f st l = l := by unfold lvO; rw [hLs, if_neg h1, if_neg (fun h => h0 h.2)]
        have gG : NtS hiA f.gasS (lvG f st l) := by rw [hG]; exact hok.gas.ext e6
        have gO : BytS hiA so (lvO f st l) := by rw [hO]; exact hl.ext e6
        refine StoreX.st (s := ({ s with w := f.saved } : YS)) hdX hcX 10 (by decide) { ({ s with w := f.saved } : YS) with retS := so } rfl fun hdA => ?_; conv => whnf
        refine DrawX.go T_ok hM Hval.func53 (tb := dr53) rfl (by kernel_rfl) ?_; conv => whnf
        refine LoadX.blk (join_hm hdA (hput_same ..)) (sl s.frS) rfl ?_; conv => whnf
        refine LoadX.blk (join_hm hdA (hput_same ..)) (sl s.frS) rfl ?_; conv => whnf
        refine LoadX.blk (join_hm hdA (hput_same ..)) (sl s.frS) rfl ?_; conv => whnf
        rw [en]
        refine SlcX.gen hfA.rd hfA.nil hfA.le 0 base.length base.length rfl rfl rfl (Nat.zero_le _) (Nat.le_refl _) (by have := hfA.le; omega) (.inr (by simp)) ?_; conv => whnf
        rw [bsh_zero]
        refine StoreX.st (s := { ({ s with w := f.saved } : YS) with retS := so }) hdA (hput_same ..) 9 (by decide) { ({ s with w := f.saved } : YS) with retS := so, frS := (s.frS.1, base.length, base.length) } rfl fun hdB => ?_; conv => whnf
        refine LoadX.blk (join_hm hdB (hput_same ..)) (sl (s.frS.1, base.length, base.length)) rfl ?_; conv => whnf
        refine CondX.eqF (show ((base.length : Nat) : Int) ≠ 0 by omega) ?_; conv => whnf
        refine DrawX.go T_ok hM Hval.func53 (tb := dr53) rfl (by kernel_rfl) ?_; conv => whnf
        refine LoadX.blk (join_hm hdB (hput_same ..)) (sl (s.frS.1, base.length, base.length)) rfl ?_; conv => whnf
        refine LoadX.blk (join_hm hdB (hput_same ..)) (sl (s.frS.1, base.length, base.length)) rfl ?_; conv => whnf
        have en2 : IntKind.i64.wrap (((base.length : Nat) : Int) - 1) = ((b0.length : Nat) : Int) := by rw [wrap_i64 (by omega) (by omega)]; omega
        erw [en2]
        refine IdxX.of hs (by omega) (by show ((b0.length : Nat) : Int) < ((base.length : Nat) : Int); omega) ?_; conv => whnf
        have hoff : 0 + ((b0.length : Nat) : Int).toNat * 60 = pre.length := by rw [hpl, Int.toNat_natCast]; omega
        erw [hoff]
        have hfbB : hput (hput (hput hm c (sCells { s with w := f.saved }, tc)) c (sCells { ({ s with w := f.saved } : YS) with retS := so }, tc)) c (sCells { ({ s with w := f.saved } : YS) with retS := so, frS := (s.frS.1, base.length, base.length) }, tc) fb = some (pre ++ (fCells p ++ post), tf) := by
          rw [hput_ne hfc, hput_ne hfc]; exact hkX fb _ hfb hfc
        refine LoadX.mid (join_hm hdB hfbB) 4 (by decide) rfl (v := sl p.gasS) rfl ?_; conv => whnf
        have hgb := lvG_bd (st := st) (l := l) hg0
        have hpE := hp.ext e6
        refine CallX.fj hdB (addN hpE.gas gG (by omega) fun bg ng cg hi2 e2 g2 hd2 => ?_); conv => whnf
        refine StoreX.mid (f := p) hd2 hfbB 4 (by decide) rfl { p with gasS := (bg, ng, cg), gas := p.gas + lvG f st l } rfl fun hdg => ?_; conv => whnf
        have h62 := e2 _ _ h6
        have gO2 := gO.ext e2
        have hpG : ({ p with gasS := (bg, ng, cg), gas := p.gas + lvG f st l } : YF).ok hi2 := ⟨(hpE.ext e2).pc, g2, (hpE.ext e2).val, (hpE.ext e2).oo, (hpE.ext e2).ol, (hpE.ext e2).st, (hpE.ext e2).stE, (hpE.ext e2).stR, (hpE.ext e2).code, (hpE.ext e2).input, (hpE.ext e2).self, (hpE.ext e2).caller, (hpE.ext e2).saved⟩
        have eY : Ext hi hi2 := e6.trans e2
        have hLw2 : LvW hi2 s.w ({ s with w := f.saved } : YS).w f st l := by first | exact hLw _ | exact hLw e2
        obtain ⟨HG, hHG⟩ : ∃ HG : Hp, HG = hput (hput (hput (hput hm c (sCells { s with w := f.saved }, tc)) c (sCells { ({ s with w := f.saved } : YS) with retS := so }, tc)) c (sCells { ({ s with w := f.saved } : YS) with retS := so, frS := (s.frS.1, base.length, base.length) }, tc)) fb (pre ++ (fCells { p with gasS := (bg, ng, cg), gas := p.gas + lvG f st l } ++ post), tf) := ⟨_, rfl⟩
        rw [← hHG] at hdg ⊢
        have hGf : HG fb = some (pre ++ (fCells { p with gasS := (bg, ng, cg), gas := p.gas + lvG f st l } ++ post), tf) := by rw [hHG]; exact hput_same ..
        have hGc : HG c = some (sCells { ({ s with w := f.saved } : YS) with retS := so, frS := (s.frS.1, base.length, base.length) }, tc) := by rw [hHG, hput_ne hfc.symm]; exact hput_same ..
        have hGk : ∀ b y, hm b = some y → b ≠ c → b ≠ fb → HG b = some y := fun b y hb hbc hbf => by rw [hHG, hput_ne hbf, hput_ne hbc, hput_ne hbc]; exact hkX b y hb hbc
        have hmemG : MemB HG p.memS mem := by
          obtain ⟨q1, q2, q3⟩ := hmem
          refine ⟨q1, q2, ?_⟩
          rcases q3 with q3 | ⟨mb, q4, q5⟩
          · exact .inl q3
          · exact .inr ⟨mb, q4, hGk mb _ q5 (hmc mb (by rw [q4])).1 (hmc mb (by rw [q4])).2⟩
        clear hHG
        refine CondX.eqF (by omega) ?_; conv => whnf
        have hF : lvF f st l = 0 := by unfold lvF; rw [if_neg (by rw [hLs]; omega)]
        have gF : NtS hi2 nilS (lvF f st l) := by rw [hF]; exact Nt_nil _
        have e3 : Ext hi2 hi2 := Ext.refl _
        refine LoadX.mid (join_hm hdg hGf) 7 (by decide) rfl (v := sl p.olS) rfl ?_; conv => whnf
        have hp3 := hpG.ext e3
        have ol0 : 0 ≤ p.ol := hp3.ol.val
        refine small_ok (hp3.ol.ext (Ext.jl _ _)) ?_; conv => whnf
        rw [if_pos hol]
        have gO3 := gO2.ext e3
        have ho := gO3.len
        have hor := gO3.room
        have eu : IntKind.u64.wrap ((so.2.1 : Nat) : Int) = so.2.1 := by rw [wrap_u64']; omega
        erw [eu]
        have emin : (if ((so.2.1 : Nat) : Int) < p.ol then ((so.2.1 : Nat) : Int) else p.ol) = min p.ol (lvO f st l).length := by rw [← ho]; split <;> omega
        erw [emin]
        have eZ := eY.trans e3
        refine CondX.decI (fun hn => ?_) (fun hn => ?_) <;> conv => whnf
        · refine DrawX.go T_ok hM Hval.func53 (tb := dr53) rfl (by kernel_rfl) ?_; conv => whnf
          refine LoadX.mid (join_hm hdg hGf) 6 (by decide) rfl (v := sl p.ooS) rfl ?_; conv => whnf
          have gOj := gO3.ext (Ext.jl hi2 HG)
          have hmn : ((min p.ol ((lvO f st l).length : Int)).toNat : Int) = min p.ol (lvO f st l).length := by omega
          refine SlcX.gen gOj.rd gOj.nil gOj.le 0 (min p.ol ((lvO f st l).length : Int)).toNat so.2.2 rfl (show min p.ol ((lvO f st l).length : Int) = _ by omega) rfl (Nat.zero_le _) (by have := gO3.le; omega) (Nat.le_refl _) (.inl rfl) ?_; conv => whnf
          rw [bsh_zero]
          have gP := gOj.pre (k := (min p.ol ((lvO f st l).length : Int)).toNat) (m := so.2.2) (by omega) (by have := gO3.le; omega) (Nat.le_refl _)
          refine write_ok (f := { p with gasS := (bg, ng, cg), gas := p.gas + lvG f st l }) (sb := (so.1, (min p.ol ((lvO f st l).length : Int)).toNat, so.2.2)) hdg hGf hmemG hp3.oo gP fun hmW hdW hMW hKW => ?_; conv => whnf
          have hM : lvM p mem (lvO f st l) = writeI mem p.oo ((lvO f st l).take (min p.ol ((lvO f st l).length : Int)).toNat) := by unfold lvM; rw [if_neg (by omega)]
          have hWf := hKW fb _ hGf (fun mb h => (hmc mb h).2.symm)
          have hWc := hKW c _ hGc (fun mb h => (hmc mb h).1.symm)
          refine answer_ok (sw := nilS) (k := 0) hdW hWf (hpG.ext e3) gF (Nat.zero_le _) (by show p.st.length - 0 + 1 ≤ 64; omega) hppc fun hi5 p5 e5 hp5 heq5 hd5 => ?_; conv => whnf
          obtain ⟨sS5, pS5, hp5e⟩ := heq5
          refine RetX.same (hk hi5 _ { ({ s with w := f.saved } : YS) with retS := so, frS := (s.frS.1, base.length, base.length) } p5 so (eZ.trans e5) hd5 rfl (gO3.ext e5) ?_ (by rw [hput_ne hfc.symm]; exact hWc) hp5 ⟨(bg, ng, cg), sS5, pS5, nilS, ?_⟩ (hput_same ..) ?_ fun b y hb hbc hbf hbm => ?_)
          · exact (hLw2.ext e3).ext e5
          · rw [hp5e]; simp
          · exact MemB.put ((by rw [hM]; exact hMW) : MemB hmW p.memS (lvM p mem (lvO f st l))) (fun mb h => (hmc mb h).2)
          · rw [hput_ne hbf]; exact ((fun b y hb hbc hbf hbm => hKW b y (hGk b y hb hbc hbf) hbm)) b y hb hbc hbf hbm
        · have hM : lvM p mem (lvO f st l) = mem := by unfold lvM; rw [if_pos (by omega)]
          refine answer_ok (sw := nilS) (k := 0) hdg hGf (hpG.ext e3) gF (Nat.zero_le _) (by show p.st.length - 0 + 1 ≤ 64; omega) hppc fun hi5 p5 e5 hp5 heq5 hd5 => ?_; conv => whnf
          obtain ⟨sS5, pS5, hp5e⟩ := heq5
          refine RetX.same (hk hi5 _ { ({ s with w := f.saved } : YS) with retS := so, frS := (s.frS.1, base.length, base.length) } p5 so (eZ.trans e5) hd5 rfl (gO3.ext e5) ?_ (by rw [hput_ne hfc.symm]; exact hGc) hp5 ⟨(bg, ng, cg), sS5, pS5, nilS, ?_⟩ (hput_same ..) ?_ fun b y hb hbc hbf hbm => ?_)
          · exact (hLw2.ext e3).ext e5
          · rw [hp5e]; simp
          · exact MemB.put ((by rw [hM]; exact hmemG) : MemB HG p.memS (lvM p mem (lvO f st l))) (fun mb h => (hmc mb h).2)
          · rw [hput_ne hbf]; exact ((fun b y hb hbc hbf _ => hGk b y hb hbc hbf)) b y hb hbc hbf hbm
end
end Go.Proofs.YgvalwGreat.X
