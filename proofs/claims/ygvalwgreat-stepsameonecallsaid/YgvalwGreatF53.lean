import Derived.Test.YgvalwGreatF52
set_option linter.unusedVariables false
set_option linter.unusedSimpArgs false
namespace Go.Proofs.YgvalwGreat.X
open Go

/-- What leave makes of the status, the gas and the output. -/
def lvS (f : YF) (st : Int) (l : List Int) : Int := if crK f.kind = true ∧ st = 0 then (depI f.gas l).2 else st
def lvG (f : YF) (st : Int) (l : List Int) : Int := if 1 < lvS f st l then 0 else if crK f.kind = true ∧ st = 0 then (depI f.gas l).1 else f.gas
def lvO (f : YF) (st : Int) (l : List Int) : List Int := if 1 < lvS f st l then [] else if crK f.kind = true ∧ st = 0 then [] else l
/-- The world behind a leave. -/
structure LvW (hi' : Hp) (w w' : YW) (f : YF) (st : Int) (l : List Int) : Prop where
  back : lvS f st l ≠ 0 → w' = f.saved
  keep : lvS f st l = 0 → ¬ (crK f.kind = true ∧ l ≠ []) → w' = w
  code : lvS f st l = 0 → crK f.kind = true → l ≠ [] → ∃ sC sA ys, w' = { w with sA := sA, acc := ys } ∧ AccL hi' sA ys ∧ PutR w.acc (withCode (getA w.acc f.self) sC l) (lone (withCode (getA w.acc f.self) sC l)) ys

theorem sCells_now {s : YS} {w : YW} : setSeg (sCells s) 0 w.cells = sCells { s with w := w } := by
  have h : sCells s = s.w.cells ++ (sCells s).drop 8 := rfl
  have h' : sCells { s with w := w } = w.cells ++ (sCells s).drop 8 := rfl
  rw [h', setSeg]
  simp only [List.take_zero, List.nil_append, Nat.zero_add]
  rfl

section
variable {hi hm : Hp} {K : Value → Hp → Prop}


theorem ldV_saved {h : Hp} {b o : Nat} {f : YF} {t : TypeId} (hb : h b = some (fCells f, t)) (h1 : f.self.length = 20) (h2 : f.caller.length = 20) (ho : o = 52) : ldV true 8 h b o = some (.agg f.saved.cells.toArray) := by
  subst ho
  have e : (bcells f.self).length = 20 := by rw [bcells_length, h1]
  have e2 : (bcells f.caller).length = 20 := by rw [bcells_length, h2]
  have hl := fCells_len h1 h2
  simp only [ldV, hb]
  rw [if_pos (by omega)]
  have hs : fCells f = ([Value.int .u8 f.kind, .int .u8 f.natv, .bool f.static, sl f.pcS, sl f.gasS, sl f.valS, sl f.ooS, sl f.olS, sl f.stS, sl f.memS, sl f.codeS, sl f.inS] ++ (bcells f.self ++ bcells f.caller)) ++ f.saved.cells := by simp [fCells]
  have hll : ([Value.int .u8 f.kind, .int .u8 f.natv, .bool f.static, sl f.pcS, sl f.gasS, sl f.valS, sl f.ooS, sl f.olS, sl f.stS, sl f.memS, sl f.codeS, sl f.inS] ++ (bcells f.self ++ bcells f.caller)).length = 52 := by simp [e, e2]
  rw [hs]
  generalize ([Value.int .u8 f.kind, .int .u8 f.natv, .bool f.static, sl f.pcS, sl f.gasS, sl f.valS, sl f.ooS, sl f.olS, sl f.stS, sl f.memS, sl f.codeS, sl f.inS] ++ (bcells f.self ++ bcells f.caller)) = L at *
  simp only [seg]
  rw [← hll, List.drop_left]
  rfl



set_option maxRecDepth 100000 in
set_option maxHeartbeats 4000000 in
theorem leaveLast_ok (hd : Dj hi hm) {c : Nat} {tc : TypeId} {s : YS} {f : YF} {st : Int} {so : Sl} {l : List Int} (hc : hm c = some (sCells s, tc)) (hw : s.w.ok hi (join hi hm)) (hwr : s.w.room) {base : List YF} (hbase : base = []) (hbn : base.length ≤ 100) (hfr : ArrM hm s.frS 60 ((base ++ [f]).map fCells)) (hcf : ∀ fb, s.frS.1 = some ⟨fb, 0, none⟩ → c ≠ fb)
    (hok : f.ok hi) (hgr : f.gas < big) (hst0 : 0 ≤ st) (hst1 : st < 256) (hl : BytS hi so l)
    (hk : ∀ hi' hm' s' gS oS, Ext hi hi' → Dj hi' hm' → s' = { s with w := s'.w, retS := oS, frS := nilS, phase := 2, status := lvS f st l, leftS := gS } → NtS hi' gS (lvG f st l) → BytS hi' oS (lvO f st l) → LvW hi' s.w s'.w f st l → hm' c = some (sCells s', tc) → (∀ b y, hm b = some y → b ≠ c → hm' b = some y) → K (.tuple #[]) (join hi' hm')) :
    CallX Hval.prog 53 [.pointer (some ⟨c, 0, none⟩), .int .u8 st, sl so] (join hi hm) K := by
  refine CallX.of_xf T_ok Hval.func53 rfl (by kernel_rfl) (Nat.le_of_ble_eq_true rfl) ?_; conv => whnf
  refine DrawX.go T_ok hM Hval.func53 (tb := dr53) rfl (by kernel_rfl) ?_; conv => whnf
  refine LoadX.blk (join_hm hd hc) (sl s.frS) rfl ?_; conv => whnf
  refine LoadX.blk (join_hm hd hc) (sl s.frS) rfl ?_; conv => whnf
  have hfA := hfr.arr hd
  have hfn := hfr.len
  simp only [List.length_map, List.length_append, List.length_singleton] at hfn
  have en : IntKind.i64.wrap ((s.frS.2.1 : Int) - 1) = ((base.length : Nat) : Int) := by rw [wrap_i64 (by omega) (by omega)]; omega
  rw [en]
  refine IdxX.arr hfA (by omega) (by omega) (by omega) fun bq offq eq0 => ?_; conv => whnf
  refine LoadX.elt hfA eq0 base.length rfl (by omega) ?_; conv => whnf
  have hget : ((base ++ [f]).map fCells).getD base.length [] = fCells f := by
    rw [getD_map (by simp)]; simp
  rw [hget]
  have flen := fCells_len hok.self hok.caller
  have fone := fCells_one f
  refine BoxW.j hd fun m6 hin6 hmn6 hd6' he6' => ?_; conv => whnf
  refine Ob.mk ⟨by rw [List.size_toArray, flen]; rfl, fone⟩ ?_; conv => whnf
  refine StoreX.j (by rw [List.toList_toArray, flen]; decide) ?_; conv => whnf
  rw [setSeg_all (by rw [List.toList_toArray, flen]; rfl)]
  have hd6 : Dj (hput hi m6 (fCells f, 135)) hm := hd6'.hp
  have e6 : Ext hi (hput hi m6 (fCells f, 135)) := Ext.new hin6
  have h6 : hput hi m6 (fCells f, 135) m6 = some (fCells f, 135) := hput_same ..
  clear hd6' he6'
  generalize hput hi m6 (fCells f, 135) = hiA at *
  refine LoadX.blk (join_l h6) (sl f.gasS) rfl ?_; conv => whnf
  refine LoadX.blk (join_l h6) (.int .u8 f.kind) rfl ?_; conv => whnf
  refine creates_ok ?_; conv => whnf
  subst hbase
  cases hcr : crK f.kind with
  | false =>
    repeat (first | (refine CondX.tt ?_; conv => whnf) | (refine CondX.ff ?_; conv => whnf))
    by_cases h0 : st = 0
    · subst h0
      repeat (first | (refine CondX.tt ?_; conv => whnf) | (refine CondX.ff ?_; conv => whnf))
      have hLs : lvS f 0 l = 0 := by simp [lvS, hcr]
      have hLw : ∀ h', LvW h' s.w s.w f 0 l := fun h' => ⟨fun h => absurd hLs h, fun _ _ => rfl, fun _ h => absurd (h.symm.trans hcr) (by decide)⟩
      have gG : NtS hiA f.gasS (lvG f 0 l) := by
        have : lvG f 0 l = f.gas := by simp [lvG, hLs, hcr]
        rw [this]; exact hok.gas.ext e6
      have gO : BytS hiA so (lvO f 0 l) := by
        have : lvO f 0 l = l := by simp [lvO, hLs, hcr]
        rw [this]; exact hl.ext e6
      have hcX := hc
      have hkX : ∀ b y, hm b = some y → b ≠ c → hm b = some y := fun b y hb hbc => hb
      refine StoreX.st (s := s) hd6 hcX 10 (by decide) { s with retS := so } rfl fun hdA => ?_; conv => whnf
      refine DrawX.go T_ok hM Hval.func53 (tb := dr53) rfl (by kernel_rfl) ?_; conv => whnf
      refine LoadX.blk (join_hm hdA (hput_same ..)) (sl s.frS) rfl ?_; conv => whnf
      refine LoadX.blk (join_hm hdA (hput_same ..)) (sl s.frS) rfl ?_; conv => whnf
      refine LoadX.blk (join_hm hdA (hput_same ..)) (sl s.frS) rfl ?_; conv => whnf
      rw [en]
      refine SlcX.gen hfA.rd hfA.nil hfA.le 0 0 0 rfl rfl rfl (Nat.le_refl _) (Nat.le_refl _) (Nat.zero_le _) (.inr (by simp)) ?_; conv => whnf
      rw [bsh_zero]
      refine StoreX.st (s := { s with retS := so }) hdA (hput_same ..) 9 (by decide) { s with retS := so, frS := (s.frS.1, 0, 0) } rfl fun hdB => ?_; conv => whnf
      refine LoadX.blk (join_hm hdB (hput_same ..)) (sl (s.frS.1, 0, 0)) rfl ?_; conv => whnf
      repeat (first | (refine CondX.tt ?_; conv => whnf) | (refine CondX.ff ?_; conv => whnf))
      refine StoreX.st (s := { s with retS := so, frS := (s.frS.1, 0, 0) }) hdB (hput_same ..) 9 (by decide) { s with retS := so, frS := nilS } rfl fun hdC => ?_; conv => whnf
      refine StoreX.st (s := { s with retS := so, frS := nilS }) hdC (hput_same ..) 11 (by decide) { s with retS := so, frS := nilS, phase := 2 } rfl fun hdD => ?_; conv => whnf
      refine StoreX.st (s := { s with retS := so, frS := nilS, phase := 2 }) hdD (hput_same ..) 12 (by decide) { s with retS := so, frS := nilS, phase := 2, status := 0 } rfl fun hdE => ?_; conv => whnf
      refine StoreX.st (s := { s with retS := so, frS := nilS, phase := 2, status := 0 }) hdE (hput_same ..) 16 (by decide) { s with retS := so, frS := nilS, phase := 2, status := 0, leftS := f.gasS } rfl fun hdF => ?_; conv => whnf
      refine RetX.same (hk hiA _ { s with retS := so, frS := nilS, phase := 2, status := 0, leftS := f.gasS } f.gasS so e6 hdF (by rw [hLs]) gG gO (by first | exact hLw _ | exact hLw (Ext.refl _)) (hput_same ..) fun b y hb hbc => ?_)
      rw [hput_ne hbc, hput_ne hbc, hput_ne hbc, hput_ne hbc, hput_ne hbc, hput_ne hbc]
      exact hkX b y hb hbc
    · refine CondX.neI (fun _ => ?_) (fun h => absurd h h0); conv => whnf
      refine LoadX.of (.agg f.saved.cells.toArray) (ldV_saved (join_l h6) hok.self hok.caller rfl) ?_; conv => whnf
      refine Ob.mk ⟨rfl, rfl⟩ ?_; conv => whnf
      refine StoreX.jm hd6 hc (by have := sCells_len s; show 0 + 8 ≤ _; omega) ?_; conv => whnf
      erw [sCells_now]
      have hdX : Dj hiA (hput hm c (sCells { s with w := f.saved }, tc)) := hd6.put hc
      have hcX : hput hm c (sCells { s with w := f.saved }, tc) c = some (sCells { s with w := f.saved }, tc) := hput_same ..
      have hkX : ∀ b y, hm b = some y → b ≠ c → hput hm c (sCells { s with w := f.saved }, tc) b = some y := fun b y hb hbc => by rw [hput_ne hbc]; exact hb
      have hLs : lvS f st l = st := by unfold lvS; rw [if_neg (fun h => h0 h.2)]
      have hLw : ∀ h', LvW h' s.w f.saved f st l := fun h' => ⟨fun _ => rfl, fun h => absurd (hLs.symm.trans h) h0, fun h => absurd (hLs.symm.trans h) h0⟩
      by_cases h1 : 1 < st
      · refine CondX.dT h1 ?_; conv => whnf
        have hG : lvG f st l = 0 := by unfold lvG; rw [hLs, if_pos h1]
        have hO : lvO f st l = [] := by unfold lvO; rw [hLs, if_pos h1]
        have gG : NtS hiA nilS (lvG f st l) := by rw [hG]; exact Nt_nil _
        have gO : BytS hiA nilS (lvO f st l) := by rw [hO]; exact Byt_nil _
        refine StoreX.st (s := ({ s with w := f.saved } : YS)) hdX hcX 10 (by decide) { ({ s with w := f.saved } : YS) with retS := nilS } rfl fun hdA => ?_; conv => whnf
        refine DrawX.go T_ok hM Hval.func53 (tb := dr53) rfl (by kernel_rfl) ?_; conv => whnf
        refine LoadX.blk (join_hm hdA (hput_same ..)) (sl s.frS) rfl ?_; conv => whnf
        refine LoadX.blk (join_hm hdA (hput_same ..)) (sl s.frS) rfl ?_; conv => whnf
        refine LoadX.blk (join_hm hdA (hput_same ..)) (sl s.frS) rfl ?_; conv => whnf
        rw [en]
        refine SlcX.gen hfA.rd hfA.nil hfA.le 0 0 0 rfl rfl rfl (Nat.le_refl _) (Nat.le_refl _) (Nat.zero_le _) (.inr (by simp)) ?_; conv => whnf
        rw [bsh_zero]
        refine StoreX.st (s := { ({ s with w := f.saved } : YS) with retS := nilS }) hdA (hput_same ..) 9 (by decide) { ({ s with w := f.saved } : YS) with retS := nilS, frS := (s.frS.1, 0, 0) } rfl fun hdB => ?_; conv => whnf
        refine LoadX.blk (join_hm hdB (hput_same ..)) (sl (s.frS.1, 0, 0)) rfl ?_; conv => whnf
        repeat (first | (refine CondX.tt ?_; conv => whnf) | (refine CondX.ff ?_; conv => whnf))
        refine StoreX.st (s := { ({ s with w := f.saved } : YS) with retS := nilS, frS := (s.frS.1, 0, 0) }) hdB (hput_same ..) 9 (by decide) { ({ s with w := f.saved } : YS) with retS := nilS, frS := nilS } rfl fun hdC => ?_; conv => whnf
        refine StoreX.st (s := { ({ s with w := f.saved } : YS) with retS := nilS, frS := nilS }) hdC (hput_same ..) 11 (by decide) { ({ s with w := f.saved } : YS) with retS := nilS, frS := nilS, phase := 2 } rfl fun hdD => ?_; conv => whnf
        refine StoreX.st (s := { ({ s with w := f.saved } : YS) with retS := nilS, frS := nilS, phase := 2 }) hdD (hput_same ..) 12 (by decide) { ({ s with w := f.saved } : YS) with retS := nilS, frS := nilS, phase := 2, status := st } rfl fun hdE => ?_; conv => whnf
        refine StoreX.st (s := { ({ s with w := f.saved } : YS) with retS := nilS, frS := nilS, phase := 2, status := st }) hdE (hput_same ..) 16 (by decide) { ({ s with w := f.saved } : YS) with retS := nilS, frS := nilS, phase := 2, status := st, leftS := nilS } rfl fun hdF => ?_; conv => whnf
        refine RetX.same (hk hiA _ { ({ s with w := f.saved } : YS) with retS := nilS, frS := nilS, phase := 2, status := st, leftS := nilS } nilS nilS e6 hdF (by rw [hLs]) gG gO (by first | exact hLw _ | exact hLw (Ext.refl _)) (hput_same ..) fun b y hb hbc => ?_)
        rw [hput_ne hbc, hput_ne hbc, hput_ne hbc, hput_ne hbc, hput_ne hbc, hput_ne hbc]
        exact hkX b y hb hbc
      · refine CondX.dF h1 ?_; conv => whnf
        have hG : lvG f st l = f.gas := by unfold lvG; rw [hLs, if_neg h1, if_neg (fun h => h0 h.2)]
        have hO : lvO f st l = l := by unfold lvO; rw [hLs, if_neg h1, if_neg (fun h => h0 h.2)]
        have gG : NtS hiA f.gasS (lvG f st l) := by rw [hG]; exact hok.gas.ext e6
        have gO : BytS hiA so (lvO f st l) := by rw [hO]; exact hl.ext e6
        refine StoreX.st (s := ({ s with w := f.saved } : YS)) hdX hcX 10 (by decide) { ({ s with w := f.saved } : YS) with retS := so } rfl fun hdA => ?_; conv => whnf
        refine DrawX.go T_ok hM Hval.func53 (tb := dr53) rfl (by kernel_rfl) ?_; conv => whnf
        refine LoadX.blk (join_hm hdA (hput_same ..)) (sl s.frS) rfl ?_; conv => whnf
        refine LoadX.blk (join_hm hdA (hput_same ..)) (sl s.frS) rfl ?_; conv => whnf
        refine LoadX.blk (join_hm hdA (hput_same ..)) (sl s.frS) rfl ?_; conv => whnf
        rw [en]
        refine SlcX.gen hfA.rd hfA.nil hfA.le 0 0 0 rfl rfl rfl (Nat.le_refl _) (Nat.le_refl _) (Nat.zero_le _) (.inr (by simp)) ?_; conv => whnf
        rw [bsh_zero]
        refine StoreX.st (s := { ({ s with w := f.saved } : YS) with retS := so }) hdA (hput_same ..) 9 (by decide) { ({ s with w := f.saved } : YS) with retS := so, frS := (s.frS.1, 0, 0) } rfl fun hdB => ?_; conv => whnf
        refine LoadX.blk (join_hm hdB (hput_same ..)) (sl (s.frS.1, 0, 0)) rfl ?_; conv => whnf
        repeat (first | (refine CondX.tt ?_; conv => whnf) | (refine CondX.ff ?_; conv => whnf))
        refine StoreX.st (s := { ({ s with w := f.saved } : YS) with retS := so, frS := (s.frS.1, 0, 0) }) hdB (hput_same ..) 9 (by decide) { ({ s with w := f.saved } : YS) with retS := so, frS := nilS } rfl fun hdC => ?_; conv => whnf
        refine StoreX.st (s := { ({ s with w := f.saved } : YS) with retS := so, frS := nilS }) hdC (hput_same ..) 11 (by decide) { ({ s with w := f.saved } : YS) with retS := so, frS := nilS, phase := 2 } rfl fun hdD => ?_; conv => whnf
        refine StoreX.st (s := { ({ s with w := f.saved } : YS) with retS := so, frS := nilS, phase := 2 }) hdD (hput_same ..) 12 (by decide) { ({ s with w := f.saved } : YS) with retS := so, frS := nilS, phase := 2, status := st } rfl fun hdE => ?_; conv => whnf
        refine StoreX.st (s := { ({ s with w := f.saved } : YS) with retS := so, frS := nilS, phase := 2, status := st }) hdE (hput_same ..) 16 (by decide) { ({ s with w := f.saved } : YS) with retS := so, frS := nilS, phase := 2, status := st, leftS := f.gasS } rfl fun hdF => ?_; conv => whnf
        refine RetX.same (hk hiA _ { ({ s with w := f.saved } : YS) with retS := so, frS := nilS, phase := 2, status := st, leftS := f.gasS } f.gasS so e6 hdF (by rw [hLs]) gG gO (by first | exact hLw _ | exact hLw (Ext.refl _)) (hput_same ..) fun b y hb hbc => ?_)
        rw [hput_ne hbc, hput_ne hbc, hput_ne hbc, hput_ne hbc, hput_ne hbc, hput_ne hbc]
        exact hkX b y hb hbc
  | true =>
    repeat (first | (refine CondX.tt ?_; conv => whnf) | (refine CondX.ff ?_; conv => whnf))
    by_cases h0 : st = 0
    · subst h0
      repeat (first | (refine CondX.tt ?_; conv => whnf) | (refine CondX.ff ?_; conv => whnf))
      refine CallX.fj hd6 (deposit_ok h6 (hok.gas.ext e6) hgr (hl.ext e6) fun sD hi7 e7 g7 hd7 => ?_); conv => whnf
      have hLs : lvS f 0 l = (depI f.gas l).2 := by simp [lvS, hcr]
      have h67 := e7 _ _ h6
      have e67 := e6.trans e7
      have hdv : (depI f.gas l).2 = 0 ∨ 1 < (depI f.gas l).2 := by
        unfold depI
        repeat' split
        all_goals simp
      rcases hdv with hd0 | hd1
      · refine CondX.eqT hd0 ?_; conv => whnf
        have hLs0 := hLs.trans hd0
        have gG : NtS hi7 sD (lvG f 0 l) := by
          have : lvG f 0 l = (depI f.gas l).1 := by simp [lvG, hLs0, hcr]
          rw [this]; exact g7
        have hO : lvO f 0 l = [] := by simp [lvO, hLs0, hcr]
        have hll := hl.len
        refine CondX.decI (fun hlen => ?_) (fun hlen => ?_) <;> conv => whnf
        · have hne : l ≠ [] := by intro h; rw [h] at hll; simp at hll; omega
          have hself6 : join hi7 hm m6 = some ([] ++ (fCells f ++ []), 135) := by rw [List.append_nil]; exact join_l h67
          refine DrawX.go T_ok hM Hval.func53 (tb := dr53) rfl (by kernel_rfl) ?_; conv => whnf
          refine LoadX.of _ (ldV_self hself6 hok.self hok.caller rfl) ?_; conv => whnf
          refine account_ok (xs := s.w.acc) (join_hm hd7 hc) (show (sCells s)[0]? = some (sl s.w.sA) from rfl) ((hw.acc.ext e67).arr.ext (Ext.jl _ _)) (fun x hx => (hw.acc.each x hx).addr) hok.self (by have := hwr.acc; omega) ?_; conv => whnf
          have hx := getA_ok (hw.acc.ext e67).each hok.self
          generalize hxe : getA s.w.acc f.self = x at *
          have xlen := acCells_len hx.addr
          have xone := acCells_one x
          refine BoxW.j hd7 fun m9 hin9 hmn9 hd9' he9 => ?_; conv => whnf
          refine Ob.mk ⟨by rw [List.size_toArray, xlen]; rfl, xone⟩ ?_; conv => whnf
          refine StoreX.j (by rw [List.toList_toArray, xlen]; decide) ?_; conv => whnf
          rw [setSeg_all (by rw [List.toList_toArray, xlen]; rfl)]
          refine StoreX.j (by rw [xlen]; exact Nat.le_of_ble_eq_true rfl) ?_; conv => whnf
          have ec := withCode_cells (x := x) (s := so) (n := l) hx.addr
          erw [ec]
          have hd10 : Dj (hput hi7 m9 (acCells (withCode x so l), 118)) hm := hd9'.hp
          have e10 : Ext hi7 (hput hi7 m9 (acCells (withCode x so l), 118)) := Ext.new hin9
          have xlen2 := acCells_len (x := withCode x so l) hx.addr
          refine DrawX.go T_ok hM Hval.func53 (tb := dr53) rfl (by kernel_rfl) ?_; conv => whnf
          refine LoadX.all (c := acCells (withCode x so l)) (t := 118) (join_l (hput_same ..)) (by rw [xlen2]; rfl) ?_; conv => whnf
          have e710 := e67.trans e10
          refine put_ok (o := 0) (x := withCode x so l) hd10 hc (show (sCells s)[0]? = some (sl s.w.sA) from rfl) (hw.acc.ext e710) ((⟨hx.addr, hx.nonce, hx.bal, hl.ext e67, hx.slots, hx.each⟩ : (withCode x so l).ok hi7).ext e10) hwr.acc fun hi8 sA8 ys e8 hd8 hA8 hP8 => ?_; conv => whnf
          have hset : setSeg (sCells s) 0 [sl sA8] = sCells { s with w := { s.w with sA := sA8, acc := ys } } := (sCells_set (by decide)).trans rfl
          rw [hset] at hd8 ⊢
          refine CondX.neI (fun h => absurd hd0 h) (fun _ => ?_); conv => whnf
          refine CondX.dF (by omega) ?_; conv => whnf
          have eX := e710.trans e8
          have h6X := e8 _ _ (e10 _ _ h67)
          have hLw : ∀ {h'}, Ext hi8 h' → LvW h' s.w { s.w with sA := sA8, acc := ys } f 0 l := fun he => ⟨fun h => absurd hLs0 h, fun _ h => absurd ⟨hcr, hne⟩ h, fun _ _ _ => ⟨so, sA8, ys, rfl, hA8.ext he, by rw [hxe]; exact hP8⟩⟩
          have gG := (gG.ext e10).ext e8
          have gO : BytS hi8 nilS (lvO f 0 l) := by rw [hO]; exact Byt_nil _
          have hcX : hput hm c (sCells { s with w := { s.w with sA := sA8, acc := ys } }, tc) c = some (sCells { s with w := { s.w with sA := sA8, acc := ys } }, tc) := hput_same ..
          have hkX : ∀ b y, hm b = some y → b ≠ c → hput hm c (sCells { s with w := { s.w with sA := sA8, acc := ys } }, tc) b = some y := fun b y hb hbc => by rw [hput_ne hbc]; exact hb
          refine StoreX.st (s := ({ s with w := { s.w with sA := sA8, acc := ys } } : YS)) hd8 hcX 10 (by decide) { ({ s with w := { s.w with sA := sA8, acc := ys } } : YS) with retS := nilS } rfl fun hdA => ?_; conv => whnf
          refine DrawX.go T_ok hM Hval.func53 (tb := dr53) rfl (by kernel_rfl) ?_; conv => whnf
          refine LoadX.blk (join_hm hdA (hput_same ..)) (sl s.frS) rfl ?_; conv => whnf
          refine LoadX.blk (join_hm hdA (hput_same ..)) (sl s.frS) rfl ?_; conv => whnf
          refine LoadX.blk (join_hm hdA (hput_same ..)) (sl s.frS) rfl ?_; conv => whnf
          rw [en]
          refine SlcX.gen hfA.rd hfA.nil hfA.le 0 0 0 rfl rfl rfl (Nat.le_refl _) (Nat.le_refl _) (Nat.zero_le _) (.inr (by simp)) ?_; conv => whnf
          rw [bsh_zero]
          refine StoreX.st (s := { ({ s with w := { s.w with sA := sA8, acc := ys } } : YS) with retS := nilS }) hdA (hput_same ..) 9 (by decide) { ({ s with w := { s.w with sA := sA8, acc := ys } } : YS) with retS := nilS, frS := (s.frS.1, 0, 0) } rfl fun hdB => ?_; conv => whnf
          refine LoadX.blk (join_hm hdB (hput_same ..)) (sl (s.frS.1, 0, 0)) rfl ?_; conv => whnf
          repeat (first | (refine CondX.tt ?_; conv => whnf) | (refine CondX.ff ?_; conv => whnf))
          refine StoreX.st (s := { ({ s with w := { s.w with sA := sA8, acc := ys } } : YS) with retS := nilS, frS := (s.frS.1, 0, 0) }) hdB (hput_same ..) 9 (by decide) { ({ s with w := { s.w with sA := sA8, acc := ys } } : YS) with retS := nilS, frS := nilS } rfl fun hdC => ?_; conv => whnf
          refine StoreX.st (s := { ({ s with w := { s.w with sA := sA8, acc := ys } } : YS) with retS := nilS, frS := nilS }) hdC (hput_same ..) 11 (by decide) { ({ s with w := { s.w with sA := sA8, acc := ys } } : YS) with retS := nilS, frS := nilS, phase := 2 } rfl fun hdD => ?_; conv => whnf
          refine StoreX.st (s := { ({ s with w := { s.w with sA := sA8, acc := ys } } : YS) with retS := nilS, frS := nilS, phase := 2 }) hdD (hput_same ..) 12 (by decide) { ({ s with w := { s.w with sA := sA8, acc := ys } } : YS) with retS := nilS, frS := nilS, phase := 2, status := (depI f.gas l).2 } rfl fun hdE => ?_; conv => whnf
          refine StoreX.st (s := { ({ s with w := { s.w with sA := sA8, acc := ys } } : YS) with retS := nilS, frS := nilS, phase := 2, status := (depI f.gas l).2 }) hdE (hput_same ..) 16 (by decide) { ({ s with w := { s.w with sA := sA8, acc := ys } } : YS) with retS := nilS, frS := nilS, phase := 2, status := (depI f.gas l).2, leftS := sD } rfl fun hdF => ?_; conv => whnf
          refine RetX.same (hk hi8 _ { ({ s with w := { s.w with sA := sA8, acc := ys } } : YS) with retS := nilS, frS := nilS, phase := 2, status := (depI f.gas l).2, leftS := sD } sD nilS eX hdF (by rw [hLs]) gG gO (by first | exact hLw _ | exact hLw (Ext.refl _)) (hput_same ..) fun b y hb hbc => ?_)
          rw [hput_ne hbc, hput_ne hbc, hput_ne hbc, hput_ne hbc, hput_ne hbc, hput_ne hbc]
          exact hkX b y hb hbc
        · have hle : l = [] := List.eq_nil_of_length_eq_zero (by omega)
          refine CondX.neI (fun h => absurd hd0 h) (fun _ => ?_); conv => whnf
          refine CondX.dF (by omega) ?_; conv => whnf
          have hLw : ∀ h', LvW h' s.w s.w f 0 l := fun h' => ⟨fun h => absurd hLs0 h, fun _ _ => rfl, fun _ _ h => absurd hle h⟩
          have gO : BytS hi7 nilS (lvO f 0 l) := by rw [hO]; exact Byt_nil _
          have hcX := hc
          have hkX : ∀ b y, hm b = some y → b ≠ c → hm b = some y := fun b y hb hbc => hb
          refine StoreX.st (s := s) hd7 hcX 10 (by decide) { s with retS := nilS } rfl fun hdA => ?_; conv => whnf
          refine DrawX.go T_ok hM Hval.func53 (tb := dr53) rfl (by kernel_rfl) ?_; conv => whnf
          refine LoadX.blk (join_hm hdA (hput_same ..)) (sl s.frS) rfl ?_; conv => whnf
          refine LoadX.blk (join_hm hdA (hput_same ..)) (sl s.frS) rfl ?_; conv => whnf
          refine LoadX.blk (join_hm hdA (hput_same ..)) (sl s.frS) rfl ?_; conv => whnf
          rw [en]
          refine SlcX.gen hfA.rd hfA.nil hfA.le 0 0 0 rfl rfl rfl (Nat.le_refl _) (Nat.le_refl _) (Nat.zero_le _) (.inr (by simp)) ?_; conv => whnf
          rw [bsh_zero]
          refine StoreX.st (s := { s with retS := nilS }) hdA (hput_same ..) 9 (by decide) { s with retS := nilS, frS := (s.frS.1, 0, 0) } rfl fun hdB => ?_; conv => whnf
          refine LoadX.blk (join_hm hdB (hput_same ..)) (sl (s.frS.1, 0, 0)) rfl ?_; conv => whnf
          repeat (first | (refine CondX.tt ?_; conv => whnf) | (refine CondX.ff ?_; conv => whnf))
          refine StoreX.st (s := { s with retS := nilS, frS := (s.frS.1, 0, 0) }) hdB (hput_same ..) 9 (by decide) { s with retS := nilS, frS := nilS } rfl fun hdC => ?_; conv => whnf
          refine StoreX.st (s := { s with retS := nilS, frS := nilS }) hdC (hput_same ..) 11 (by decide) { s with retS := nilS, frS := nilS, phase := 2 } rfl fun hdD => ?_; conv => whnf
          refine StoreX.st (s := { s with retS := nilS, frS := nilS, phase := 2 }) hdD (hput_same ..) 12 (by decide) { s with retS := nilS, frS := nilS, phase := 2, status := (depI f.gas l).2 } rfl fun hdE => ?_; conv => whnf
          refine StoreX.st (s := { s with retS := nilS, frS := nilS, phase := 2, status := (depI f.gas l).2 }) hdE (hput_same ..) 16 (by decide) { s with retS := nilS, frS := nilS, phase := 2, status := (depI f.gas l).2, leftS := sD } rfl fun hdF => ?_; conv => whnf
          refine RetX.same (hk hi7 _ { s with retS := nilS, frS := nilS, phase := 2, status := (depI f.gas l).2, leftS := sD } sD nilS e67 hdF (by rw [hLs]) gG gO (by first | exact hLw _ | exact hLw (Ext.refl _)) (hput_same ..) fun b y hb hbc => ?_)
          rw [hput_ne hbc, hput_ne hbc, hput_ne hbc, hput_ne hbc, hput_ne hbc, hput_ne hbc]
          exact hkX b y hb hbc
      · refine CondX.eqF (by omega) ?_; conv => whnf
        refine CondX.neI (fun _ => ?_) (fun h => absurd h (by omega)); conv => whnf
        refine LoadX.of (.agg f.saved.cells.toArray) (ldV_saved (join_l h67) hok.self hok.caller rfl) ?_; conv => whnf
        refine Ob.mk ⟨rfl, rfl⟩ ?_; conv => whnf
        refine StoreX.jm hd7 hc (by have := sCells_len s; show 0 + 8 ≤ _; omega) ?_; conv => whnf
        erw [sCells_now]
        have hdX : Dj hi7 (hput hm c (sCells { s with w := f.saved }, tc)) := hd7.put hc
        have hcX : hput hm c (sCells { s with w := f.saved }, tc) c = some (sCells { s with w := f.saved }, tc) := hput_same ..
        have hkX : ∀ b y, hm b = some y → b ≠ c → hput hm c (sCells { s with w := f.saved }, tc) b = some y := fun b y hb hbc => by rw [hput_ne hbc]; exact hb
        have hLw : ∀ h', LvW h' s.w f.saved f 0 l := fun h' => ⟨fun _ => rfl, fun h => by omega, fun h => by omega⟩
        refine CondX.dT hd1 ?_; conv => whnf
        have hG : lvG f 0 l = 0 := by unfold lvG; rw [hLs, if_pos hd1]
        have hO : lvO f 0 l = [] := by unfold lvO; rw [hLs, if_pos hd1]
        have gG : NtS hi7 nilS (lvG f 0 l) := by rw [hG]; exact Nt_nil _
        have gO : BytS hi7 nilS (lvO f 0 l) := by rw [hO]; exact Byt_nil _
        refine StoreX.st (s := ({ s with w := f.saved } : YS)) hdX hcX 10 (by decide) { ({ s with w := f.saved } : YS) with retS := nilS } rfl fun hdA => ?_; conv => whnf
        refine DrawX.go T_ok hM Hval.func53 (tb := dr53) rfl (by kernel_rfl) ?_; conv => whnf
        refine LoadX.blk (join_hm hdA (hput_same ..)) (sl s.frS) rfl ?_; conv => whnf
        refine LoadX.blk (join_hm hdA (hput_same ..)) (sl s.frS) rfl ?_; conv => whnf
        refine LoadX.blk (join_hm hdA (hput_same ..)) (sl s.frS) rfl ?_; conv => whnf
        rw [en]
        refine SlcX.gen hfA.rd hfA.nil hfA.le 0 0 0 rfl rfl rfl (Nat.le_refl _) (Nat.le_refl _) (Nat.zero_le _) (.inr (by simp)) ?_; conv => whnf
        rw [bsh_zero]
        refine StoreX.st (s := { ({ s with w := f.saved } : YS) with retS := nilS }) hdA (hput_same ..) 9 (by decide) { ({ s with w := f.saved } : YS) with retS := nilS, frS := (s.frS.1, 0, 0) } rfl fun hdB => ?_; conv => whnf
        refine LoadX.blk (join_hm hdB (hput_same ..)) (sl (s.frS.1, 0, 0)) rfl ?_; conv => whnf
        repeat (first | (refine CondX.tt ?_; conv => whnf) | (refine CondX.ff ?_; conv => whnf))
        refine StoreX.st (s := { ({ s with w := f.saved } : YS) with retS := nilS, frS := (s.frS.1, 0, 0) }) hdB (hput_same ..) 9 (by decide) { ({ s with w := f.saved } : YS) with retS := nilS, frS := nilS } rfl fun hdC => ?_; conv => whnf
        refine StoreX.st (s := { ({ s with w := f.saved } : YS) with retS := nilS, frS := nilS }) hdC (hput_same ..) 11 (by decide) { ({ s with w := f.saved } : YS) with retS := nilS, frS := nilS, phase := 2 } rfl fun hdD => ?_; conv => whnf
        refine StoreX.st (s := { ({ s with w := f.saved } : YS) with retS := nilS, frS := nilS, phase := 2 }) hdD (hput_same ..) 12 (by decide) { ({ s with w := f.saved } : YS) with retS := nilS, frS := nilS, phase := 2, status := (depI f.gas l).2 } rfl fun hdE => ?_; conv => whnf
        refine StoreX.st (s := { ({ s with w := f.saved } : YS) with retS := nilS, frS := nilS, phase := 2, status := (depI f.gas l).2 }) hdE (hput_same ..) 16 (by decide) { ({ s with w := f.saved } : YS) with retS := nilS, frS := nilS, phase := 2, status := (depI f.gas l).2, leftS := nilS } rfl fun hdF => ?_; conv => whnf
        refine RetX.same (hk hi7 _ { ({ s with w := f.saved } : YS) with retS := nilS, frS := nilS, phase := 2, status := (depI f.gas l).2, leftS := nilS } nilS nilS e67 hdF (by rw [hLs]) gG gO (by first | exact hLw _ | exact hLw (Ext.refl _)) (hput_same ..) fun b y hb hbc => ?_)
        rw [hput_ne hbc, hput_ne hbc, hput_ne hbc, hput_ne hbc, hput_ne hbc, hput_ne hbc]
        exact hkX b y hb hbc
    · repeat (first | (refine CondX.tt ?_; conv => whnf) | (refine CondX.ff ?_; conv => whnf))
      refine CondX.eqF h0 ?_; conv => whnf
      repeat (first | (refine CondX.tt ?_; conv => whnf) | (refine CondX.ff ?_; conv => whnf))
      refine CondX.neI (fun _ => ?_) (fun h => absurd h h0); conv => whnf
      refine LoadX.of (.agg f.saved.cells.toArray) (ldV_saved (join_l h6) hok.self hok.caller rfl) ?_; conv => whnf
      refine Ob.mk ⟨rfl, rfl⟩ ?_; conv => whnf
      refine StoreX.jm hd6 hc (by have := sCells_len s; show 0 + 8 ≤ _; omega) ?_; conv => whnf
      erw [sCells_now]
      have hdX : Dj hiA (hput hm c (sCells { s with w := f.saved }, tc)) := hd6.put hc
      have hcX : hput hm c (sCells { s with w := f.saved }, tc) c = some (sCells { s with w := f.saved }, tc) := hput_same ..
      have hkX : ∀ b y, hm b = some y → b ≠ c → hput hm c (sCells { s with w := f.saved }, tc) b = some y := fun b y hb hbc => by rw [hput_ne hbc]; exact hb
      have hLs : lvS f st l = st := by unfold lvS; rw [if_neg (fun h => h0 h.2)]
      have hLw : ∀ h', LvW h' s.w f.saved f st l := fun h' => ⟨fun _ => rfl, fun h => absurd (hLs.symm.trans h) h0, fun h => absurd (hLs.symm.trans h) h0⟩
      by_cases h1 : 1 < st
      · refine CondX.dT h1 ?_; conv => whnf
        have hG : lvG f st l = 0 := by unfold lvG; rw [hLs, if_pos h1]
        have hO : lvO f st l = [] := by unfold lvO; rw [hLs, if_pos h1]
        have gG : NtS hiA nilS (lvG f st l) := by rw [hG]; exact Nt_nil _
        have gO : BytS hiA nilS (lvO f st l) := by rw [hO]; exact Byt_nil _
        refine StoreX.st (s := ({ s with w := f.saved } : YS)) hdX hcX 10 (by decide) { ({ s with w := f.saved } : YS) with retS := nilS } rfl fun hdA => ?_; conv => whnf
        refine DrawX.go T_ok hM Hval.func53 (tb := dr53) rfl (by kernel_rfl) ?_; conv => whnf
        refine LoadX.blk (join_hm hdA (hput_same ..)) (sl s.frS) rfl ?_; conv => whnf
        refine LoadX.blk (join_hm hdA (hput_same ..)) (sl s.frS) rfl ?_; conv => whnf
        refine LoadX.blk (join_hm hdA (hput_same ..)) (sl s.frS) rfl ?_; conv => whnf
        rw [en]
        refine SlcX.gen hfA.rd hfA.nil hfA.le 0 0 0 rfl rfl rfl (Nat.le_refl _) (Nat.le_refl _) (Nat.zero_le _) (.inr (by simp)) ?_; conv => whnf
        rw [bsh_zero]
        refine StoreX.st (s := { ({ s with w := f.saved } : YS) with retS := nilS }) hdA (hput_same ..) 9 (by decide) { ({ s with w := f.saved } : YS) with retS := nilS, frS := (s.frS.1, 0, 0) } rfl fun hdB => ?_; conv => whnf
        refine LoadX.blk (join_hm hdB (hput_same ..)) (sl (s.frS.1, 0, 0)) rfl ?_; conv => whnf
        repeat (first | (refine CondX.tt ?_; conv => whnf) | (refine CondX.ff ?_; conv => whnf))
        refine StoreX.st (s := { ({ s with w := f.saved } : YS) with retS := nilS, frS := (s.frS.1, 0, 0) }) hdB (hput_same ..) 9 (by decide) { ({ s with w := f.saved } : YS) with retS := nilS, frS := nilS } rfl fun hdC => ?_; conv => whnf
        refine StoreX.st (s := { ({ s with w := f.saved } : YS) with retS := nilS, frS := nilS }) hdC (hput_same ..) 11 (by decide) { ({ s with w := f.saved } : YS) with retS := nilS, frS := nilS, phase := 2 } rfl fun hdD => ?_; conv => whnf
        refine StoreX.st (s := { ({ s with w := f.saved } : YS) with retS := nilS, frS := nilS, phase := 2 }) hdD (hput_same ..) 12 (by decide) { ({ s with w := f.saved } : YS) with retS := nilS, frS := nilS, phase := 2, status := st } rfl fun hdE => ?_; conv => whnf
        refine StoreX.st (s := { ({ s with w := f.saved } : YS) with retS := nilS, frS := nilS, phase := 2, status := st }) hdE (hput_same ..) 16 (by decide) { ({ s with w := f.saved } : YS) with retS := nilS, frS := nilS, phase := 2, status := st, leftS := nilS } rfl fun hdF => ?_; conv => whnf
        refine RetX.same (hk hiA _ { ({ s with w := f.saved } : YS) with retS := nilS, frS := nilS, phase := 2, status := st, leftS := nilS } nilS nilS e6 hdF (by rw [hLs]) gG gO (by first | exact hLw _ | exact hLw (Ext.refl _)) (hput_same ..) fun b y hb hbc => ?_)
        rw [hput_ne hbc, hput_ne hbc, hput_ne hbc, hput_ne hbc, hput_ne hbc, hput_ne hbc]
        exact hkX b y hb hbc
      · refine CondX.dF h1 ?_; conv => whnf
        have hG : lvG f st l = f.gas := by unfold lvG; rw [hLs, if_neg h1, if_neg (fun h => h0 h.2)]
        have hO : lvO f st l = l := by unfold lvO; rw [hLs, if_neg h1, if_neg (fun h => h0 h.2)]
        have gG : NtS hiA f.gasS (lvG f st l) := by rw [hG]; exact hok.gas.ext e6
        have gO : BytS hiA so (lvO f st l) := by rw [hO]; exact hl.ext e6
        refine StoreX.st (s := ({ s with w := f.saved } : YS)) hdX hcX 10 (by decide) { ({ s with w := f.saved } : YS) with retS := so } rfl fun hdA => ?_; conv => whnf
        refine DrawX.go T_ok hM Hval.func53 (tb := dr53) rfl (by kernel_rfl) ?_; conv => whnf
        refine LoadX.blk (join_hm hdA (hput_same ..)) (sl s.frS) rfl ?_; conv => whnf
        refine LoadX.blk (join_hm hdA (hput_same ..)) (sl s.frS) rfl ?_; conv => whnf
        refine LoadX.blk (join_hm hdA (hput_same ..)) (sl s.frS) rfl ?_; conv => whnf
        rw [en]
        refine SlcX.gen hfA.rd hfA.nil hfA.le 0 0 0 rfl rfl rfl (Nat.le_refl _) (Nat.le_refl _) (Nat.zero_le _) (.inr (by simp)) ?_; conv => whnf
        rw [bsh_zero]
        refine StoreX.st (s := { ({ s with w := f.saved } : YS) with retS := so }) hdA (hput_same ..) 9 (by decide) { ({ s with w := f.saved } : YS) with retS := so, frS := (s.frS.1, 0, 0) } rfl fun hdB => ?_; conv => whnf
        refine LoadX.blk (join_hm hdB (hput_same ..)) (sl (s.frS.1, 0, 0)) rfl ?_; conv => whnf
        repeat (first | (refine CondX.tt ?_; conv => whnf) | (refine CondX.ff ?_; conv => whnf))
        refine StoreX.st (s := { ({ s with w := f.saved } : YS) with retS := so, frS := (s.frS.1, 0, 0) }) hdB (hput_same ..) 9 (by decide) { ({ s with w := f.saved } : YS) with retS := so, frS := nilS } rfl fun hdC => ?_; conv => whnf
        refine StoreX.st (s := { ({ s with w := f.saved } : YS) with retS := so, frS := nilS }) hdC (hput_same ..) 11 (by decide) { ({ s with w := f.saved } : YS) with retS := so, frS := nilS, phase := 2 } rfl fun hdD => ?_; conv => whnf
        refine StoreX.st (s := { ({ s with w := f.saved } : YS) with retS := so, frS := nilS, phase := 2 }) hdD (hput_same ..) 12 (by decide) { ({ s with w := f.saved } : YS) with retS := so, frS := nilS, phase := 2, status := st } rfl fun hdE => ?_; conv => whnf
        refine StoreX.st (s := { ({ s with w := f.saved } : YS) with retS := so, frS := nilS, phase := 2, status := st }) hdE (hput_same ..) 16 (by decide) { ({ s with w := f.saved } : YS) with retS := so, frS := nilS, phase := 2, status := st, leftS := f.gasS } rfl fun hdF => ?_; conv => whnf
        refine RetX.same (hk hiA _ { ({ s with w := f.saved } : YS) with retS := so, frS := nilS, phase := 2, status := st, leftS := f.gasS } f.gasS so e6 hdF (by rw [hLs]) gG gO (by first | exact hLw _ | exact hLw (Ext.refl _)) (hput_same ..) fun b y hb hbc => ?_)
        rw [hput_ne hbc, hput_ne hbc, hput_ne hbc, hput_ne hbc, hput_ne hbc, hput_ne hbc]
        exact hkX b y hb hbc
end
end Go.Proofs.YgvalwGreat.X
