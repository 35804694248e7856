import Derived.Test.YgvalwGreatG13
set_option linter.unusedVariables false
set_option linter.unusedSimpArgs false
namespace Go.Proofs.YgvalwGreat.X
open Go

/-- What SSTORE does to the world. -/
def storesW (w : AW) (self : List Int) (k v : Int) : AW :=
  slotW (warmSW { w with ref := w.ref + sstoreP ((w.acct self).slot k) v } self k) self k v
section
variable {hi hm : Hp} {K : Value → Hp → Prop} {c : Nat} {tc : TypeId} {s : YS} {base frs : List (YF × List Int)} {f : YF} {m ret : List Int} {left : Int} {N : Nat} {sa : Sl} {xs : List (Sl × Int)}
/-- The continuation of an effect. -/
def EK (hi : Hp) (c : Nat) (tc : TypeId) (s : YS) (base : List (YF × List Int)) (f : YF) (ret : List Int) (left : Int) (N : Nat) (X : AW) (M : List Int) (K : Value → Hp → Prop) : Prop :=
  ∀ hi' hm' w', Ext hi hi' → StOK hi' hm' c tc { s with w := w' } (base ++ [(f, M)]) ret left → w'.sz (N + 2) → absW w' = X → K (.bool true) (join hi' hm')
theorem ysl_acc {w : YW} {a : List Int} {k : Int} : slotV w.acc a k = ((absW w).acct a).slot k := rfl
set_option maxRecDepth 100000 in
set_option maxHeartbeats 4000000 in
theorem stores_ok (S : StOK hi hm c tc s (base ++ [(f, m)]) ret left) (hN : StN N s (base ++ [(f, m)])) (hN30 : N + 3 < 2 ^ 30) {fb : Nat} (hfb : at0 s.frS fb) {sk sv : Sl} (hsk : NtS hi sk (argI f.st 0)) (hsv : NtS hi sv (argI f.st 1)) (href : s.w.ref + 100000 < big)
    (hk : EK hi c tc s base f ret left N (storesW (absW s.w) f.self (argI f.st 0) (argI f.st 1)) m K) :
    CallX Hval.prog 218 [.pointer (some ⟨c, 0, none⟩), .pointer (some ⟨fb, (preC base).length, none⟩), sl sk, sl sv] (join hi hm) K := by
  refine CallX.of_xf T_ok Hval.func218 rfl (by kernel_rfl) (Nat.le_of_ble_eq_true rfl) ?_; conv => whnf
  obtain ⟨fb', pad, tf, hfb', hb, hn1, hn2, hn3⟩ := S.top
  have : some (⟨fb', 0, none⟩ : Addr) = some ⟨fb, 0, none⟩ := hfb'.symm.trans hfb
  cases this
  have hok := S.okT
  have hd := S.dj
  have hc := S.chain
  have hcf : c ≠ fb := S.frC fb hfb
  have hwr := hN.now.room S.now (by omega)
  refine ysstore_ok hd hc (sCells_w s) (show (sCells s)[8]? = some (sl nilS) from rfl) S.now hwr hb hok fun s1 s2 s3 hi1 e1 hd1 g1 g2 g3 => ?_; conv => whnf
  refine LoadX.blk (join_hm hd1 hc) (sl s.w.sR) rfl ?_; conv => whnf
  have hr0 := S.now.ref.val
  refine CallX.fj hd1 (subN (S.now.ref.ext e1) g3 (fun h => by omega) fun h b2 n2 c2 hi2 e2 g4 hd2 => ?_); conv => whnf
  repeat (first | (refine CondX.tt ?_; conv => whnf) | (refine CondX.ff ?_; conv => whnf))
  refine CallX.fj hd2 (addN g4 (g2.ext e2) ?_ fun b3 n3 c3 hi3 e3 g5 hd3 => ?_)
  · have : sstoreP (slotV s.w.acc f.self (argI f.st 0)) (argI f.st 1) ≤ 100000 := by unfold sstoreP; repeat' split <;> omega
    omega
  conv => whnf
  rw [Int.sub_zero] at g5
  refine StoreX.st (s := s) hd3 hc 3 (by decide) { s with w := { s.w with sR := (b3, n3, c3), ref := s.w.ref + sstoreP (slotV s.w.acc f.self (argI f.st 0)) (argI f.st 1) } } rfl fun hd4 => ?_; conv => whnf
  have eX := (e1.trans e2).trans e3
  have b := S.now.up eX
  have S4 := (S.ext eX hd3).setW (w' := { s.w with sR := (b3, n3, c3), ref := s.w.ref + sstoreP (slotV s.w.acc f.self (argI f.st 0)) (argI f.st 1) }) rfl rfl fun hl' hh => ⟨b.acc, b.wa, b.ws, g5, hh, b.logsE, b.temps, b.made, b.gone⟩
  have sz4 : ({ s.w with sR := (b3, n3, c3), ref := s.w.ref + sstoreP (slotV s.w.acc f.self (argI f.st 0)) (argI f.st 1) } : YW).sz N := ⟨hN.now.acc, hN.now.each, hN.now.wa, hN.now.ws, hN.now.logs, hN.now.temps, hN.now.made, hN.now.gone⟩
  have hb4 : hput hm c (sCells { s with w := { s.w with sR := (b3, n3, c3), ref := s.w.ref + sstoreP (slotV s.w.acc f.self (argI f.st 0)) (argI f.st 1) } }, tc) fb = some (preC base ++ (fCells f ++ pad), tf) := by rw [hput_ne hcf.symm]; exact hb
  have abs4 : absW { s.w with sR := (b3, n3, c3), ref := s.w.ref + sstoreP (slotV s.w.acc f.self (argI f.st 0)) (argI f.st 1) } = { absW s.w with ref := (absW s.w).ref + sstoreP (((absW s.w).acct f.self).slot (argI f.st 0)) (argI f.st 1) } := rfl
  obtain ⟨w4, hw4⟩ : ∃ w4 : YW, w4 = { s.w with sR := (b3, n3, c3), ref := s.w.ref + sstoreP (slotV s.w.acc f.self (argI f.st 0)) (argI f.st 1) } := ⟨_, rfl⟩
  rw [← hw4] at S4 sz4 hb4 abs4 hd4 ⊢
  clear hw4
  have hself4 := ldV_self (join_hm S4.dj hb4) hok.self hok.caller (o := (preC base).length + 12) rfl
  refine DrawX.go T_ok hM Hval.func218 (tb := dr218) rfl (by kernel_rfl) ?_; conv => whnf
  refine LoadX.of _ hself4 ?_; conv => whnf
  refine warmSlotSt_ok (sk := sk) S4 sz4 (by omega) hok.self (hsk.ext eX) ?_
  intro hi5 w5 e5 S5 sz5 abs5
  conv => whnf
  rw [hput_hput] at S5 ⊢
  have hb5 : hput hm c (sCells { s with w := w5 }, tc) fb = some (preC base ++ (fCells f ++ pad), tf) := by rw [hput_ne hcf.symm]; exact hb
  have hself5 := ldV_self (join_hm S5.dj hb5) hok.self hok.caller (o := (preC base).length + 12) rfl
  repeat (refine Ob.mk (by first | exact hself5) ?_; conv => whnf)
  refine DrawX.go T_ok hM Hval.func218 (tb := dr218) rfl (by kernel_rfl) ?_; conv => whnf
  refine LoadX.of _ hself5 ?_; conv => whnf
  have eX5 := eX.trans e5
  refine storeSt_ok (sk := sk) (sv := sv) S5 sz5 (by omega) hok.self (hsk.ext eX5) (hsv.ext eX5) ?_
  intro hi6 w6 e6 S6 sz6 abs6
  conv => whnf
  rw [hput_hput] at S6 ⊢
  have hb6 : hput hm c (sCells { s with w := w6 }, tc) fb = some (preC base ++ (fCells f ++ pad), tf) := by rw [hput_ne hcf.symm]; exact hb
  have hself6 := ldV_self (join_hm S6.dj hb6) hok.self hok.caller (o := (preC base).length + 12) rfl
  repeat (refine Ob.mk (by first | exact hself6) ?_; conv => whnf)
  refine RetX.same (hk hi6 _ w6 (eX5.trans e6) S6 sz6 ?_)
  show absW w6 = _
  rw [abs6]
  show slotW (absW w5) _ _ _ = _
  rw [abs5]
  show slotW (warmSW (absW w4) _ _) _ _ _ = _
  rw [abs4]
  rfl
/-- Memory turns, the rest does not. -/
theorem StOK.setMem {hm' : Hp} {m' : List Int} (S : StOK hi hm c tc s (base ++ [(f, m)]) ret left) (hd : Dj hi hm') (hM : MemB hm' f.memS m') (hkeep : ∀ b y, hm b = some y → (∀ mb, f.memS.1 = some ⟨mb, 0, none⟩ → b ≠ mb) → hm' b = some y) : StOK hi hm' c tc s (base ++ [(f, m')]) ret left := by
  have hft : (f, m) ∈ base ++ [(f, m)] := by simp
  have hmem : ∀ q ∈ base ++ [(f, m')], q ∈ base ∨ q = (f, m') := fun q hq => by simpa using hq
  have hmemS : ∀ q ∈ base ++ [(f, m')], ∃ q0 ∈ base ++ [(f, m)], q.1 = q0.1 := fun q hq => by
    rcases hmem q hq with h5 | h5
    · exact ⟨q, by simp [h5], rfl⟩
    · exact ⟨(f, m), hft, by rw [h5]⟩
  have hcm : ∀ mb, f.memS.1 = some ⟨mb, 0, none⟩ → c ≠ mb := fun mb h => (S.memC _ hft mb h).1.symm
  have hlg : ArrF hi s.w.sL 22 (s.w.logs.map logCells) ∨ (ArrM hm' s.w.sL 22 (s.w.logs.map logCells) ∧ ∀ lb, at0 s.w.sL lb → lb ≠ c ∧ (∀ fb, at0 s.frS fb → lb ≠ fb) ∧ ∀ q ∈ base ++ [(f, m')], ¬ at0 q.1.memS lb) := by
    rcases S.lg with h1 | ⟨h1, h2⟩
    · exact .inl h1
    · refine .inr ⟨h1.mono fun lb x hs hb => hkeep lb x hb fun mb hmb he => (h2 lb hs).2.2 _ hft (by rw [he]; exact hmb), fun lb hlb => ⟨(h2 lb hlb).1, (h2 lb hlb).2.1, fun q hq => ?_⟩⟩
      obtain ⟨q0, h5, h6⟩ := hmemS q hq
      rw [h6]; exact (h2 lb hlb).2.2 q0 h5
  have w := S.now
  have hdis := S.dis
  rw [List.pairwise_append] at hdis
  refine ⟨hd, hkeep _ _ S.chain hcm, ⟨w.acc, w.wa, w.ws, w.ref, lg_arr hd hlg, w.logsE, w.temps, w.made, w.gone⟩, ?_, S.frC, fun q hq => ?_, fun q hq => ?_, fun q hq => ?_, ?_, hlg, S.ret, S.left⟩
  · have := S.frA.mono (hm' := hm') fun fb x hs hb => hkeep fb x hb fun mb hmb => ((S.memC _ hft mb hmb).2 fb hs).symm
    simpa using this
  · obtain ⟨q0, h5, h6⟩ := hmemS q hq
    rw [h6]; exact S.ok q0 h5
  · rcases hmem q hq with h5 | h5
    · refine (S.mem q (by simp [h5])).keep fun mb x hmb hx => hkeep mb x hx fun mb' hmb' he => ?_
      exact hdis.2.2 q h5 (f, m) (by simp) mb hmb (by rw [he]; exact hmb')
    · rw [h5]; exact hM
  · obtain ⟨q0, h5, h6⟩ := hmemS q hq
    rw [h6]; exact S.memC q0 h5
  · rw [List.pairwise_append]
    refine ⟨hdis.1, by simp, fun q hq r hr => ?_⟩
    rw [List.mem_singleton.1 hr]
    exact hdis.2.2 q hq (f, m) (by simp)
end
end Go.Proofs.YgvalwGreat.X
