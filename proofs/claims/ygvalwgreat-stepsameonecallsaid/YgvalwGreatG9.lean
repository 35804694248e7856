import Derived.Test.YgvalwGreatG8
set_option linter.unusedVariables false
set_option linter.unusedSimpArgs false
namespace Go.Proofs.YgvalwGreat.X
open Go

section
variable {hi hm : Hp} {K : Value → Hp → Prop} {c : Nat} {tc : TypeId} {s : YS} {base frs : List (YF × List Int)} {f : YF} {m ret : List Int} {left : Int} {N : Nat}
/-- The chain's own words turn, its world and its frames do not. -/
theorem StOK.setS (S : StOK hi hm c tc s frs ret left) {s' : YS} {ret' : List Int} {left' : Int} (h1 : s'.w = s.w) (h2 : s'.frS = s.frS) (hr : BytS hi s'.retS ret') (hl : NtS hi s'.leftS left') :
    StOK hi (hput hm c (sCells s', tc)) c tc s' frs ret' left' := by
  have hd := S.dj.put (y := (sCells s', tc)) S.chain
  have hlg : ArrF hi s'.w.sL 22 (s'.w.logs.map logCells) ∨ (ArrM (hput hm c (sCells s', tc)) s'.w.sL 22 (s'.w.logs.map logCells) ∧ ∀ lb, at0 s'.w.sL lb → lb ≠ c ∧ (∀ fb, at0 s'.frS fb → lb ≠ fb) ∧ ∀ q ∈ frs, ¬ at0 q.1.memS lb) := by
    rw [h1, h2]
    exact S.lgK (Ext.refl _) fun b y hb hbc _ _ => by rw [hput_ne hbc]; exact hb
  have b := S.now
  refine ⟨hd, hput_same .., ?_, ?_, by rw [h2]; exact S.frC, S.ok, fun q hq => (S.mem q hq).keep fun mb x hmb hx => ?_, by rw [h2]; exact S.memC, S.dis, hlg, hr, hl⟩
  · have hh := lg_arr hd hlg
    rw [h1] at hh ⊢
    exact ⟨b.acc, b.wa, b.ws, b.ref, hh, b.logsE, b.temps, b.made, b.gone⟩
  · rw [h2]
    exact S.frA.mono fun fb x hs hb => by rw [hput_ne (S.frC fb hs).symm]; exact hb
  · rw [hput_ne (S.memC q hq mb hmb).1]; exact hx
/-- A call or a creation. -/
def entersA (a : AS) (base : List AF) (f : AF) (o : Int) : AS :=
  if o = 240 ∨ o = 245 then createA { a with ret := [] } base f o else callA { a with ret := [] } base f o
/-- The operands that a call or a creation needs. -/
def entT (o : Int) : Nat := if o = 240 ∨ o = 245 then crT o else callT o
def entI (o : Int) : Nat := if o = 240 ∨ o = 245 then 2 else if o = 241 ∨ o = 242 then 4 else 3
set_option maxRecDepth 100000 in
set_option maxHeartbeats 4000000 in
theorem enters_ok {o : Int} (ho : o = 240 ∨ o = 245 ∨ o = 241 ∨ o = 242 ∨ o = 244 ∨ o = 250) (S : StOK hi hm c tc s (base ++ [(f, m)]) ret left) (hN : StN N s (base ++ [(f, m)])) (hN30 : N + 4 < 2 ^ 30) (hbn : base.length ≤ 90) (hgr : f.gas + 2300 < big) {fb : Nat} (hfb : at0 s.frS fb) (hself : isB f.self) (hbal : (getA s.w.acc f.self).bal = 0) (hval : f.val = 0) (hst : entT o ≤ f.st.length) (hlen : argI f.st (entI o) < 2 ^ 40) (hpc : f.pc + 1 < big) (hsW : stW f.st)
    (hk : StK hi c tc s (N + 3) (entersA (absS s (base ++ [(f, m)]) ret left) (base.map absF) (absF (f, m)) o) K) :
    CallX Hval.prog 59 [.pointer (some ⟨c, 0, none⟩), .pointer (some ⟨fb, (preC base).length, none⟩), .int .u8 o] (join hi hm) K := by
  refine CallX.of_xf T_ok Hval.func59 rfl (by kernel_rfl) (Nat.le_of_ble_eq_true rfl) ?_; conv => whnf
  refine StoreX.st S.dj S.chain 10 (by decide) { s with retS := nilS } rfl fun hd1 => ?_; conv => whnf
  have S2 := S.setS (s' := { s with retS := nilS }) (ret' := []) (left' := left) rfl rfl (Byt_nil _) S.left
  have hN2 : StN N { s with retS := nilS } (base ++ [(f, m)]) := ⟨hN.now, hN.saved⟩
  have hgr1 : f.gas < big := by omega
  rcases ho with rfl | rfl | rfl | rfl | rfl | rfl
  · repeat (first | (refine CondX.tt ?_; conv => whnf) | (refine CondX.ff ?_; conv => whnf))
    refine create240_ok S2 hN2 (by omega) hbn hgr1 hfb hself hbal hst hlen hpc ?_
    intro hi' hm' s' frs' ret' left' q1 q2 q3 q4 q5
    conv => whnf
    refine RetX.same (hk hi' hm' s' frs' ret' left' q1 q2 ⟨q3.now.mono (by omega), fun q hq => (q3.saved q hq).mono (by omega)⟩ (q4.trans ?_) (fixS.trans (b := { s with retS := nilS }) ⟨rfl, rfl, rfl, rfl, rfl, rfl, rfl, rfl⟩ q5))
    unfold entersA
    simp
    rfl
  · repeat (first | (refine CondX.tt ?_; conv => whnf) | (refine CondX.ff ?_; conv => whnf))
    refine create245_ok S2 hN2 (by omega) hbn hgr1 hfb hself hbal hst hlen hpc hsW ?_
    intro hi' hm' s' frs' ret' left' q1 q2 q3 q4 q5
    conv => whnf
    refine RetX.same (hk hi' hm' s' frs' ret' left' q1 q2 ⟨q3.now.mono (by omega), fun q hq => (q3.saved q hq).mono (by omega)⟩ (q4.trans ?_) (fixS.trans (b := { s with retS := nilS }) ⟨rfl, rfl, rfl, rfl, rfl, rfl, rfl, rfl⟩ q5))
    unfold entersA
    simp
    rfl
  · repeat (first | (refine CondX.tt ?_; conv => whnf) | (refine CondX.ff ?_; conv => whnf))
    refine call241_ok S2 hN2 (by omega) hbn hgr hfb hbal hval hst hlen hpc ?_
    intro hi' hm' s' frs' ret' left' q1 q2 q3 q4 q5
    conv => whnf
    refine RetX.same (hk hi' hm' s' frs' ret' left' q1 q2 ⟨q3.now.mono (by omega), fun q hq => (q3.saved q hq).mono (by omega)⟩ (q4.trans ?_) (fixS.trans (b := { s with retS := nilS }) ⟨rfl, rfl, rfl, rfl, rfl, rfl, rfl, rfl⟩ q5))
    unfold entersA
    simp
    rfl
  · repeat (first | (refine CondX.tt ?_; conv => whnf) | (refine CondX.ff ?_; conv => whnf))
    refine call242_ok S2 hN2 (by omega) hbn hgr hfb hbal hval hst hlen hpc ?_
    intro hi' hm' s' frs' ret' left' q1 q2 q3 q4 q5
    conv => whnf
    refine RetX.same (hk hi' hm' s' frs' ret' left' q1 q2 ⟨q3.now.mono (by omega), fun q hq => (q3.saved q hq).mono (by omega)⟩ (q4.trans ?_) (fixS.trans (b := { s with retS := nilS }) ⟨rfl, rfl, rfl, rfl, rfl, rfl, rfl, rfl⟩ q5))
    unfold entersA
    simp
    rfl
  · repeat (first | (refine CondX.tt ?_; conv => whnf) | (refine CondX.ff ?_; conv => whnf))
    refine call244_ok S2 hN2 (by omega) hbn hgr hfb hbal hval hst hlen hpc ?_
    intro hi' hm' s' frs' ret' left' q1 q2 q3 q4 q5
    conv => whnf
    refine RetX.same (hk hi' hm' s' frs' ret' left' q1 q2 ⟨q3.now.mono (by omega), fun q hq => (q3.saved q hq).mono (by omega)⟩ (q4.trans ?_) (fixS.trans (b := { s with retS := nilS }) ⟨rfl, rfl, rfl, rfl, rfl, rfl, rfl, rfl⟩ q5))
    unfold entersA
    simp
    rfl
  · repeat (first | (refine CondX.tt ?_; conv => whnf) | (refine CondX.ff ?_; conv => whnf))
    refine call250_ok S2 hN2 (by omega) hbn hgr hfb hbal hval hst hlen hpc ?_
    intro hi' hm' s' frs' ret' left' q1 q2 q3 q4 q5
    conv => whnf
    refine RetX.same (hk hi' hm' s' frs' ret' left' q1 q2 ⟨q3.now.mono (by omega), fun q hq => (q3.saved q hq).mono (by omega)⟩ (q4.trans ?_) (fixS.trans (b := { s with retS := nilS }) ⟨rfl, rfl, rfl, rfl, rfl, rfl, rfl, rfl⟩ q5))
    unfold entersA
    simp
    rfl
end
end Go.Proofs.YgvalwGreat.X
