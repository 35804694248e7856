import Derived.Test.YgvalwGreatM29
set_option linter.unusedVariables false
set_option linter.unusedSimpArgs false
namespace Go.Proofs.YgvalwGreat.X
open Go

section
variable {hi hi' hm hb h : Hp} {K : Value → Hp → Prop} {v : VS} {eb : Nat} {m : MS} {t : Nat} {mems : Nat → List Int} {stale : List Int} {w : AW} {sn : List AW} {s0 l0 S : Int} {A : Nat → Nat}
theorem EX.exti (X : EX hi hm hb eb m t w sn v mems stale) (he : Ext hi hi') (hd : Dj hi' hm) (hd2 : Dj (join hi' hm) hb) : EX hi' hm hb eb m t w sn v mems stale :=
  ⟨X.M.setV he (X.M.A.exti he hd), hd2, X.mm, X.sn1, X.sn2, X.has, X.wait⟩
theorem EnK.ext {a : AS} {KK : Hp → Prop} (hk : EnK hi eb m S a s0 l0 KK) (he : Ext hi hi') : EnK hi' eb m S a s0 l0 KK := fun hi1 hm' hb' m' w' sn' v' h1 h2 h3 h4 => hk hi1 hm' hb' m' w' sn' v' (he.trans h1) h2 h3 h4
theorem memCost_mono {x y : Int} (h0 : 0 ≤ x) (h : x ≤ y) : memCost x ≤ memCost y := by
  have : x * x ≤ y * y := Int.mul_le_mul h h h0 (by omega)
  unfold memCost
  generalize x * x = a at *
  generalize y * y = b at *
  omega
theorem memCost_bd2 {x : Int} (h0 : 0 ≤ x) (h : x ≤ 22415) : memCost x ≤ 10000000 := by
  have : x * x ≤ 22415 * 22415 := Int.mul_le_mul h h h0 (by omega)
  unfold memCost
  generalize x * x = a at *
  omega
/-- Gas is paid, memory has grown. -/
theorem EX.pay {hm' hb' : Hp} {s : Sl} {b : Nat → Int} {g : Int} {mem' stale' : List Int} (X : EX hi hm hb eb m t w sn v mems stale) (A' : VA hi hm' eb (mC eb { m with fr := updN m.fr t { m.fr t with gas := g }, bufS := s, base := b }) w sn v) (hd : Dj (join hi hm') hb') (hg : 0 ≤ g ∧ g < 18446744073709551616)
    (B : MM hb' { m with fr := updN m.fr t { m.fr t with gas := g }, bufS := s, base := b } t (updN mems t mem') stale') : EX hi hm' hb' eb { m with fr := updN m.fr t { m.fr t with gas := g }, bufS := s, base := b } t w sn v (updN mems t mem') stale' := by
  have eF : ∀ i, (updN m.fr t { m.fr t with gas := g } i).snap = (m.fr i).snap ∧ (updN m.fr t { m.fr t with gas := g } i).self = (m.fr i).self := fun i => by
    unfold updN; split
    · rename_i h; subst h; exact ⟨rfl, rfl⟩
    · exact ⟨rfl, rfl⟩
  refine ⟨⟨A', X.M.phase, X.M.top, X.M.t7, fun i hi => ?_, X.M.stw, X.M.ret⟩, hd, B, fun i hi => ?_, fun i j hij hj => ?_, fun i hi => ?_, fun i hi => ?_⟩
  · have F := X.M.fok i hi
    show FOK _ (updN m.fr t { m.fr t with gas := g } i) i
    unfold updN; split
    · rename_i h; subst h
      exact ⟨F.sb, F.sp, F.pc, hg, F.self, F.caller, F.val, F.code, F.cl, F.input, F.dst⟩
    · exact F
  · show (updN m.fr t _ i).snap < _
    rw [(eF i).1]; exact X.sn1 i hi
  · show (updN m.fr t _ i).snap < (updN m.fr t _ j).snap
    rw [(eF i).1, (eF j).1]; exact X.sn2 i j hij hj
  · show hasA v (updN m.fr t _ i).self = true
    rw [(eF i).2]; exact X.has i hi
  · show WtM (updN m.fr t _ i) (updN mems t mem' i)
    unfold updN
    rw [if_neg (by omega), if_neg (by omega)]; exact X.wait i hi
def PaK (hi : Hp) (eb : Nat) (m : MS) (t : Nat) (w : AW) (sn : List AW) (v : VS) (mems : Nat → List Int) (g : Int) (n : Nat) (K : Hp → Prop) : Prop :=
  ∀ hm' hb' s b stale', EX hi hm' hb' eb { m with fr := updN m.fr t { m.fr t with gas := g }, bufS := s, base := b } t w sn v (updN mems t (growI (mems t) n)) stale' → K (join (join hi hm') hb')

set_option maxRecDepth 100000 in
set_option maxHeartbeats 4000000 in
theorem pass_other {o : Int} (h0 : 0 ≤ o) (h1 : o < 256) (hno : o ≠ 240 ∧ o ≠ 245 ∧ o ≠ 62 ∧ o ≠ 85 ∧ o ≠ 86 ∧ o ≠ 87) (hkn : (rowI o).kn = true) (X : EX hi hm hb eb m t w sn v mems stale) (hA : ∀ i, argM m t i = A i) (hgs : ∀ i, i ≤ t → (m.fr i).gas ≤ 1048576) (hS : 0 ≤ S ∧ S ≤ 1048576) (R : Rs S v sn)
    (htk : (rowI o).tk ≤ (m.fr t).sp) (hrm : ((m.fr t).sp : Int) - (rowI o).tk + (rowI o).gv ≤ 64) (hpot : (m.fr t).gas + memCost ((mems t).length / 32 : Nat) ≤ 1048576) (hmod : (mems t).length % 32 = 0) (hlow : (lowN mems t).length ≤ 4400000)
    (hkF : ∀ st, (refA o (costA w (m.fr t).self o (fun i => A i) ((mems t).length / 32 : Nat)) (m.fr t).gas (m.fr t).sp (fun i => A i) (m.fr t).static (m.fr t).code m.ret.length).1 = st → st ≠ 0 → EnK hi eb m (S + ((m.fr t).gas - lvGA (frM m sn mems t) st [])) (leaveA (absM m t w sn mems s0 l0) (frsM m t sn mems) (frM m sn mems t) st []) s0 l0 (K (.bool false)))
    (hkT : (refA o (costA w (m.fr t).self o (fun i => A i) ((mems t).length / 32 : Nat)) (m.fr t).gas (m.fr t).sp (fun i => A i) (m.fr t).static (m.fr t).code m.ret.length).1 = 0 → PaK hi eb m t w sn v mems ((m.fr t).gas - costA w (m.fr t).self o (fun i => A i) ((mems t).length / 32 : Nat)) (needI o fun i => A i).toNat (K (.bool true))) :
    CallX Hval.prog 183 [.pointer (some ⟨eb, 0, none⟩), .int .u8 o, .int .u16 (rowI o).sg] (join (join hi hm) hb) K := by
  have M := X.M
  have h7 := M.t7
  have F := M.f
  have hbE := M.blk (Ext.jl (join hi hm) hb)
  have hro := rowE h0 h1
  have q : ∀ i, (A i : Int) < W := fun i => hA i ▸ (argM_W M i).2
  have hg0 := F.gas
  have hMe : Ext (join hi hm) (join (join hi hm) hb) := Ext.jl _ _
  generalize hcost : costA w (m.fr t).self o (fun i => (A i : Int)) ((mems t).length / 32 : Nat) = cost at *
  have hr0 : refA o cost (m.fr t).gas (m.fr t).sp (fun i => (A i : Int)) (m.fr t).static (m.fr t).code m.ret.length = (if (m.fr t).static = true ∧ writesI o (A 2) = true then (7, 0)
      else if (o = 240 ∨ o = 245) ∧ 512 < (A 2 : Int) then (9, 0)
      else if o = 62 ∧ (m.ret.length : Int) < (A 1 : Int) + A 2 then (8, 0)
      else if (m.fr t).gas < cost then (2, cost)
      else if o = 85 ∧ (m.fr t).gas ≤ 2300 then (2, cost)
      else if (o = 86 ∨ (o = 87 ∧ (A 1 : Int) ≠ 0)) ∧ isDestI (m.fr t).code (A 0) = false then (6, cost)
      else (0, cost)) := by
    unfold refA
    rw [if_neg (by rw [← hro.2.2.1, hkn]; decide), if_neg (by rw [← hro.1]; omega), if_neg (by rw [← hro.1, ← hro.2.1]; omega)]
  generalize refA o cost (m.fr t).gas (m.fr t).sp (fun i => (A i : Int)) (m.fr t).static (m.fr t).code m.ret.length = r at *
  have hA0 : ∀ i, 0 ≤ ((fun i => (A i : Int)) i) := fun i => Int.natCast_nonneg _
  have hbare := bareA_nonneg (w := w) (self := (m.fr t).self) (o := o) hA0
  have hmb := X.mm.top
  have hmf : (mems t).length ≤ 6000000 := by have := hmb.few; simp only [List.length_append] at this; omega
  refine CallX.of_xf T_ok Hval.func183 rfl (by kernel_rfl) (Nat.le_of_ble_eq_true rfl) ?_; conv => whnf
  refine running_ok M hMe ?_; conv => whnf
  repeat (first | (refine CondX.tt ?_; conv => whnf) | (refine CondX.ff ?_; conv => whnf))
  refine LoadX.fn hbE (1803 + t * 65 + 3) rfl (by omega) ?_
  cases hst : (m.fr t).static with
  | false =>
    rw [mR_static h7, hst]; conv => whnf
    repeat (first | (refine CondX.tt ?_; conv => whnf) | (refine CondX.ff ?_; conv => whnf))
    have hr0 : r = _ := hr0.trans (if_neg (fun hh => by rw [hst] at hh; cases hh.1))
    refine CondX.eqF (by omega) ?_; conv => whnf
    repeat (first | (refine CondX.tt ?_; conv => whnf) | (refine CondX.ff ?_; conv => whnf))
    refine CondX.eqF (by omega) ?_; conv => whnf
    repeat (first | (refine CondX.tt ?_; conv => whnf) | (refine CondX.ff ?_; conv => whnf))
    refine CondX.eqF (by omega) ?_; conv => whnf
    repeat (first | (refine CondX.tt ?_; conv => whnf) | (refine CondX.ff ?_; conv => whnf))
    have hr0 : r = _ := hr0.trans ((if_neg (fun hh => by omega)).trans (if_neg (fun hh => by omega)))
    refine flat_ok h0 ?_
    cases hfl : flatB o with
    | true =>
      conv => whnf
      repeat (first | (refine CondX.tt ?_; conv => whnf) | (refine CondX.ff ?_; conv => whnf))
      obtain ⟨hn, hre⟩ := flat_no (A := fun i => (A i : Int)) hfl
      have hc : cost = (rowI o).sg := by
        rw [← hcost]
        unfold costA
        rw [bareA_no hn, hro.2.2.2.2 hkn hn, if_pos (by unfold needI; rw [hre]; omega)]; omega
      have hn0 : (needI o fun i => (A i : Int)).toNat = 0 := by unfold needI; rw [hre]; rfl
      rw [show IntKind.u64.wrap (rowI o).sg = (rowI o).sg by rw [wrap_u64']; omega]
      refine LoadX.fx hbE (1803 + t * 65 + 7) rfl (by omega) (mR_gas h7) ?_; conv => whnf
      refine CondX.decI (fun hc1 => ?_) (fun hc1 => ?_) <;> conv => whnf
      · have hr1 : r.1 = 2 := by rw [hr0, if_pos (by omega)]
        refine fail_ok (s0 := s0) (l0 := l0) (st := 2) X hgs hS R (by omega) (by omega) ((hkF 2 hr1 (by omega)).map fun h' hh => ?_)
        conv => whnf
        exact RetX.same hh
      · refine LoadX.fx hbE (1803 + t * 65 + 7) rfl (by omega) (mR_gas h7) ?_; conv => whnf
        rw [show IntKind.u64.wrap (rowI o).sg = (rowI o).sg by rw [wrap_u64']; omega, show IntKind.u64.wrap ((m.fr t).gas - (rowI o).sg) = (m.fr t).gas - (rowI o).sg by rw [wrap_u64']; omega]
        refine M.A.sto X.dj (eU_gas h7 _) rfl (by omega) fun hm2 A2 hd2 => ?_; conv => whnf
        have hr1 : r.1 = 0 := by rw [hr0, if_neg (by omega), if_neg (by omega), if_neg (by omega)]
        have hkT := hkT hr1
        rw [hn0, hc] at hkT
        refine RetX.same (hkT hm2 hb m.bufS m.base stale (X.pay A2 hd2 (by omega) ?_))
        have e : growI (mems t) 0 = mems t := by unfold growI; rw [if_neg (by omega)]
        rw [e]
        exact X.mm.set (m' := { m with fr := updN m.fr t { m.fr t with gas := (m.fr t).gas - (rowI o).sg }, bufS := m.bufS, base := m.base }) ⟨hmb.mtop, hmb.b0, hmb.b1, hmb.buf, hmb.few⟩ fun i _ => rfl
    | false =>
      conv => whnf
      repeat (first | (refine CondX.tt ?_; conv => whnf) | (refine CondX.ff ?_; conv => whnf))
      have hre0 := (reachI_bd (o := o) (A := fun i => (A i : Int)) hA0 q).1
      refine reaches_ok M hMe hA fun x bb hb1 hb2 => ?_
      cases bb with
      | false =>
        conv => whnf
        repeat (first | (refine CondX.tt ?_; conv => whnf) | (refine CondX.ff ?_; conv => whnf))
        have hov : (m.fr t).gas < cost := Int.not_le.1 fun hh => by
          have h9 := needI_ok (w := w) (self := (m.fr t).self) (o := o) (gas := (m.fr t).gas) hA0 (Int.natCast_nonneg _) hre0 hpot (by rw [hcost]; exact hh)
          have h8 := hb2 rfl
          have h6 := h9.2.1
          unfold needI at h6
          omega
        have hr1 : r.1 = 2 := by rw [hr0, if_pos hov]
        refine fail_ok (s0 := s0) (l0 := l0) (st := 2) X hgs hS R (by omega) (by omega) ((hkF 2 hr1 (by omega)).map fun h' hh => ?_)
        conv => whnf
        exact RetX.same hh
      | true =>
        obtain ⟨hre, hxn⟩ := hb1 rfl
        have hnd : 0 ≤ x ∧ x ≤ 22415 := by rw [hxn]; unfold needI; omega
        obtain ⟨nd, rfl⟩ : ∃ nd : Nat, x = nd := ⟨x.toNat, by omega⟩
        conv => whnf
        repeat (first | (refine CondX.tt ?_; conv => whnf) | (refine CondX.ff ?_; conv => whnf))
        refine alen_ok hbE hmb (Ext.jr X.dj) h7 ?_; conv => whnf
        refine Ob.mk (by decide) ?_; conv => whnf
        rw [show IntKind.u32.wrap (Int.tdiv ((mems t).length : Int) 32) = (((mems t).length / 32 : Nat) : Int) by rw [Int.tdiv_eq_ediv_of_nonneg (by omega), wrap_u32]; omega, show IntKind.u64.wrap (((mems t).length / 32 : Nat) : Int) = (((mems t).length / 32 : Nat) : Int) by rw [wrap_u64']; omega]
        obtain ⟨hv, ehv⟩ : ∃ hv : Nat, (mems t).length / 32 = hv := ⟨_, rfl⟩
        have hmc := hpot
        rw [ehv] at hmc ⊢
        have hv22 := memCost_le (x := (hv : Int)) (by omega) (by omega)
        refine dynamic_ok h0 h1 hkn M hMe hA hre fun dx edx dx0 dx1 => ?_; conv => whnf
        rw [show IntKind.u64.wrap (rowI o).sg = (rowI o).sg by rw [wrap_u64']; omega, show IntKind.u64.wrap ((rowI o).sg + dx) = (rowI o).sg + dx by rw [wrap_u64']; omega]
        have ecost : cost = (rowI o).sg + dx + (if (nd : Int) ≤ hv then 0 else lessI (memCost nd) (memCost hv)) := by rw [← hcost, edx, hxn, ← ehv]; rfl
        have mc1 := memCost_nonneg (x := (nd : Int)) (by omega)
        have mc2 := memCost_nonneg (x := (hv : Int)) (by omega)
        refine CondX.decI (fun hgr => ?_) (fun hgr => ?_) <;> conv => whnf
        · refine memCostE_ok (wd := nd) (by omega) ?_; conv => whnf
          refine memCostE_ok (wd := hv) (by omega) ?_; conv => whnf
          have mcm := memCost_mono (x := (hv : Int)) (y := (nd : Int)) (by omega) (by omega)
          have mcb := memCost_bd2 (x := (nd : Int)) (by omega) (by omega)
          have elm : lessI (memCost nd) (memCost hv) = memCost nd - memCost hv := by unfold lessI; rw [if_neg (by omega)]
          rw [if_neg (by omega), elm] at ecost
          rw [show IntKind.u64.wrap (memCost nd - memCost hv) = memCost nd - memCost hv by rw [wrap_u64']; omega, show IntKind.u64.wrap ((rowI o).sg + dx + (memCost nd - memCost hv)) = cost by rw [wrap_u64']; omega]
          refine LoadX.fx hbE (1803 + t * 65 + 7) rfl (by omega) (mR_gas h7) ?_; conv => whnf
          refine CondX.decI (fun hov => ?_) (fun hov => ?_) <;> conv => whnf
          · have hr1 : r.1 = 2 := by rw [hr0, if_pos (by omega)]
            repeat (first | (refine CondX.tt ?_; conv => whnf) | (refine CondX.ff ?_; conv => whnf))
            refine fail_ok (s0 := s0) (l0 := l0) (st := 2) X hgs hS R (by omega) (by omega) ((hkF 2 hr1 (by omega)).map fun h' hh => ?_)
            conv => whnf
            exact RetX.same hh
          · have hr0 : r = _ := hr0.trans (if_neg (by omega))
            repeat (first | (refine CondX.tt ?_; conv => whnf) | (refine CondX.ff ?_; conv => whnf))
            refine CondX.eqF (by omega) ?_; conv => whnf
            repeat (first | (refine CondX.tt ?_; conv => whnf) | (refine CondX.ff ?_; conv => whnf))
            refine CondX.eqF (by omega) ?_; conv => whnf
            repeat (first | (refine CondX.tt ?_; conv => whnf) | (refine CondX.ff ?_; conv => whnf))
            refine CondX.eqF (by omega) ?_; conv => whnf
            repeat (first | (refine CondX.tt ?_; conv => whnf) | (refine CondX.ff ?_; conv => whnf))
            have hr1 : r.1 = 0 := by rw [hr0, if_neg (by omega), if_neg (by omega)]
            refine LoadX.fx hbE (1803 + t * 65 + 7) rfl (by omega) (mR_gas h7) ?_; conv => whnf
            rw [show IntKind.u64.wrap ((m.fr t).gas - cost) = (m.fr t).gas - cost by rw [wrap_u64']; omega]
            refine M.A.sto X.dj (eU_gas h7 _) rfl (by omega) fun hm2 A2 hd2 => ?_; conv => whnf
            have hkT := hkT hr1
            have hnn : (needI o fun i => (A i : Int)).toNat = nd := by rw [← hxn]; rfl
            rw [hnn] at hkT
            refine CondX.dT hgr ?_; conv => whnf
            repeat (first | (refine CondX.tt ?_; conv => whnf) | (refine CondX.ff ?_; conv => whnf))
            rw [show IntKind.u32.wrap ((nd : Nat) : Int) = (nd : Int) by rw [wrap_u32]; omega]
            have hmb2 : MBf hb { m with fr := updN m.fr t { m.fr t with gas := (m.fr t).gas - cost } } t (lowN mems t) (mems t) stale := ⟨hmb.mtop, hmb.b0, hmb.b1, hmb.buf, hmb.few⟩
            have X2 := X.pay (s := m.bufS) (b := m.base) (mem' := mems t) A2 hd2 (by omega) (X.mm.set (m' := { m with fr := updN m.fr t { m.fr t with gas := (m.fr t).gas - cost }, bufS := m.bufS, base := m.base }) ⟨hmb.mtop, hmb.b0, hmb.b1, hmb.buf, hmb.few⟩ fun i _ => rfl)
            refine agrow_ok (wd := nd) X2.M hmb2 hd2 (by omega) (by omega) hlow fun sg hm3 hb3 stale3 M3 hd3 B3 => ?_; conv => whnf
            repeat (first | (refine CondX.tt ?_; conv => whnf) | (refine CondX.ff ?_; conv => whnf))
            have e : growI (mems t) nd = mems t ++ List.replicate (32 * nd - (mems t).length) 0 := by unfold growI; rw [if_pos (by omega)]
            unfold PaK at hkT
            rw [e] at hkT
            exact RetX.same (hkT hm3 hb3 sg _ stale3 (X.pay M3.A hd3 (by omega) (X.mm.set B3 fun i hi => by show updN m.base (t + 1) _ i = _; unfold updN; rw [if_neg (by omega)])))
        · rw [if_pos (by omega)] at ecost
          rw [show (rowI o).sg + dx = cost by omega]
          refine LoadX.fx hbE (1803 + t * 65 + 7) rfl (by omega) (mR_gas h7) ?_; conv => whnf
          refine CondX.decI (fun hov => ?_) (fun hov => ?_) <;> conv => whnf
          · have hr1 : r.1 = 2 := by rw [hr0, if_pos (by omega)]
            repeat (first | (refine CondX.tt ?_; conv => whnf) | (refine CondX.ff ?_; conv => whnf))
            refine fail_ok (s0 := s0) (l0 := l0) (st := 2) X hgs hS R (by omega) (by omega) ((hkF 2 hr1 (by omega)).map fun h' hh => ?_)
            conv => whnf
            exact RetX.same hh
          · have hr0 : r = _ := hr0.trans (if_neg (by omega))
            repeat (first | (refine CondX.tt ?_; conv => whnf) | (refine CondX.ff ?_; conv => whnf))
            refine CondX.eqF (by omega) ?_; conv => whnf
            repeat (first | (refine CondX.tt ?_; conv => whnf) | (refine CondX.ff ?_; conv => whnf))
            refine CondX.eqF (by omega) ?_; conv => whnf
            repeat (first | (refine CondX.tt ?_; conv => whnf) | (refine CondX.ff ?_; conv => whnf))
            refine CondX.eqF (by omega) ?_; conv => whnf
            repeat (first | (refine CondX.tt ?_; conv => whnf) | (refine CondX.ff ?_; conv => whnf))
            have hr1 : r.1 = 0 := by rw [hr0, if_neg (by omega), if_neg (by omega)]
            refine LoadX.fx hbE (1803 + t * 65 + 7) rfl (by omega) (mR_gas h7) ?_; conv => whnf
            rw [show IntKind.u64.wrap ((m.fr t).gas - cost) = (m.fr t).gas - cost by rw [wrap_u64']; omega]
            refine M.A.sto X.dj (eU_gas h7 _) rfl (by omega) fun hm2 A2 hd2 => ?_; conv => whnf
            have hkT := hkT hr1
            have hnn : (needI o fun i => (A i : Int)).toNat = nd := by rw [← hxn]; rfl
            rw [hnn] at hkT
            refine CondX.dF hgr ?_; conv => whnf
            repeat (first | (refine CondX.tt ?_; conv => whnf) | (refine CondX.ff ?_; conv => whnf))
            refine RetX.same (hkT hm2 hb m.bufS m.base stale (X.pay A2 hd2 (by omega) ?_))
            have e : growI (mems t) nd = mems t := by unfold growI; rw [if_neg (by omega)]
            rw [e]
            exact X.mm.set (m' := { m with fr := updN m.fr t { m.fr t with gas := (m.fr t).gas - cost }, bufS := m.bufS, base := m.base }) ⟨hmb.mtop, hmb.b0, hmb.b1, hmb.buf, hmb.few⟩ fun i _ => rfl
  | true =>
    rw [mR_static h7, hst]; conv => whnf
    repeat (first | (refine CondX.tt ?_; conv => whnf) | (refine CondX.ff ?_; conv => whnf))
    refine writes_okM M hMe (hA 2) ?_
    cases hwr : writesI o (A 2) with
    | true =>
      conv => whnf
      repeat (first | (refine CondX.tt ?_; conv => whnf) | (refine CondX.ff ?_; conv => whnf))
      have hr1 : r.1 = 7 := by rw [hr0, if_pos ⟨hst, hwr⟩]
      refine fail_ok (s0 := s0) (l0 := l0) (st := 7) X hgs hS R (by omega) (by omega) ((hkF 7 hr1 (by omega)).map fun h' hh => ?_)
      conv => whnf
      exact RetX.same hh
    | false =>
      conv => whnf
      repeat (first | (refine CondX.tt ?_; conv => whnf) | (refine CondX.ff ?_; conv => whnf))
      have hr0 : r = _ := hr0.trans (if_neg (fun hh => by rw [hwr] at hh; cases hh.2))
      refine CondX.eqF (by omega) ?_; conv => whnf
      repeat (first | (refine CondX.tt ?_; conv => whnf) | (refine CondX.ff ?_; conv => whnf))
      refine CondX.eqF (by omega) ?_; conv => whnf
      repeat (first | (refine CondX.tt ?_; conv => whnf) | (refine CondX.ff ?_; conv => whnf))
      refine CondX.eqF (by omega) ?_; conv => whnf
      repeat (first | (refine CondX.tt ?_; conv => whnf) | (refine CondX.ff ?_; conv => whnf))
      have hr0 : r = _ := hr0.trans ((if_neg (fun hh => by omega)).trans (if_neg (fun hh => by omega)))
      refine flat_ok h0 ?_
      cases hfl : flatB o with
      | true =>
        conv => whnf
        repeat (first | (refine CondX.tt ?_; conv => whnf) | (refine CondX.ff ?_; conv => whnf))
        obtain ⟨hn, hre⟩ := flat_no (A := fun i => (A i : Int)) hfl
        have hc : cost = (rowI o).sg := by
          rw [← hcost]
          unfold costA
          rw [bareA_no hn, hro.2.2.2.2 hkn hn, if_pos (by unfold needI; rw [hre]; omega)]; omega
        have hn0 : (needI o fun i => (A i : Int)).toNat = 0 := by unfold needI; rw [hre]; rfl
        rw [show IntKind.u64.wrap (rowI o).sg = (rowI o).sg by rw [wrap_u64']; omega]
        refine LoadX.fx hbE (1803 + t * 65 + 7) rfl (by omega) (mR_gas h7) ?_; conv => whnf
        refine CondX.decI (fun hc1 => ?_) (fun hc1 => ?_) <;> conv => whnf
        · have hr1 : r.1 = 2 := by rw [hr0, if_pos (by omega)]
          refine fail_ok (s0 := s0) (l0 := l0) (st := 2) X hgs hS R (by omega) (by omega) ((hkF 2 hr1 (by omega)).map fun h' hh => ?_)
          conv => whnf
          exact RetX.same hh
        · refine LoadX.fx hbE (1803 + t * 65 + 7) rfl (by omega) (mR_gas h7) ?_; conv => whnf
          rw [show IntKind.u64.wrap (rowI o).sg = (rowI o).sg by rw [wrap_u64']; omega, show IntKind.u64.wrap ((m.fr t).gas - (rowI o).sg) = (m.fr t).gas - (rowI o).sg by rw [wrap_u64']; omega]
          refine M.A.sto X.dj (eU_gas h7 _) rfl (by omega) fun hm2 A2 hd2 => ?_; conv => whnf
          have hr1 : r.1 = 0 := by rw [hr0, if_neg (by omega), if_neg (by omega), if_neg (by omega)]
          have hkT := hkT hr1
          rw [hn0, hc] at hkT
          refine RetX.same (hkT hm2 hb m.bufS m.base stale (X.pay A2 hd2 (by omega) ?_))
          have e : growI (mems t) 0 = mems t := by unfold growI; rw [if_neg (by omega)]
          rw [e]
          exact X.mm.set (m' := { m with fr := updN m.fr t { m.fr t with gas := (m.fr t).gas - (rowI o).sg }, bufS := m.bufS, base := m.base }) ⟨hmb.mtop, hmb.b0, hmb.b1, hmb.buf, hmb.few⟩ fun i _ => rfl
      | false =>
        conv => whnf
        repeat (first | (refine CondX.tt ?_; conv => whnf) | (refine CondX.ff ?_; conv => whnf))
        have hre0 := (reachI_bd (o := o) (A := fun i => (A i : Int)) hA0 q).1
        refine reaches_ok M hMe hA fun x bb hb1 hb2 => ?_
        cases bb with
        | false =>
          conv => whnf
          repeat (first | (refine CondX.tt ?_; conv => whnf) | (refine CondX.ff ?_; conv => whnf))
          have hov : (m.fr t).gas < cost := Int.not_le.1 fun hh => by
            have h9 := needI_ok (w := w) (self := (m.fr t).self) (o := o) (gas := (m.fr t).gas) hA0 (Int.natCast_nonneg _) hre0 hpot (by rw [hcost]; exact hh)
            have h8 := hb2 rfl
            have h6 := h9.2.1
            unfold needI at h6
            omega
          have hr1 : r.1 = 2 := by rw [hr0, if_pos hov]
          refine fail_ok (s0 := s0) (l0 := l0) (st := 2) X hgs hS R (by omega) (by omega) ((hkF 2 hr1 (by omega)).map fun h' hh => ?_)
          conv => whnf
          exact RetX.same hh
        | true =>
          obtain ⟨hre, hxn⟩ := hb1 rfl
          have hnd : 0 ≤ x ∧ x ≤ 22415 := by rw [hxn]; unfold needI; omega
          obtain ⟨nd, rfl⟩ : ∃ nd : Nat, x = nd := ⟨x.toNat, by omega⟩
          conv => whnf
          repeat (first | (refine CondX.tt ?_; conv => whnf) | (refine CondX.ff ?_; conv => whnf))
          refine alen_ok hbE hmb (Ext.jr X.dj) h7 ?_; conv => whnf
          refine Ob.mk (by decide) ?_; conv => whnf
          rw [show IntKind.u32.wrap (Int.tdiv ((mems t).length : Int) 32) = (((mems t).length / 32 : Nat) : Int) by rw [Int.tdiv_eq_ediv_of_nonneg (by omega), wrap_u32]; omega, show IntKind.u64.wrap (((mems t).length / 32 : Nat) : Int) = (((mems t).length / 32 : Nat) : Int) by rw [wrap_u64']; omega]
          obtain ⟨hv, ehv⟩ : ∃ hv : Nat, (mems t).length / 32 = hv := ⟨_, rfl⟩
          have hmc := hpot
          rw [ehv] at hmc ⊢
          have hv22 := memCost_le (x := (hv : Int)) (by omega) (by omega)
          refine dynamic_ok h0 h1 hkn M hMe hA hre fun dx edx dx0 dx1 => ?_; conv => whnf
          rw [show IntKind.u64.wrap (rowI o).sg = (rowI o).sg by rw [wrap_u64']; omega, show IntKind.u64.wrap ((rowI o).sg + dx) = (rowI o).sg + dx by rw [wrap_u64']; omega]
          have ecost : cost = (rowI o).sg + dx + (if (nd : Int) ≤ hv then 0 else lessI (memCost nd) (memCost hv)) := by rw [← hcost, edx, hxn, ← ehv]; rfl
          have mc1 := memCost_nonneg (x := (nd : Int)) (by omega)
          have mc2 := memCost_nonneg (x := (hv : Int)) (by omega)
          refine CondX.decI (fun hgr => ?_) (fun hgr => ?_) <;> conv => whnf
          · refine memCostE_ok (wd := nd) (by omega) ?_; conv => whnf
            refine memCostE_ok (wd := hv) (by omega) ?_; conv => whnf
            have mcm := memCost_mono (x := (hv : Int)) (y := (nd : Int)) (by omega) (by omega)
            have mcb := memCost_bd2 (x := (nd : Int)) (by omega) (by omega)
            have elm : lessI (memCost nd) (memCost hv) = memCost nd - memCost hv := by unfold lessI; rw [if_neg (by omega)]
            rw [if_neg (by omega), elm] at ecost
            rw [show IntKind.u64.wrap (memCost nd - memCost hv) = memCost nd - memCost hv by rw [wrap_u64']; omega, show IntKind.u64.wrap ((rowI o).sg + dx + (memCost nd - memCost hv)) = cost by rw [wrap_u64']; omega]
            refine LoadX.fx hbE (1803 + t * 65 + 7) rfl (by omega) (mR_gas h7) ?_; conv => whnf
            refine CondX.decI (fun hov => ?_) (fun hov => ?_) <;> conv => whnf
            · have hr1 : r.1 = 2 := by rw [hr0, if_pos (by omega)]
              repeat (first | (refine CondX.tt ?_; conv => whnf) | (refine CondX.ff ?_; conv => whnf))
              refine fail_ok (s0 := s0) (l0 := l0) (st := 2) X hgs hS R (by omega) (by omega) ((hkF 2 hr1 (by omega)).map fun h' hh => ?_)
              conv => whnf
              exact RetX.same hh
            · have hr0 : r = _ := hr0.trans (if_neg (by omega))
              repeat (first | (refine CondX.tt ?_; conv => whnf) | (refine CondX.ff ?_; conv => whnf))
              refine CondX.eqF (by omega) ?_; conv => whnf
              repeat (first | (refine CondX.tt ?_; conv => whnf) | (refine CondX.ff ?_; conv => whnf))
              refine CondX.eqF (by omega) ?_; conv => whnf
              repeat (first | (refine CondX.tt ?_; conv => whnf) | (refine CondX.ff ?_; conv => whnf))
              refine CondX.eqF (by omega) ?_; conv => whnf
              repeat (first | (refine CondX.tt ?_; conv => whnf) | (refine CondX.ff ?_; conv => whnf))
              have hr1 : r.1 = 0 := by rw [hr0, if_neg (by omega), if_neg (by omega)]
              refine LoadX.fx hbE (1803 + t * 65 + 7) rfl (by omega) (mR_gas h7) ?_; conv => whnf
              rw [show IntKind.u64.wrap ((m.fr t).gas - cost) = (m.fr t).gas - cost by rw [wrap_u64']; omega]
              refine M.A.sto X.dj (eU_gas h7 _) rfl (by omega) fun hm2 A2 hd2 => ?_; conv => whnf
              have hkT := hkT hr1
              have hnn : (needI o fun i => (A i : Int)).toNat = nd := by rw [← hxn]; rfl
              rw [hnn] at hkT
              refine CondX.dT hgr ?_; conv => whnf
              repeat (first | (refine CondX.tt ?_; conv => whnf) | (refine CondX.ff ?_; conv => whnf))
              rw [show IntKind.u32.wrap ((nd : Nat) : Int) = (nd : Int) by rw [wrap_u32]; omega]
              have hmb2 : MBf hb { m with fr := updN m.fr t { m.fr t with gas := (m.fr t).gas - cost } } t (lowN mems t) (mems t) stale := ⟨hmb.mtop, hmb.b0, hmb.b1, hmb.buf, hmb.few⟩
              have X2 := X.pay (s := m.bufS) (b := m.base) (mem' := mems t) A2 hd2 (by omega) (X.mm.set (m' := { m with fr := updN m.fr t { m.fr t with gas := (m.fr t).gas - cost }, bufS := m.bufS, base := m.base }) ⟨hmb.mtop, hmb.b0, hmb.b1, hmb.buf, hmb.few⟩ fun i _ => rfl)
              refine agrow_ok (wd := nd) X2.M hmb2 hd2 (by omega) (by omega) hlow fun sg hm3 hb3 stale3 M3 hd3 B3 => ?_; conv => whnf
              repeat (first | (refine CondX.tt ?_; conv => whnf) | (refine CondX.ff ?_; conv => whnf))
              have e : growI (mems t) nd = mems t ++ List.replicate (32 * nd - (mems t).length) 0 := by unfold growI; rw [if_pos (by omega)]
              unfold PaK at hkT
              rw [e] at hkT
              exact RetX.same (hkT hm3 hb3 sg _ stale3 (X.pay M3.A hd3 (by omega) (X.mm.set B3 fun i hi => by show updN m.base (t + 1) _ i = _; unfold updN; rw [if_neg (by omega)])))
          · rw [if_pos (by omega)] at ecost
            rw [show (rowI o).sg + dx = cost by omega]
            refine LoadX.fx hbE (1803 + t * 65 + 7) rfl (by omega) (mR_gas h7) ?_; conv => whnf
            refine CondX.decI (fun hov => ?_) (fun hov => ?_) <;> conv => whnf
            · have hr1 : r.1 = 2 := by rw [hr0, if_pos (by omega)]
              repeat (first | (refine CondX.tt ?_; conv => whnf) | (refine CondX.ff ?_; conv => whnf))
              refine fail_ok (s0 := s0) (l0 := l0) (st := 2) X hgs hS R (by omega) (by omega) ((hkF 2 hr1 (by omega)).map fun h' hh => ?_)
              conv => whnf
              exact RetX.same hh
            · have hr0 : r = _ := hr0.trans (if_neg (by omega))
              repeat (first | (refine CondX.tt ?_; conv => whnf) | (refine CondX.ff ?_; conv => whnf))
              refine CondX.eqF (by omega) ?_; conv => whnf
              repeat (first | (refine CondX.tt ?_; conv => whnf) | (refine CondX.ff ?_; conv => whnf))
              refine CondX.eqF (by omega) ?_; conv => whnf
              repeat (first | (refine CondX.tt ?_; conv => whnf) | (refine CondX.ff ?_; conv => whnf))
              refine CondX.eqF (by omega) ?_; conv => whnf
              repeat (first | (refine CondX.tt ?_; conv => whnf) | (refine CondX.ff ?_; conv => whnf))
              have hr1 : r.1 = 0 := by rw [hr0, if_neg (by omega), if_neg (by omega)]
              refine LoadX.fx hbE (1803 + t * 65 + 7) rfl (by omega) (mR_gas h7) ?_; conv => whnf
              rw [show IntKind.u64.wrap ((m.fr t).gas - cost) = (m.fr t).gas - cost by rw [wrap_u64']; omega]
              refine M.A.sto X.dj (eU_gas h7 _) rfl (by omega) fun hm2 A2 hd2 => ?_; conv => whnf
              have hkT := hkT hr1
              have hnn : (needI o fun i => (A i : Int)).toNat = nd := by rw [← hxn]; rfl
              rw [hnn] at hkT
              refine CondX.dF hgr ?_; conv => whnf
              repeat (first | (refine CondX.tt ?_; conv => whnf) | (refine CondX.ff ?_; conv => whnf))
              refine RetX.same (hkT hm2 hb m.bufS m.base stale (X.pay A2 hd2 (by omega) ?_))
              have e : growI (mems t) nd = mems t := by unfold growI; rw [if_neg (by omega)]
              rw [e]
              exact X.mm.set (m' := { m with fr := updN m.fr t { m.fr t with gas := (m.fr t).gas - cost }, bufS := m.bufS, base := m.base }) ⟨hmb.mtop, hmb.b0, hmb.b1, hmb.buf, hmb.few⟩ fun i _ => rfl
end
end Go.Proofs.YgvalwGreat.X
