import Derived.Test.YgvalwGreatF59
set_option linter.unusedVariables false
set_option linter.unusedSimpArgs false
namespace Go.Proofs.YgvalwGreat.X
open Go

section
variable {hi hm : Hp} {K : Value → Hp → Prop} {c : Nat} {tc : TypeId} {s : YS} {base frs : List (YF × List Int)} {f : YF} {m ret l : List Int} {left st : Int} {so : Sl} {N : Nat}
/-- The world turns, its logs do not. -/
theorem StOK.setW (S : StOK hi hm c tc s frs ret left) {w' : YW} (h1 : w'.sL = s.w.sL) (h2 : w'.logs = s.w.logs) (hw : ∀ hl', Arr hl' w'.sL 22 (w'.logs.map logCells) → w'.ok hi hl') :
    StOK hi (hput hm c (sCells { s with w := w' }, tc)) c tc { s with w := w' } frs ret left := by
  have hd := S.dj.put (y := (sCells { s with w := w' }, tc)) S.chain
  have hlg : ArrF hi w'.sL 22 (w'.logs.map logCells) ∨ (ArrM (hput hm c (sCells { s with w := w' }, tc)) w'.sL 22 (w'.logs.map logCells) ∧ ∀ lb, at0 w'.sL lb → lb ≠ c ∧ (∀ fb, at0 s.frS fb → lb ≠ fb) ∧ ∀ q ∈ frs, ¬ at0 q.1.memS lb) := by
    rw [h1, h2]
    exact S.lgK (Ext.refl _) fun b y hb hbc _ _ => by rw [hput_ne hbc]; exact hb
  refine ⟨hd, hput_same .., hw _ (lg_arr hd hlg), S.frA.mono fun fb x hs hb => ?_, S.frC, S.ok, fun q hq => (S.mem q hq).keep fun mb x hmb hx => ?_, S.memC, S.dis, hlg, S.ret, S.left⟩
  · rw [hput_ne (S.frC fb hs).symm]; exact hb
  · rw [hput_ne (S.memC q hq mb hmb).1]; exact hx

theorem Dj.unput {hi hm : Hp} {c : Nat} {x y} (hd : Dj hi (hput hm c x)) (_ : hm c = some y) : Dj hi hm := fun b => by
  by_cases hb : b = c
  · subst hb; exact .inl (hd.lft (hput_same ..))
  · have := hd b
    rwa [hput_ne hb] at this
/-- An address is made warm, or is marked to go. -/
def warmW (w : AW) (a : List Int) : AW := { w with warmA := fun b => w.warmA b || decide (b = a) }
def goneW (w : AW) (a : List Int) : AW := if w.made a = true then { w with gone := fun b => w.gone b || decide (b = a) } else w
def destroyA (a : AS) (base : List AF) (f : AF) (a0 : Int) : AS := leaveA { a with w := goneW (warmW a.w (addrI a0)) f.self } base f 0 []

theorem leaveA_w {a a' : AS} (h : a'.w = a.w) (h1 : a'.phase = a.phase) (h2 : a'.status = a.status) (h3 : a'.left = a.left) (base : List AF) (f : AF) (st : Int) (l : List Int) : leaveA a base f st l = leaveA a' base f st l := by
  unfold leaveA; rw [h, h1, h2, h3]




set_option maxRecDepth 100000 in
set_option maxHeartbeats 4000000 in
theorem destroys_ok (S : StOK hi hm c tc s (base ++ [(f, m)]) ret left) (hN : StN N s (base ++ [(f, m)])) (hN30 : N + 1 < 2 ^ 30) (hbn : base.length ≤ 100) (hgr : f.gas < big) (hself : isB f.self) (hpar : parOk base f.gas) {fb : Nat} (hfb : at0 s.frS fb) (hbal : (getA s.w.acc f.self).bal = 0)
    (hk : StK hi c tc s (N + 1 + 1) (destroyA (absS s (base ++ [(f, m)]) ret left) (base.map absF) (absF (f, m)) (argI f.st 0)) K) :
    CallX Hval.prog 58 [.pointer (some ⟨c, 0, none⟩), .pointer (some ⟨fb, (preC base).length, none⟩)] (join hi hm) K := by
  refine CallX.of_xf T_ok Hval.func58 rfl (by kernel_rfl) (Nat.le_of_ble_eq_true rfl) ?_; conv => whnf
  obtain ⟨fb', pad, tf, hfb', hb, hn1, hn2, hn3⟩ := S.top
  have : some (⟨fb', 0, none⟩ : Addr) = some ⟨fb, 0, none⟩ := hfb'.symm.trans hfb
  cases this
  have hok := S.okT
  have hd := S.dj
  have hc := S.chain
  have hcf : c ≠ fb := S.frC fb hfb
  have hwr := hN.now.room S.now (by omega)
  have hsr : f.stS.2.1 < 2 ^ 30 := by have := hok.n; have := hok.stR; omega
  refine arg_ok (join_hm hd hb) (hok.st.ext (Ext.jl _ _)) hsr 0 (by decide) ?_; conv => whnf
  refine addrOf_ok ((argP_ok hok.stE 0).ext (Ext.jl _ _)) ?_; conv => whnf
  have eT : addrI (argP f.st 0).2 = addrI (argI f.st 0) := rfl
  rw [eT]
  have tlen := addrI_length (argI f.st 0)
  refine BoxX.j hd fun m4 hin4 hmn4 hd4' he4' => ?_; conv => whnf
  refine Ob.mk ⟨by rw [List.size_toArray, bcells_length, tlen]; rfl, ones_bcells _⟩ ?_; conv => whnf
  refine StoreX.j (by rw [List.toList_toArray, bcells_length, tlen]; decide) ?_; conv => whnf
  rw [setSeg_all (by rw [List.toList_toArray, bcells_length, tlen]; rfl)]
  have hd4 : Dj (hput hi m4 (bcells (addrI (argI f.st 0)), 31)) hm := hd4'.hp
  have e4 : Ext hi (hput hi m4 (bcells (addrI (argI f.st 0)), 31)) := Ext.new hin4
  have h4 : hput hi m4 (bcells (addrI (argI f.st 0)), 31) m4 = some (bcells (addrI (argI f.st 0)), 31) := hput_same ..
  clear hd4' he4'
  generalize hput hi m4 (bcells (addrI (argI f.st 0)), 31) = hiA at *
  have SA := S.ext e4 hd4
  refine DrawX.go T_ok hM Hval.func58 (tb := dr58) rfl (by kernel_rfl) ?_; conv => whnf
  refine LoadX.arr (l := addrI (argI f.st 0)) (t := 31) (join_l h4) tlen ?_; conv => whnf
  refine warm_ok (o := 0) hd4 hc (show (sCells s)[0 + 1]? = some (sl s.w.sWA) from rfl) SA.now.wa tlen hwr.wa fun hi5 sWA az5 e5 hd5 gWA hWA hWl => ?_; conv => whnf
  have hset : setSeg (sCells s) (0 + 1) [sl sWA] = sCells { s with w := { s.w with sWA := sWA, wa := az5 } } := (sCells_set (by decide)).trans rfl
  rw [hset] at hd5 ⊢
  have e45 := e4.trans e5
  have S5 : StOK hi5 (hput hm c (sCells { s with w := { s.w with sWA := sWA, wa := az5 } }, tc)) c tc { s with w := { s.w with sWA := sWA, wa := az5 } } (base ++ [(f, m)]) ret left := by
    have b := (S.now.up e45)
    exact (S.ext e45 (hd5.unput hc)).setW rfl rfl fun hl' hh => ⟨b.acc, gWA, b.ws, b.ref, hh, b.logsE, b.temps, b.made, b.gone⟩
  have hb5 : hput hm c (sCells { s with w := { s.w with sWA := sWA, wa := az5 } }, tc) fb = some (preC base ++ (fCells f ++ pad), tf) := by rw [hput_ne hcf.symm]; exact hb
  have hself5 := ldV_self (join_hm hd5 hb5) hok.self hok.caller (o := (preC base).length + 12) rfl
  have h45 := e5 _ _ h4
  have hw5 := S5.now
  have hszW : ({ s.w with sWA := sWA, wa := az5 } : YW).sz (N + 1) := by
    have a := hN.now.mono (Nat.le_succ N)
    exact ⟨a.acc, a.each, Nat.le_trans hWl (Nat.succ_le_succ hN.now.wa), a.ws, a.logs, a.temps, a.made, a.gone⟩
  have hW5 : absW { s.w with sWA := sWA, wa := az5 } = warmW (absW s.w) (addrI (argI f.st 0)) := by
    unfold absW warmW
    congr 1
    funext b
    exact mem_with hWA b
  refine DrawX.go T_ok hM Hval.func58 (tb := dr58) rfl (by kernel_rfl) ?_; conv => whnf
  refine LoadX.arr (l := addrI (argI f.st 0)) (t := 31) (join_l h45) tlen ?_; conv => whnf
  refine LoadX.of _ hself5 ?_; conv => whnf
  refine Ob.mk ⟨by simp [bcells, tlen], by simp [bcells, hok.self], by simpa using intCells_bcells (addrI (argI f.st 0)), by simpa using intCells_bcells f.self⟩ ?_; conv => whnf
  refine CondX.notI (fun hne => ?_) (fun hne => ?_) <;> conv => whnf
  · refine DrawX.go T_ok hM Hval.func58 (tb := dr58) rfl (by kernel_rfl) ?_; conv => whnf
    refine LoadX.of _ hself5 ?_; conv => whnf
    refine LoadX.arr (l := addrI (argI f.st 0)) (t := 31) (join_l h45) tlen ?_; conv => whnf
    refine LoadX.of _ hself5 ?_; conv => whnf
    refine account_ok (xs := s.w.acc) (join_hm hd5 (hput_same ..)) (show (sCells { s with w := { s.w with sWA := sWA, wa := az5 } })[0]? = some (sl s.w.sA) from rfl) (hw5.acc.arr.ext (Ext.jl _ _)) (fun x hx => (hw5.acc.each x hx).addr) hok.self (by have := hwr.acc; omega) ?_; conv => whnf
    have hx := getA_ok hw5.acc.each hok.self
    generalize hxe : getA s.w.acc f.self = x at *
    have hld4 : ldV true 20 (join hi5 (hput hm c (sCells { s with w := { s.w with sWA := sWA, wa := az5 } }, tc))) m4 0 = some (.agg (bcells (addrI (argI f.st 0))).toArray) := by
      obtain ⟨v, q1, q2⟩ := (LoadX.arr (KK := fun v => v = .agg (bcells (addrI (argI f.st 0))).toArray) (join_l h45 (hF := hput hm c (sCells { s with w := { s.w with sWA := sWA, wa := az5 } }, tc))) tlen rfl).run
      rw [q1, q2]
    refine Ob.mk (by first | exact hld4 | exact hself5) ?_; conv => whnf
    refine Ob.mk (by first | exact hself5 | exact hld4) ?_; conv => whnf
    erw [acCells_get hx.addr 1]; conv => whnf
    refine move0_ok (xs := s.w.acc) (join_hm hd5 (hput_same ..)) (show (sCells { s with w := { s.w with sWA := sWA, wa := az5 } })[0]? = some (sl s.w.sA) from rfl) (hw5.acc.ext (Ext.jl _ _)) hok.self tlen (by have := hwr.acc; omega) (sv := x.bs) (by have := hx.bal.ext (Ext.jl hi5 (hput hm c (sCells { s with w := { s.w with sWA := sWA, wa := az5 } }, tc))); rw [hbal] at this; exact this) ?_; conv => whnf
    refine DrawX.go T_ok hM Hval.func58 (tb := dr58) rfl (by kernel_rfl) ?_; conv => whnf
    refine LoadX.blk (join_hm hd5 (hput_same ..)) (sl s.w.sM) rfl ?_; conv => whnf
    refine LoadX.of _ hself5 ?_; conv => whnf
    refine listed_ok (hw5.made.ext (Ext.jl _ _)) hok.self (by have := hwr.made; omega) ?_; conv => whnf
    refine CondX.decI (fun hmd => ?_) (fun hmd => ?_) <;> conv => whnf
    · refine DrawX.go T_ok hM Hval.func58 (tb := dr58) rfl (by kernel_rfl) ?_; conv => whnf
      refine LoadX.blk (join_hm hd5 (hput_same ..)) (sl s.w.sG) rfl ?_; conv => whnf
      refine LoadX.of _ hself5 ?_; conv => whnf
      refine CallX.fj hd5 (withAddr_ok hw5.gone hok.self hwr.gone fun sG az6 hi6 e6 gG hG hGl hd6 => ?_); conv => whnf
      refine StoreX.st (s := { s with w := { s.w with sWA := sWA, wa := az5 } }) hd6 (hput_same ..) 7 (by decide) { s with w := { s.w with sWA := sWA, wa := az5, sG := sG, gone := az6 } } rfl fun hd7 => ?_; conv => whnf
      have S7 : StOK hi6 (hput hm c (sCells { s with w := { s.w with sWA := sWA, wa := az5, sG := sG, gone := az6 } }, tc)) c tc { s with w := { s.w with sWA := sWA, wa := az5, sG := sG, gone := az6 } } (base ++ [(f, m)]) ret left := by
        have := (S5.ext e6 hd6).setW (w' := { s.w with sWA := sWA, wa := az5, sG := sG, gone := az6 }) rfl rfl fun hl' hh => by
          have b := hw5.up e6
          exact ⟨b.acc, b.wa, b.ws, b.ref, hh, b.logsE, b.temps, b.made, gG⟩
        rw [hput_hput] at this
        exact this
      rw [hput_hput]
      have eX := e45.trans e6
      have hszW' : ({ s.w with sWA := sWA, wa := az5, sG := sG, gone := az6 } : YW).sz (N + 1) := ⟨hszW.acc, hszW.each, hszW.wa, hszW.ws, hszW.logs, hszW.temps, hszW.made, Nat.le_trans hGl (Nat.succ_le_succ hN.now.gone)⟩
      have hW : absW { s.w with sWA := sWA, wa := az5, sG := sG, gone := az6 } = goneW (warmW (absW s.w) (addrI (argI f.st 0))) f.self := by
        rw [← hW5]
        unfold goneW
        refine Eq.trans ?_ (if_pos (show (absW ({ s.w with sWA := sWA, wa := az5 } : YW)).made f.self = true from decide_eq_true hmd)).symm
        unfold absW
        congr 1
        funext b
        exact mem_with hG b
      have hszW := hszW'
      have hN2 : StN (N + 1) { s with w := ({ s.w with sWA := sWA, wa := az5, sG := sG, gone := az6 } : YW) } (base ++ [(f, m)]) := ⟨hszW, fun q hq => (hN.saved q hq).mono (Nat.le_succ N)⟩
      refine leave_ok (st := 0) (so := nilS) (l := []) S7 hN2 hN30 hbn hgr (by omega) (by omega) (Byt_nil _) hself hpar ?_
      intro hi' hm' s' frs' ret' left' q1 q2 q3 q4 q5
      conv => whnf
      refine RetX.same (hk hi' hm' s' frs' ret' left' (eX.trans q1) q2 q3 ?_ (fixS.trans (b := { s with w := ({ s.w with sWA := sWA, wa := az5, sG := sG, gone := az6 } : YW) }) ⟨rfl, rfl, rfl, rfl, rfl, rfl, rfl, rfl⟩ q5))
      rw [q4]
      unfold destroyA
      have eW : absW ({ s.w with sWA := sWA, wa := az5, sG := sG, gone := az6 } : YW) = goneW (warmW (absW s.w) (addrI (argI f.st 0))) f.self := hW
      unfold absS
      dsimp only
      rw [eW]
      rfl
    · have hW : absW { s.w with sWA := sWA, wa := az5 } = goneW (warmW (absW s.w) (addrI (argI f.st 0))) f.self := by
        rw [← hW5]
        unfold goneW
        exact (if_neg (show ¬ ((absW ({ s.w with sWA := sWA, wa := az5 } : YW)).made f.self = true) from fun h => hmd (of_decide_eq_true h))).symm
      have hN2 : StN (N + 1) { s with w := ({ s.w with sWA := sWA, wa := az5 } : YW) } (base ++ [(f, m)]) := ⟨hszW, fun q hq => (hN.saved q hq).mono (Nat.le_succ N)⟩
      refine leave_ok (st := 0) (so := nilS) (l := []) S5 hN2 hN30 hbn hgr (by omega) (by omega) (Byt_nil _) hself hpar ?_
      intro hi' hm' s' frs' ret' left' q1 q2 q3 q4 q5
      conv => whnf
      refine RetX.same (hk hi' hm' s' frs' ret' left' (e45.trans q1) q2 q3 ?_ (fixS.trans (b := { s with w := ({ s.w with sWA := sWA, wa := az5 } : YW) }) ⟨rfl, rfl, rfl, rfl, rfl, rfl, rfl, rfl⟩ q5))
      rw [q4]
      unfold destroyA
      have eW : absW ({ s.w with sWA := sWA, wa := az5 } : YW) = goneW (warmW (absW s.w) (addrI (argI f.st 0))) f.self := hW
      unfold absS
      dsimp only
      rw [eW]
      rfl
  · refine DrawX.go T_ok hM Hval.func58 (tb := dr58) rfl (by kernel_rfl) ?_; conv => whnf
    refine LoadX.blk (join_hm hd5 (hput_same ..)) (sl s.w.sM) rfl ?_; conv => whnf
    refine LoadX.of _ hself5 ?_; conv => whnf
    refine listed_ok (hw5.made.ext (Ext.jl _ _)) hok.self (by have := hwr.made; omega) ?_; conv => whnf
    refine CondX.decI (fun hmd => ?_) (fun hmd => ?_) <;> conv => whnf
    · refine DrawX.go T_ok hM Hval.func58 (tb := dr58) rfl (by kernel_rfl) ?_; conv => whnf
      refine LoadX.blk (join_hm hd5 (hput_same ..)) (sl s.w.sG) rfl ?_; conv => whnf
      refine LoadX.of _ hself5 ?_; conv => whnf
      refine CallX.fj hd5 (withAddr_ok hw5.gone hok.self hwr.gone fun sG az6 hi6 e6 gG hG hGl hd6 => ?_); conv => whnf
      refine StoreX.st (s := { s with w := { s.w with sWA := sWA, wa := az5 } }) hd6 (hput_same ..) 7 (by decide) { s with w := { s.w with sWA := sWA, wa := az5, sG := sG, gone := az6 } } rfl fun hd7 => ?_; conv => whnf
      have S7 : StOK hi6 (hput hm c (sCells { s with w := { s.w with sWA := sWA, wa := az5, sG := sG, gone := az6 } }, tc)) c tc { s with w := { s.w with sWA := sWA, wa := az5, sG := sG, gone := az6 } } (base ++ [(f, m)]) ret left := by
        have := (S5.ext e6 hd6).setW (w' := { s.w with sWA := sWA, wa := az5, sG := sG, gone := az6 }) rfl rfl fun hl' hh => by
          have b := hw5.up e6
          exact ⟨b.acc, b.wa, b.ws, b.ref, hh, b.logsE, b.temps, b.made, gG⟩
        rw [hput_hput] at this
        exact this
      rw [hput_hput]
      have eX := e45.trans e6
      have hszW' : ({ s.w with sWA := sWA, wa := az5, sG := sG, gone := az6 } : YW).sz (N + 1) := ⟨hszW.acc, hszW.each, hszW.wa, hszW.ws, hszW.logs, hszW.temps, hszW.made, Nat.le_trans hGl (Nat.succ_le_succ hN.now.gone)⟩
      have hW : absW { s.w with sWA := sWA, wa := az5, sG := sG, gone := az6 } = goneW (warmW (absW s.w) (addrI (argI f.st 0))) f.self := by
        rw [← hW5]
        unfold goneW
        refine Eq.trans ?_ (if_pos (show (absW ({ s.w with sWA := sWA, wa := az5 } : YW)).made f.self = true from decide_eq_true hmd)).symm
        unfold absW
        congr 1
        funext b
        exact mem_with hG b
      have hszW := hszW'
      have hN2 : StN (N + 1) { s with w := ({ s.w with sWA := sWA, wa := az5, sG := sG, gone := az6 } : YW) } (base ++ [(f, m)]) := ⟨hszW, fun q hq => (hN.saved q hq).mono (Nat.le_succ N)⟩
      refine leave_ok (st := 0) (so := nilS) (l := []) S7 hN2 hN30 hbn hgr (by omega) (by omega) (Byt_nil _) hself hpar ?_
      intro hi' hm' s' frs' ret' left' q1 q2 q3 q4 q5
      conv => whnf
      refine RetX.same (hk hi' hm' s' frs' ret' left' (eX.trans q1) q2 q3 ?_ (fixS.trans (b := { s with w := ({ s.w with sWA := sWA, wa := az5, sG := sG, gone := az6 } : YW) }) ⟨rfl, rfl, rfl, rfl, rfl, rfl, rfl, rfl⟩ q5))
      rw [q4]
      unfold destroyA
      have eW : absW ({ s.w with sWA := sWA, wa := az5, sG := sG, gone := az6 } : YW) = goneW (warmW (absW s.w) (addrI (argI f.st 0))) f.self := hW
      unfold absS
      dsimp only
      rw [eW]
      rfl
    · have hW : absW { s.w with sWA := sWA, wa := az5 } = goneW (warmW (absW s.w) (addrI (argI f.st 0))) f.self := by
        rw [← hW5]
        unfold goneW
        exact (if_neg (show ¬ ((absW ({ s.w with sWA := sWA, wa := az5 } : YW)).made f.self = true) from fun h => hmd (of_decide_eq_true h))).symm
      have hN2 : StN (N + 1) { s with w := ({ s.w with sWA := sWA, wa := az5 } : YW) } (base ++ [(f, m)]) := ⟨hszW, fun q hq => (hN.saved q hq).mono (Nat.le_succ N)⟩
      refine leave_ok (st := 0) (so := nilS) (l := []) S5 hN2 hN30 hbn hgr (by omega) (by omega) (Byt_nil _) hself hpar ?_
      intro hi' hm' s' frs' ret' left' q1 q2 q3 q4 q5
      conv => whnf
      refine RetX.same (hk hi' hm' s' frs' ret' left' (e45.trans q1) q2 q3 ?_ (fixS.trans (b := { s with w := ({ s.w with sWA := sWA, wa := az5 } : YW) }) ⟨rfl, rfl, rfl, rfl, rfl, rfl, rfl, rfl⟩ q5))
      rw [q4]
      unfold destroyA
      have eW : absW ({ s.w with sWA := sWA, wa := az5 } : YW) = goneW (warmW (absW s.w) (addrI (argI f.st 0))) f.self := hW
      unfold absS
      dsimp only
      rw [eW]
      rfl
end
end Go.Proofs.YgvalwGreat.X
