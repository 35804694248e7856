import Derived.Test.YgvalwGreatG14
set_option linter.unusedVariables false
set_option linter.unusedSimpArgs false
namespace Go.Proofs.YgvalwGreat.X
open Go

def cpM (mem : List Int) (d : Int) (src : List Int) (off n : Int) : List Int := if n = 0 then mem else writeI mem d (cutN src off.toNat n.toNat)
/-- What an instruction that gives nothing does to memory and to the world. -/
def effM (w : AW) (f : AF) (ret : List Int) (o : Int) (A : Nat → Int) : List Int :=
  if o = 55 then cpM f.mem (A 0) f.input (A 1) (A 2)
  else if o = 57 then cpM f.mem (A 0) f.code (A 1) (A 2)
  else if o = 62 then cpM f.mem (A 0) ret (A 1) (A 2)
  else if o = 94 then cpM f.mem (A 0) f.mem (A 1) (A 2)
  else if o = 60 then cpM f.mem (A 1) (w.acct (addrI (A 0))).code (A 2) (A 3)
  else if o = 82 then writeI f.mem (A 0) (be 32 (A 1))
  else if o = 83 then writeI f.mem (A 0) ((be 32 (A 1)).drop 31)
  else f.mem
def effW (w : AW) (self : List Int) (o : Int) (A : Nat → Int) : AW :=
  if o = 60 then warmW w (addrI (A 0)) else if o = 85 then storesW w self (A 0) (A 1) else if o = 93 then tempW w self (A 0) (A 1) else if 160 ≤ o ∧ o ≤ 164 then { w with nlogs := w.nlogs + 1 } else w
section
variable {hi hm : Hp} {K : Value → Hp → Prop} {c : Nat} {tc : TypeId} {s : YS} {base frs : List (YF × List Int)} {f : YF} {m ret : List Int} {left : Int} {N : Nat} {sa : Sl} {xs : List (Sl × Int)}

theorem bytesOf_j (hd : Dj hi hm) {s1 : Sl} {l : List Int} (hs : BytS (join hi hm) s1 l) (hk : ∀ s' hi', Ext hi hi' → Dj hi' hm → BytS hi' s' l → K (sl s') (join hi' hm)) : CallX Hval.prog 41 [sl s1] (join hi hm) K := by
  refine bytesOf_ok hs (fun h1 h2 => ?_) fun m2 hm2 => ?_
  · exact hk nilS hi (Ext.refl _) hd (by rw [h2]; exact Byt_nil _)
  · obtain ⟨hin, hmn⟩ := join_none (hm2.none (Nat.le_refl _))
    rw [join_put]
    have := hs.len; have := hs.room
    exact hk (some ⟨m2, 0, none⟩, s1.2.1, s1.2.1) _ (Ext.new hin) (hd.hn hmn) (own_all hs.isB (by dsimp only; omega) (by omega))
theorem be_seg {x : Int} : seg (bcells (be 32 x)) 0 32 = bcells (be 32 x) := by
  have : (bcells (be 32 x)).length = 32 := by rw [bcells_length, be_length]
  rw [← this]; exact seg_full
theorem be_last {x : Int} : seg (bcells (be 32 x)) 31 1 = bcells ((be 32 x).drop 31) := by
  rw [bcells_seg, List.take_of_length_le (by rw [List.length_drop, be_length]; decide)]
set_option maxRecDepth 100000 in
set_option maxHeartbeats 4000000 in
theorem effect_55 (hlen : opdI xs 2 < 2 ^ 40) (S : StOK hi hm c tc s (base ++ [(f, m)]) ret left) (hN : StN N s (base ++ [(f, m)])) (hN30 : N + 3 < 2 ^ 30) (ha : Arr hi sa 1 (xs.map stCells)) (hxs : ∀ p ∈ xs, NtS hi p.1 p.2) (hr : sa.2.1 < 2 ^ 30) {fb : Nat} (hfb : at0 s.frS fb) (hW : ∀ p ∈ xs, p.2 < W)
    (hk : EK hi c tc s base f ret left N (effW (absW s.w) f.self 55 (opdI xs)) (effM (absW s.w) (absF (f, m)) ret 55 (opdI xs)) K) :
    CallX Hval.prog 136 [.pointer (some ⟨c, 0, none⟩), .pointer (some ⟨fb, (preC base).length, none⟩), .int .u8 55, sl sa] (join hi hm) K := by
  refine CallX.of_xf T_ok Hval.func136 rfl (by kernel_rfl) (Nat.le_of_ble_eq_true rfl) ?_; conv => whnf
  obtain ⟨fb', pad, tf, hfb', hb, hn1, hn2, hn3⟩ := S.top
  have : some (⟨fb', 0, none⟩ : Addr) = some ⟨fb, 0, none⟩ := hfb'.symm.trans hfb
  cases this
  have hok := S.okT
  have hd := S.dj
  have hc := S.chain
  have hcf : c ≠ fb := S.frC fb hfb
  have hwr := hN.now.room S.now (by omega)
  have hbj := join_hm hd hb
  have hcj := join_hm hd hc
  have oo : ∀ i, NtS hi (opdP xs i).1 (opdI xs i) := opdP_ok hxs
  refine operand_ok (ha.ext (Ext.jl _ _)) hr 0 (by decide) ?_; conv => whnf
  refine operand_ok (ha.ext (Ext.jl _ _)) hr 1 (by decide) ?_; conv => whnf
  refine operand_ok (ha.ext (Ext.jl _ _)) hr 2 (by decide) ?_; conv => whnf
  repeat (first | (refine CondX.tt ?_; conv => whnf) | (refine CondX.ff ?_; conv => whnf))
  refine LoadX.mid hbj 11 (by decide) rfl (v := sl f.inS) rfl ?_; conv => whnf
  refine copied_ok hd hb S.memT (oo 0) (hok.input.ext (Ext.jl _ _)) (oo 1) (oo 2) hlen fun hm' hd' hM hkeep => ?_; conv => whnf
  exact RetX.same (hk hi hm' s.w (Ext.refl _) (S.setMem hd' hM hkeep) (hN.now.mono (by omega)) rfl)
set_option maxRecDepth 100000 in
set_option maxHeartbeats 4000000 in
theorem effect_57 (hlen : opdI xs 2 < 2 ^ 40) (S : StOK hi hm c tc s (base ++ [(f, m)]) ret left) (hN : StN N s (base ++ [(f, m)])) (hN30 : N + 3 < 2 ^ 30) (ha : Arr hi sa 1 (xs.map stCells)) (hxs : ∀ p ∈ xs, NtS hi p.1 p.2) (hr : sa.2.1 < 2 ^ 30) {fb : Nat} (hfb : at0 s.frS fb) (hW : ∀ p ∈ xs, p.2 < W)
    (hk : EK hi c tc s base f ret left N (effW (absW s.w) f.self 57 (opdI xs)) (effM (absW s.w) (absF (f, m)) ret 57 (opdI xs)) K) :
    CallX Hval.prog 136 [.pointer (some ⟨c, 0, none⟩), .pointer (some ⟨fb, (preC base).length, none⟩), .int .u8 57, sl sa] (join hi hm) K := by
  refine CallX.of_xf T_ok Hval.func136 rfl (by kernel_rfl) (Nat.le_of_ble_eq_true rfl) ?_; conv => whnf
  obtain ⟨fb', pad, tf, hfb', hb, hn1, hn2, hn3⟩ := S.top
  have : some (⟨fb', 0, none⟩ : Addr) = some ⟨fb, 0, none⟩ := hfb'.symm.trans hfb
  cases this
  have hok := S.okT
  have hd := S.dj
  have hc := S.chain
  have hcf : c ≠ fb := S.frC fb hfb
  have hwr := hN.now.room S.now (by omega)
  have hbj := join_hm hd hb
  have hcj := join_hm hd hc
  have oo : ∀ i, NtS hi (opdP xs i).1 (opdI xs i) := opdP_ok hxs
  refine operand_ok (ha.ext (Ext.jl _ _)) hr 0 (by decide) ?_; conv => whnf
  refine operand_ok (ha.ext (Ext.jl _ _)) hr 1 (by decide) ?_; conv => whnf
  refine operand_ok (ha.ext (Ext.jl _ _)) hr 2 (by decide) ?_; conv => whnf
  repeat (first | (refine CondX.tt ?_; conv => whnf) | (refine CondX.ff ?_; conv => whnf))
  refine LoadX.mid hbj 10 (by decide) rfl (v := sl f.codeS) rfl ?_; conv => whnf
  refine copied_ok hd hb S.memT (oo 0) (hok.code.ext (Ext.jl _ _)) (oo 1) (oo 2) hlen fun hm' hd' hM hkeep => ?_; conv => whnf
  exact RetX.same (hk hi hm' s.w (Ext.refl _) (S.setMem hd' hM hkeep) (hN.now.mono (by omega)) rfl)
set_option maxRecDepth 100000 in
set_option maxHeartbeats 4000000 in
theorem effect_62 (hlen : opdI xs 2 < 2 ^ 40) (S : StOK hi hm c tc s (base ++ [(f, m)]) ret left) (hN : StN N s (base ++ [(f, m)])) (hN30 : N + 3 < 2 ^ 30) (ha : Arr hi sa 1 (xs.map stCells)) (hxs : ∀ p ∈ xs, NtS hi p.1 p.2) (hr : sa.2.1 < 2 ^ 30) {fb : Nat} (hfb : at0 s.frS fb) (hW : ∀ p ∈ xs, p.2 < W)
    (hk : EK hi c tc s base f ret left N (effW (absW s.w) f.self 62 (opdI xs)) (effM (absW s.w) (absF (f, m)) ret 62 (opdI xs)) K) :
    CallX Hval.prog 136 [.pointer (some ⟨c, 0, none⟩), .pointer (some ⟨fb, (preC base).length, none⟩), .int .u8 62, sl sa] (join hi hm) K := by
  refine CallX.of_xf T_ok Hval.func136 rfl (by kernel_rfl) (Nat.le_of_ble_eq_true rfl) ?_; conv => whnf
  obtain ⟨fb', pad, tf, hfb', hb, hn1, hn2, hn3⟩ := S.top
  have : some (⟨fb', 0, none⟩ : Addr) = some ⟨fb, 0, none⟩ := hfb'.symm.trans hfb
  cases this
  have hok := S.okT
  have hd := S.dj
  have hc := S.chain
  have hcf : c ≠ fb := S.frC fb hfb
  have hwr := hN.now.room S.now (by omega)
  have hbj := join_hm hd hb
  have hcj := join_hm hd hc
  have oo : ∀ i, NtS hi (opdP xs i).1 (opdI xs i) := opdP_ok hxs
  refine operand_ok (ha.ext (Ext.jl _ _)) hr 0 (by decide) ?_; conv => whnf
  refine operand_ok (ha.ext (Ext.jl _ _)) hr 1 (by decide) ?_; conv => whnf
  refine operand_ok (ha.ext (Ext.jl _ _)) hr 2 (by decide) ?_; conv => whnf
  repeat (first | (refine CondX.tt ?_; conv => whnf) | (refine CondX.ff ?_; conv => whnf))
  refine LoadX.blk hcj (sl s.retS) rfl ?_; conv => whnf
  refine copied_ok hd hb S.memT (oo 0) (S.ret.ext (Ext.jl _ _)) (oo 1) (oo 2) hlen fun hm' hd' hM hkeep => ?_; conv => whnf
  exact RetX.same (hk hi hm' s.w (Ext.refl _) (S.setMem hd' hM hkeep) (hN.now.mono (by omega)) rfl)
set_option maxRecDepth 100000 in
set_option maxHeartbeats 4000000 in
theorem effect_94 (hlen : opdI xs 2 < 2 ^ 40) (S : StOK hi hm c tc s (base ++ [(f, m)]) ret left) (hN : StN N s (base ++ [(f, m)])) (hN30 : N + 3 < 2 ^ 30) (ha : Arr hi sa 1 (xs.map stCells)) (hxs : ∀ p ∈ xs, NtS hi p.1 p.2) (hr : sa.2.1 < 2 ^ 30) {fb : Nat} (hfb : at0 s.frS fb) (hW : ∀ p ∈ xs, p.2 < W)
    (hk : EK hi c tc s base f ret left N (effW (absW s.w) f.self 94 (opdI xs)) (effM (absW s.w) (absF (f, m)) ret 94 (opdI xs)) K) :
    CallX Hval.prog 136 [.pointer (some ⟨c, 0, none⟩), .pointer (some ⟨fb, (preC base).length, none⟩), .int .u8 94, sl sa] (join hi hm) K := by
  refine CallX.of_xf T_ok Hval.func136 rfl (by kernel_rfl) (Nat.le_of_ble_eq_true rfl) ?_; conv => whnf
  obtain ⟨fb', pad, tf, hfb', hb, hn1, hn2, hn3⟩ := S.top
  have : some (⟨fb', 0, none⟩ : Addr) = some ⟨fb, 0, none⟩ := hfb'.symm.trans hfb
  cases this
  have hok := S.okT
  have hd := S.dj
  have hc := S.chain
  have hcf : c ≠ fb := S.frC fb hfb
  have hwr := hN.now.room S.now (by omega)
  have hbj := join_hm hd hb
  have hcj := join_hm hd hc
  have oo : ∀ i, NtS hi (opdP xs i).1 (opdI xs i) := opdP_ok hxs
  refine operand_ok (ha.ext (Ext.jl _ _)) hr 0 (by decide) ?_; conv => whnf
  refine operand_ok (ha.ext (Ext.jl _ _)) hr 1 (by decide) ?_; conv => whnf
  refine operand_ok (ha.ext (Ext.jl _ _)) hr 2 (by decide) ?_; conv => whnf
  repeat (first | (refine CondX.tt ?_; conv => whnf) | (refine CondX.ff ?_; conv => whnf))
  refine LoadX.mid hbj 9 (by decide) rfl (v := sl f.memS) rfl ?_; conv => whnf
  refine bytesOf_j hd (S.memT.byt hd) fun s1 hi1 e1 hd1 g1 => ?_; conv => whnf
  refine copied_ok hd1 hb S.memT ((oo 0).ext e1) (g1.ext (Ext.jl _ _)) ((oo 1).ext e1) ((oo 2).ext e1) hlen fun hm' hd' hM hkeep => ?_; conv => whnf
  exact RetX.same (hk hi1 hm' s.w e1 ((S.ext e1 hd1).setMem hd' hM hkeep) (hN.now.mono (by omega)) rfl)
set_option maxRecDepth 100000 in
set_option maxHeartbeats 4000000 in
theorem effect_60 (hlen : opdI xs 3 < 2 ^ 40) (S : StOK hi hm c tc s (base ++ [(f, m)]) ret left) (hN : StN N s (base ++ [(f, m)])) (hN30 : N + 3 < 2 ^ 30) (ha : Arr hi sa 1 (xs.map stCells)) (hxs : ∀ p ∈ xs, NtS hi p.1 p.2) (hr : sa.2.1 < 2 ^ 30) {fb : Nat} (hfb : at0 s.frS fb) (hW : ∀ p ∈ xs, p.2 < W)
    (hk : EK hi c tc s base f ret left N (effW (absW s.w) f.self 60 (opdI xs)) (effM (absW s.w) (absF (f, m)) ret 60 (opdI xs)) K) :
    CallX Hval.prog 136 [.pointer (some ⟨c, 0, none⟩), .pointer (some ⟨fb, (preC base).length, none⟩), .int .u8 60, sl sa] (join hi hm) K := by
  refine CallX.of_xf T_ok Hval.func136 rfl (by kernel_rfl) (Nat.le_of_ble_eq_true rfl) ?_; conv => whnf
  obtain ⟨fb', pad, tf, hfb', hb, hn1, hn2, hn3⟩ := S.top
  have : some (⟨fb', 0, none⟩ : Addr) = some ⟨fb, 0, none⟩ := hfb'.symm.trans hfb
  cases this
  have hok := S.okT
  have hd := S.dj
  have hc := S.chain
  have hcf : c ≠ fb := S.frC fb hfb
  have hwr := hN.now.room S.now (by omega)
  have hbj := join_hm hd hb
  have hcj := join_hm hd hc
  have oo : ∀ i, NtS hi (opdP xs i).1 (opdI xs i) := opdP_ok hxs
  refine operand_ok (ha.ext (Ext.jl _ _)) hr 0 (by decide) ?_; conv => whnf
  refine operand_ok (ha.ext (Ext.jl _ _)) hr 1 (by decide) ?_; conv => whnf
  refine operand_ok (ha.ext (Ext.jl _ _)) hr 2 (by decide) ?_; conv => whnf
  repeat (first | (refine CondX.tt ?_; conv => whnf) | (refine CondX.ff ?_; conv => whnf))
  refine DrawX.go T_ok hM Hval.func136 (tb := dr136) rfl (by kernel_rfl) ?_; conv => whnf
  refine addrOf_ok ((oo 0).ext (Ext.jl _ _)) ?_; conv => whnf
  have tlen := addrI_length (opdI xs 0)
  refine warmSt_ok S hN.now (by omega) tlen ?_
  intro hi1 w1 e1 S1 sz1 abs1
  conv => whnf
  have hb1 : hput hm c (sCells { s with w := w1 }, tc) fb = some (preC base ++ (fCells f ++ pad), tf) := by rw [hput_ne hcf.symm]; exact hb
  refine DrawX.go T_ok hM Hval.func136 (tb := dr136) rfl (by kernel_rfl) ?_; conv => whnf
  refine addrOf_ok (((oo 0).ext e1).ext (Ext.jl _ _)) ?_; conv => whnf
  have hwr1 := sz1.room S1.now (by omega)
  refine account_ok (xs := w1.acc) (join_hm S1.dj S1.chain) (show (sCells { s with w := w1 })[0]? = some (sl w1.sA) from rfl) (S1.now.acc.arr.ext (Ext.jl _ _)) (fun x hx => (S1.now.acc.each x hx).addr) tlen (Nat.lt_trans hwr1.acc (by decide)) ?_; conv => whnf
  have hx := getA_ok S1.now.acc.each tlen
  erw [acCells_get hx.addr 2]; conv => whnf
  refine operand_ok ((ha.ext e1).ext (Ext.jl _ _)) hr 3 (by decide) ?_; conv => whnf
  refine copied_ok S1.dj hb1 S1.memT ((oo 1).ext e1) (hx.code.ext (Ext.jl _ _)) ((oo 2).ext e1) ((oo 3).ext e1) hlen fun hm' hd' hM hkeep => ?_; conv => whnf
  refine RetX.same (hk hi1 hm' w1 e1 ?_ (sz1.mono (by omega)) abs1)
  have hv : effM (absW s.w) (absF (f, m)) ret 60 (opdI xs) = cpM m (opdI xs 1) (getA w1.acc (addrI (opdI xs 0))).code (opdI xs 2) (opdI xs 3) := by
    have h1 : (absW w1).acct = (absW s.w).acct := by rw [abs1]; rfl
    show cpM m (opdI xs 1) ((absW s.w).acct (addrI (opdI xs 0))).code (opdI xs 2) (opdI xs 3) = cpM m (opdI xs 1) ((absW w1).acct (addrI (opdI xs 0))).code (opdI xs 2) (opdI xs 3)
    rw [h1]
  rw [hv]
  exact S1.setMem hd' hM hkeep
set_option maxRecDepth 100000 in
set_option maxHeartbeats 4000000 in
theorem effect_82  (S : StOK hi hm c tc s (base ++ [(f, m)]) ret left) (hN : StN N s (base ++ [(f, m)])) (hN30 : N + 3 < 2 ^ 30) (ha : Arr hi sa 1 (xs.map stCells)) (hxs : ∀ p ∈ xs, NtS hi p.1 p.2) (hr : sa.2.1 < 2 ^ 30) {fb : Nat} (hfb : at0 s.frS fb) (hW : ∀ p ∈ xs, p.2 < W)
    (hk : EK hi c tc s base f ret left N (effW (absW s.w) f.self 82 (opdI xs)) (effM (absW s.w) (absF (f, m)) ret 82 (opdI xs)) K) :
    CallX Hval.prog 136 [.pointer (some ⟨c, 0, none⟩), .pointer (some ⟨fb, (preC base).length, none⟩), .int .u8 82, sl sa] (join hi hm) K := by
  refine CallX.of_xf T_ok Hval.func136 rfl (by kernel_rfl) (Nat.le_of_ble_eq_true rfl) ?_; conv => whnf
  obtain ⟨fb', pad, tf, hfb', hb, hn1, hn2, hn3⟩ := S.top
  have : some (⟨fb', 0, none⟩ : Addr) = some ⟨fb, 0, none⟩ := hfb'.symm.trans hfb
  cases this
  have hok := S.okT
  have hd := S.dj
  have hc := S.chain
  have hcf : c ≠ fb := S.frC fb hfb
  have hwr := hN.now.room S.now (by omega)
  have hbj := join_hm hd hb
  have hcj := join_hm hd hc
  have oo : ∀ i, NtS hi (opdP xs i).1 (opdI xs i) := opdP_ok hxs
  refine operand_ok (ha.ext (Ext.jl _ _)) hr 0 (by decide) ?_; conv => whnf
  refine operand_ok (ha.ext (Ext.jl _ _)) hr 1 (by decide) ?_; conv => whnf
  refine operand_ok (ha.ext (Ext.jl _ _)) hr 2 (by decide) ?_; conv => whnf
  repeat (first | (refine CondX.tt ?_; conv => whnf) | (refine CondX.ff ?_; conv => whnf))
  refine ypword_ok ((oo 1).ext (Ext.jl _ _)) (opd_lt hW 1) ?_; conv => whnf
  have blen : (be 32 (opdI xs 1)).length = 32 := be_length 32 _
  refine BoxX.j hd fun m2 hin2 hmn2 hd2' he2' => ?_; conv => whnf
  refine Ob.mk ⟨by rw [List.size_toArray, bcells_length]; erw [blen]; rfl, ones_bcells _⟩ ?_; conv => whnf
  refine StoreX.j (by rw [List.toList_toArray, bcells_length]; erw [blen]; exact Nat.le_of_ble_eq_true rfl) ?_; conv => whnf
  rw [List.toList_toArray, setSeg_all (by rw [bcells_length]; erw [blen])]
  have hd2 : Dj (hput hi m2 (bcells (be 32 (opdI xs 1)), 33)) hm := hd2'.hp
  have e2 : Ext hi (hput hi m2 (bcells (be 32 (opdI xs 1)), 33)) := Ext.new hin2
  have h2 : hput hi m2 (bcells (be 32 (opdI xs 1)), 33) m2 = some (bcells (be 32 (opdI xs 1)), 33) := hput_same ..
  repeat (refine Ob.mk (by first | decide | omega) ?_; conv => whnf)
  refine write_ok hd2 hb S.memT ((oo 0).ext e2) (sb := (some ⟨m2, 0, none⟩, 32, 32)) (l := (be 32 (opdI xs 1))) (byt_seg (off := 0) (n := 32) (join_l h2) be_seg (by rw [bcells_length, be_length]; decide) (isB_be _ _) (by decide)) fun hm' hd' hM hkeep => ?_; conv => whnf
  exact RetX.same (hk _ hm' s.w e2 ((S.ext e2 hd2).setMem hd' hM hkeep) (hN.now.mono (by omega)) rfl)
set_option maxRecDepth 100000 in
set_option maxHeartbeats 4000000 in
theorem effect_83  (S : StOK hi hm c tc s (base ++ [(f, m)]) ret left) (hN : StN N s (base ++ [(f, m)])) (hN30 : N + 3 < 2 ^ 30) (ha : Arr hi sa 1 (xs.map stCells)) (hxs : ∀ p ∈ xs, NtS hi p.1 p.2) (hr : sa.2.1 < 2 ^ 30) {fb : Nat} (hfb : at0 s.frS fb) (hW : ∀ p ∈ xs, p.2 < W)
    (hk : EK hi c tc s base f ret left N (effW (absW s.w) f.self 83 (opdI xs)) (effM (absW s.w) (absF (f, m)) ret 83 (opdI xs)) K) :
    CallX Hval.prog 136 [.pointer (some ⟨c, 0, none⟩), .pointer (some ⟨fb, (preC base).length, none⟩), .int .u8 83, sl sa] (join hi hm) K := by
  refine CallX.of_xf T_ok Hval.func136 rfl (by kernel_rfl) (Nat.le_of_ble_eq_true rfl) ?_; conv => whnf
  obtain ⟨fb', pad, tf, hfb', hb, hn1, hn2, hn3⟩ := S.top
  have : some (⟨fb', 0, none⟩ : Addr) = some ⟨fb, 0, none⟩ := hfb'.symm.trans hfb
  cases this
  have hok := S.okT
  have hd := S.dj
  have hc := S.chain
  have hcf : c ≠ fb := S.frC fb hfb
  have hwr := hN.now.room S.now (by omega)
  have hbj := join_hm hd hb
  have hcj := join_hm hd hc
  have oo : ∀ i, NtS hi (opdP xs i).1 (opdI xs i) := opdP_ok hxs
  refine operand_ok (ha.ext (Ext.jl _ _)) hr 0 (by decide) ?_; conv => whnf
  refine operand_ok (ha.ext (Ext.jl _ _)) hr 1 (by decide) ?_; conv => whnf
  refine operand_ok (ha.ext (Ext.jl _ _)) hr 2 (by decide) ?_; conv => whnf
  repeat (first | (refine CondX.tt ?_; conv => whnf) | (refine CondX.ff ?_; conv => whnf))
  refine ypword_ok ((oo 1).ext (Ext.jl _ _)) (opd_lt hW 1) ?_; conv => whnf
  have blen : (be 32 (opdI xs 1)).length = 32 := be_length 32 _
  refine BoxX.j hd fun m2 hin2 hmn2 hd2' he2' => ?_; conv => whnf
  refine Ob.mk ⟨by rw [List.size_toArray, bcells_length]; erw [blen]; rfl, ones_bcells _⟩ ?_; conv => whnf
  refine StoreX.j (by rw [List.toList_toArray, bcells_length]; erw [blen]; exact Nat.le_of_ble_eq_true rfl) ?_; conv => whnf
  rw [List.toList_toArray, setSeg_all (by rw [bcells_length]; erw [blen])]
  have hd2 : Dj (hput hi m2 (bcells (be 32 (opdI xs 1)), 33)) hm := hd2'.hp
  have e2 : Ext hi (hput hi m2 (bcells (be 32 (opdI xs 1)), 33)) := Ext.new hin2
  have h2 : hput hi m2 (bcells (be 32 (opdI xs 1)), 33) m2 = some (bcells (be 32 (opdI xs 1)), 33) := hput_same ..
  repeat (refine Ob.mk (by first | decide | omega) ?_; conv => whnf)
  refine write_ok hd2 hb S.memT ((oo 0).ext e2) (sb := (some ⟨m2, 31, none⟩, 1, 1)) (l := ((be 32 (opdI xs 1)).drop 31)) (byt_seg (off := 31) (n := 1) (join_l h2) be_last (by rw [bcells_length, be_length]; decide) ((isB_be _ _).drop _) (by decide)) fun hm' hd' hM hkeep => ?_; conv => whnf
  exact RetX.same (hk _ hm' s.w e2 ((S.ext e2 hd2).setMem hd' hM hkeep) (hN.now.mono (by omega)) rfl)
set_option maxRecDepth 100000 in
set_option maxHeartbeats 4000000 in
theorem effect_85 (h0 : opdI xs 0 = argI f.st 0) (h1 : opdI xs 1 = argI f.st 1) (href : s.w.ref + 100000 < big) (S : StOK hi hm c tc s (base ++ [(f, m)]) ret left) (hN : StN N s (base ++ [(f, m)])) (hN30 : N + 3 < 2 ^ 30) (ha : Arr hi sa 1 (xs.map stCells)) (hxs : ∀ p ∈ xs, NtS hi p.1 p.2) (hr : sa.2.1 < 2 ^ 30) {fb : Nat} (hfb : at0 s.frS fb) (hW : ∀ p ∈ xs, p.2 < W)
    (hk : EK hi c tc s base f ret left N (effW (absW s.w) f.self 85 (opdI xs)) (effM (absW s.w) (absF (f, m)) ret 85 (opdI xs)) K) :
    CallX Hval.prog 136 [.pointer (some ⟨c, 0, none⟩), .pointer (some ⟨fb, (preC base).length, none⟩), .int .u8 85, sl sa] (join hi hm) K := by
  refine CallX.of_xf T_ok Hval.func136 rfl (by kernel_rfl) (Nat.le_of_ble_eq_true rfl) ?_; conv => whnf
  obtain ⟨fb', pad, tf, hfb', hb, hn1, hn2, hn3⟩ := S.top
  have : some (⟨fb', 0, none⟩ : Addr) = some ⟨fb, 0, none⟩ := hfb'.symm.trans hfb
  cases this
  have hok := S.okT
  have hd := S.dj
  have hc := S.chain
  have hcf : c ≠ fb := S.frC fb hfb
  have hwr := hN.now.room S.now (by omega)
  have hbj := join_hm hd hb
  have hcj := join_hm hd hc
  have oo : ∀ i, NtS hi (opdP xs i).1 (opdI xs i) := opdP_ok hxs
  refine operand_ok (ha.ext (Ext.jl _ _)) hr 0 (by decide) ?_; conv => whnf
  refine operand_ok (ha.ext (Ext.jl _ _)) hr 1 (by decide) ?_; conv => whnf
  refine operand_ok (ha.ext (Ext.jl _ _)) hr 2 (by decide) ?_; conv => whnf
  repeat (first | (refine CondX.tt ?_; conv => whnf) | (refine CondX.ff ?_; conv => whnf))
  refine stores_ok S hN hN30 hfb (sk := (opdP xs 0).1) (sv := (opdP xs 1).1) (by rw [← h0]; exact oo 0) (by rw [← h1]; exact oo 1) href ?_
  intro hi' hm' w' e' S' sz' abs'
  conv => whnf
  refine RetX.same (hk hi' hm' w' e' S' sz' ?_)
  rw [abs', ← h0, ← h1]
  rfl
set_option maxRecDepth 100000 in
set_option maxHeartbeats 4000000 in
theorem effect_93  (S : StOK hi hm c tc s (base ++ [(f, m)]) ret left) (hN : StN N s (base ++ [(f, m)])) (hN30 : N + 3 < 2 ^ 30) (ha : Arr hi sa 1 (xs.map stCells)) (hxs : ∀ p ∈ xs, NtS hi p.1 p.2) (hr : sa.2.1 < 2 ^ 30) {fb : Nat} (hfb : at0 s.frS fb) (hW : ∀ p ∈ xs, p.2 < W)
    (hk : EK hi c tc s base f ret left N (effW (absW s.w) f.self 93 (opdI xs)) (effM (absW s.w) (absF (f, m)) ret 93 (opdI xs)) K) :
    CallX Hval.prog 136 [.pointer (some ⟨c, 0, none⟩), .pointer (some ⟨fb, (preC base).length, none⟩), .int .u8 93, sl sa] (join hi hm) K := by
  refine CallX.of_xf T_ok Hval.func136 rfl (by kernel_rfl) (Nat.le_of_ble_eq_true rfl) ?_; conv => whnf
  obtain ⟨fb', pad, tf, hfb', hb, hn1, hn2, hn3⟩ := S.top
  have : some (⟨fb', 0, none⟩ : Addr) = some ⟨fb, 0, none⟩ := hfb'.symm.trans hfb
  cases this
  have hok := S.okT
  have hd := S.dj
  have hc := S.chain
  have hcf : c ≠ fb := S.frC fb hfb
  have hwr := hN.now.room S.now (by omega)
  have hbj := join_hm hd hb
  have hcj := join_hm hd hc
  have oo : ∀ i, NtS hi (opdP xs i).1 (opdI xs i) := opdP_ok hxs
  refine operand_ok (ha.ext (Ext.jl _ _)) hr 0 (by decide) ?_; conv => whnf
  refine operand_ok (ha.ext (Ext.jl _ _)) hr 1 (by decide) ?_; conv => whnf
  refine operand_ok (ha.ext (Ext.jl _ _)) hr 2 (by decide) ?_; conv => whnf
  repeat (first | (refine CondX.tt ?_; conv => whnf) | (refine CondX.ff ?_; conv => whnf))
  have hself0 := ldV_self hbj hok.self hok.caller (o := (preC base).length + 12) rfl
  refine DrawX.go T_ok hM Hval.func136 (tb := dr136) rfl (by kernel_rfl) ?_; conv => whnf
  refine LoadX.of _ hself0 ?_; conv => whnf
  refine tstoreSt_ok (sk := (opdP xs 0).1) (sv := (opdP xs 1).1) S hN.now (by omega) hok.self (oo 0) (oo 1) ?_
  intro hi1 w1 e1 S1 sz1 abs1
  conv => whnf
  have hb1 : hput hm c (sCells { s with w := w1 }, tc) fb = some (preC base ++ (fCells f ++ pad), tf) := by rw [hput_ne hcf.symm]; exact hb
  have hself1 := ldV_self (join_hm S1.dj hb1) hok.self hok.caller (o := (preC base).length + 12) rfl
  repeat (refine Ob.mk (by first | exact hself1) ?_; conv => whnf)
  exact RetX.same (hk hi1 _ w1 e1 S1 (sz1.mono (by omega)) abs1)
set_option maxRecDepth 100000 in
set_option maxHeartbeats 4000000 in
theorem effect_80  (S : StOK hi hm c tc s (base ++ [(f, m)]) ret left) (hN : StN N s (base ++ [(f, m)])) (hN30 : N + 3 < 2 ^ 30) (ha : Arr hi sa 1 (xs.map stCells)) (hxs : ∀ p ∈ xs, NtS hi p.1 p.2) (hr : sa.2.1 < 2 ^ 30) {fb : Nat} (hfb : at0 s.frS fb) (hW : ∀ p ∈ xs, p.2 < W)
    (hk : EK hi c tc s base f ret left N (effW (absW s.w) f.self 80 (opdI xs)) (effM (absW s.w) (absF (f, m)) ret 80 (opdI xs)) K) :
    CallX Hval.prog 136 [.pointer (some ⟨c, 0, none⟩), .pointer (some ⟨fb, (preC base).length, none⟩), .int .u8 80, sl sa] (join hi hm) K := by
  refine CallX.of_xf T_ok Hval.func136 rfl (by kernel_rfl) (Nat.le_of_ble_eq_true rfl) ?_; conv => whnf
  obtain ⟨fb', pad, tf, hfb', hb, hn1, hn2, hn3⟩ := S.top
  have : some (⟨fb', 0, none⟩ : Addr) = some ⟨fb, 0, none⟩ := hfb'.symm.trans hfb
  cases this
  have hok := S.okT
  have hd := S.dj
  have hc := S.chain
  have hcf : c ≠ fb := S.frC fb hfb
  have hwr := hN.now.room S.now (by omega)
  have hbj := join_hm hd hb
  have hcj := join_hm hd hc
  have oo : ∀ i, NtS hi (opdP xs i).1 (opdI xs i) := opdP_ok hxs
  refine operand_ok (ha.ext (Ext.jl _ _)) hr 0 (by decide) ?_; conv => whnf
  refine operand_ok (ha.ext (Ext.jl _ _)) hr 1 (by decide) ?_; conv => whnf
  refine operand_ok (ha.ext (Ext.jl _ _)) hr 2 (by decide) ?_; conv => whnf
  repeat (first | (refine CondX.tt ?_; conv => whnf) | (refine CondX.ff ?_; conv => whnf))
  exact RetX.same (hk hi hm s.w (Ext.refl _) S (hN.now.mono (by omega)) rfl)
set_option maxRecDepth 100000 in
set_option maxHeartbeats 4000000 in
theorem effect_91  (S : StOK hi hm c tc s (base ++ [(f, m)]) ret left) (hN : StN N s (base ++ [(f, m)])) (hN30 : N + 3 < 2 ^ 30) (ha : Arr hi sa 1 (xs.map stCells)) (hxs : ∀ p ∈ xs, NtS hi p.1 p.2) (hr : sa.2.1 < 2 ^ 30) {fb : Nat} (hfb : at0 s.frS fb) (hW : ∀ p ∈ xs, p.2 < W)
    (hk : EK hi c tc s base f ret left N (effW (absW s.w) f.self 91 (opdI xs)) (effM (absW s.w) (absF (f, m)) ret 91 (opdI xs)) K) :
    CallX Hval.prog 136 [.pointer (some ⟨c, 0, none⟩), .pointer (some ⟨fb, (preC base).length, none⟩), .int .u8 91, sl sa] (join hi hm) K := by
  refine CallX.of_xf T_ok Hval.func136 rfl (by kernel_rfl) (Nat.le_of_ble_eq_true rfl) ?_; conv => whnf
  obtain ⟨fb', pad, tf, hfb', hb, hn1, hn2, hn3⟩ := S.top
  have : some (⟨fb', 0, none⟩ : Addr) = some ⟨fb, 0, none⟩ := hfb'.symm.trans hfb
  cases this
  have hok := S.okT
  have hd := S.dj
  have hc := S.chain
  have hcf : c ≠ fb := S.frC fb hfb
  have hwr := hN.now.room S.now (by omega)
  have hbj := join_hm hd hb
  have hcj := join_hm hd hc
  have oo : ∀ i, NtS hi (opdP xs i).1 (opdI xs i) := opdP_ok hxs
  refine operand_ok (ha.ext (Ext.jl _ _)) hr 0 (by decide) ?_; conv => whnf
  refine operand_ok (ha.ext (Ext.jl _ _)) hr 1 (by decide) ?_; conv => whnf
  refine operand_ok (ha.ext (Ext.jl _ _)) hr 2 (by decide) ?_; conv => whnf
  repeat (first | (refine CondX.tt ?_; conv => whnf) | (refine CondX.ff ?_; conv => whnf))
  exact RetX.same (hk hi hm s.w (Ext.refl _) S (hN.now.mono (by omega)) rfl)
set_option maxRecDepth 100000 in
set_option maxHeartbeats 4000000 in
theorem effect_87  (S : StOK hi hm c tc s (base ++ [(f, m)]) ret left) (hN : StN N s (base ++ [(f, m)])) (hN30 : N + 3 < 2 ^ 30) (ha : Arr hi sa 1 (xs.map stCells)) (hxs : ∀ p ∈ xs, NtS hi p.1 p.2) (hr : sa.2.1 < 2 ^ 30) {fb : Nat} (hfb : at0 s.frS fb) (hW : ∀ p ∈ xs, p.2 < W)
    (hk : EK hi c tc s base f ret left N (effW (absW s.w) f.self 87 (opdI xs)) (effM (absW s.w) (absF (f, m)) ret 87 (opdI xs)) K) :
    CallX Hval.prog 136 [.pointer (some ⟨c, 0, none⟩), .pointer (some ⟨fb, (preC base).length, none⟩), .int .u8 87, sl sa] (join hi hm) K := by
  refine CallX.of_xf T_ok Hval.func136 rfl (by kernel_rfl) (Nat.le_of_ble_eq_true rfl) ?_; conv => whnf
  obtain ⟨fb', pad, tf, hfb', hb, hn1, hn2, hn3⟩ := S.top
  have : some (⟨fb', 0, none⟩ : Addr) = some ⟨fb, 0, none⟩ := hfb'.symm.trans hfb
  cases this
  have hok := S.okT
  have hd := S.dj
  have hc := S.chain
  have hcf : c ≠ fb := S.frC fb hfb
  have hwr := hN.now.room S.now (by omega)
  have hbj := join_hm hd hb
  have hcj := join_hm hd hc
  have oo : ∀ i, NtS hi (opdP xs i).1 (opdI xs i) := opdP_ok hxs
  refine operand_ok (ha.ext (Ext.jl _ _)) hr 0 (by decide) ?_; conv => whnf
  refine operand_ok (ha.ext (Ext.jl _ _)) hr 1 (by decide) ?_; conv => whnf
  refine operand_ok (ha.ext (Ext.jl _ _)) hr 2 (by decide) ?_; conv => whnf
  repeat (first | (refine CondX.tt ?_; conv => whnf) | (refine CondX.ff ?_; conv => whnf))
  exact RetX.same (hk hi hm s.w (Ext.refl _) S (hN.now.mono (by omega)) rfl)
end
end Go.Proofs.YgvalwGreat.X
