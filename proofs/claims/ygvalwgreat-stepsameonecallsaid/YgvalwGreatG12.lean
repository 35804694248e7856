import Derived.Test.YgvalwGreatG11
set_option linter.unusedVariables false
set_option linter.unusedSimpArgs false
namespace Go.Proofs.YgvalwGreat.X
open Go

section
variable {hi hm : Hp} {K : Value → Hp → Prop} {c : Nat} {tc : TypeId} {s : YS} {base frs : List (YF × List Int)} {f : YF} {m ret : List Int} {left : Int} {N : Nat} {sa : Sl} {xs : List (Sl × Int)}

theorem opd_lt {xs : List (Sl × Int)} (h : ∀ p ∈ xs, p.2 < W) (i : Nat) : opdI xs i < W := by
  unfold opdI opdP
  rw [List.getD_eq_getElem?_getD]
  cases he : xs[i]? with
  | none => exact W_pos
  | some p => exact h p (List.mem_of_getElem? he)
theorem Nt_cut {h : Hp} {mm k : Nat} {l : List Int} {a : Nat} (hB : isB l) (hk : k < 2 ^ 40) : Byt (hput h mm (bcells (cutN l a k), 5)) (some ⟨mm, 0, none⟩) k k (cutN l a k) := own_all (isB_cutN hB _ _) (by rw [cutN_length]) (by rw [cutN_length]; omega)
set_option maxRecDepth 100000 in
set_option maxHeartbeats 4000000 in
theorem value_53 (S : StOK hi hm c tc s (base ++ [(f, m)]) ret left) (hN : StN N s (base ++ [(f, m)])) (hN30 : N + 3 < 2 ^ 30) (E : EnvOK hi s) (ha : Arr hi sa 1 (xs.map stCells)) (hxs : ∀ p ∈ xs, NtS hi p.1 p.2) (hr : sa.2.1 < 2 ^ 30) {fb : Nat} (hfb : at0 s.frS fb) (hself : isB f.self) (hcal : isB f.caller) (hW : ∀ p ∈ xs, p.2 < W)
    (hk : VK hi hm c tc s (base ++ [(f, m)]) ret left N (valW (absW s.w) f.self 53 (opdI xs)) (valA (absW s.w) (absF (f, m)) ret s.origin 53 (opdI xs)) K) :
    CallX Hval.prog 135 [.pointer (some ⟨c, 0, none⟩), .pointer (some ⟨fb, (preC base).length, none⟩), .int .u8 53, sl sa] (join hi hm) K := by
  refine CallX.of_xf T_ok Hval.func135 rfl (by kernel_rfl) (Nat.le_of_ble_eq_true rfl) ?_; conv => whnf
  obtain ⟨fb', pad, tf, hfb', hb, hn1, hn2, hn3⟩ := S.top
  have : some (⟨fb', 0, none⟩ : Addr) = some ⟨fb, 0, none⟩ := hfb'.symm.trans hfb
  cases this
  have hok := S.okT
  have hd := S.dj
  have hc := S.chain
  have hcf : c ≠ fb := S.frC fb hfb
  have hwr := hN.now.room S.now (by omega)
  have hbj := join_hm hd hb
  have hcj := join_hm hd hc
  have oo : ∀ i, NtS hi (opdP xs i).1 (opdI xs i) := opdP_ok hxs
  refine operand_ok (ha.ext (Ext.jl _ _)) hr 0 (by decide) ?_; conv => whnf
  refine operand_ok (ha.ext (Ext.jl _ _)) hr 1 (by decide) ?_; conv => whnf
  repeat (first | (refine CondX.tt ?_; conv => whnf) | (refine CondX.ff ?_; conv => whnf))
  refine family_ok (by omega) (by omega) ?_; conv => whnf
  repeat (first | (refine CondX.tt ?_; conv => whnf) | (refine CondX.ff ?_; conv => whnf))
  refine DrawX.go T_ok hM Hval.func135 (tb := dr135) rfl (by kernel_rfl) ?_; conv => whnf
  refine LoadX.mid hbj 11 (by decide) rfl (v := sl f.inS) rfl ?_; conv => whnf
  refine CallX.fj hd (num_ok (by omega) (by omega) fun b1 n1 c1 hi1 e1 g1 hd1 => ?_); conv => whnf
  have hok1 := hok.ext e1
  repeat (refine Ob.mk (by first | exact ldV_mid (join_hm hd1 hb) 11 (by decide) rfl rfl) ?_; conv => whnf)
  refine CallX.fj hd1 (cut_ok hok1.input ((oo 0).ext e1) g1 (by omega) fun m2 hm2 hd2 => ?_); conv => whnf
  have e2 : Ext hi1 (hput hi1 m2 (bcells (cutN f.input (opdI xs 0).toNat 32), 5)) := Ext.bd hm2
  repeat (refine Ob.mk (by first | exact ldV_mid (join_hm hd2 hb) 11 (by decide) rfl rfl) ?_; conv => whnf)
  refine CallX.fj hd2 (fromBE_ok (Nt_cut (k := 32) hok.input.isB (by decide)) fun b n c hi' e g hd' => ?_); conv => whnf
  repeat (refine Ob.mk (by first | exact ldV_mid (join_hm hd' hb) 11 (by decide) rfl rfl) ?_; conv => whnf)
  exact RetX.same ((hk.keep S hN.now rfl rfl) (b, n, c) hi' ((e1.trans e2).trans e) hd' g)
set_option maxRecDepth 100000 in
set_option maxHeartbeats 4000000 in
theorem value_81 (S : StOK hi hm c tc s (base ++ [(f, m)]) ret left) (hN : StN N s (base ++ [(f, m)])) (hN30 : N + 3 < 2 ^ 30) (E : EnvOK hi s) (ha : Arr hi sa 1 (xs.map stCells)) (hxs : ∀ p ∈ xs, NtS hi p.1 p.2) (hr : sa.2.1 < 2 ^ 30) {fb : Nat} (hfb : at0 s.frS fb) (hself : isB f.self) (hcal : isB f.caller) (hW : ∀ p ∈ xs, p.2 < W)
    (hk : VK hi hm c tc s (base ++ [(f, m)]) ret left N (valW (absW s.w) f.self 81 (opdI xs)) (valA (absW s.w) (absF (f, m)) ret s.origin 81 (opdI xs)) K) :
    CallX Hval.prog 135 [.pointer (some ⟨c, 0, none⟩), .pointer (some ⟨fb, (preC base).length, none⟩), .int .u8 81, sl sa] (join hi hm) K := by
  refine CallX.of_xf T_ok Hval.func135 rfl (by kernel_rfl) (Nat.le_of_ble_eq_true rfl) ?_; conv => whnf
  obtain ⟨fb', pad, tf, hfb', hb, hn1, hn2, hn3⟩ := S.top
  have : some (⟨fb', 0, none⟩ : Addr) = some ⟨fb, 0, none⟩ := hfb'.symm.trans hfb
  cases this
  have hok := S.okT
  have hd := S.dj
  have hc := S.chain
  have hcf : c ≠ fb := S.frC fb hfb
  have hwr := hN.now.room S.now (by omega)
  have hbj := join_hm hd hb
  have hcj := join_hm hd hc
  have oo : ∀ i, NtS hi (opdP xs i).1 (opdI xs i) := opdP_ok hxs
  refine operand_ok (ha.ext (Ext.jl _ _)) hr 0 (by decide) ?_; conv => whnf
  refine operand_ok (ha.ext (Ext.jl _ _)) hr 1 (by decide) ?_; conv => whnf
  repeat (first | (refine CondX.tt ?_; conv => whnf) | (refine CondX.ff ?_; conv => whnf))
  refine family_ok (by omega) (by omega) ?_; conv => whnf
  repeat (first | (refine CondX.tt ?_; conv => whnf) | (refine CondX.ff ?_; conv => whnf))
  refine DrawX.go T_ok hM Hval.func135 (tb := dr135) rfl (by kernel_rfl) ?_; conv => whnf
  refine LoadX.mid hbj 9 (by decide) rfl (v := sl f.memS) rfl ?_; conv => whnf
  refine CallX.fj hd (num_ok (by omega) (by omega) fun b1 n1 c1 hi1 e1 g1 hd1 => ?_); conv => whnf
  have hok1 := hok.ext e1
  repeat (refine Ob.mk (by first | exact ldV_mid (join_hm hd1 hb) 9 (by decide) rfl rfl) ?_; conv => whnf)
  refine cut_ok (S.memT.byt hd1) (((oo 0).ext e1).ext (Ext.jl _ _)) (g1.ext (Ext.jl _ _)) (by omega) fun m2 hm2 => ?_; conv => whnf
  obtain ⟨hin2, hmn2⟩ := join_none (hm2.none (Nat.le_refl _))
  rw [join_put]
  have e2 : Ext hi1 (hput hi1 m2 (bcells (cutN m (opdI xs 0).toNat 32), 5)) := Ext.new hin2
  have hd2 : Dj (hput hi1 m2 (bcells (cutN m (opdI xs 0).toNat 32), 5)) hm := hd1.hn hmn2
  repeat (refine Ob.mk (by first | exact ldV_mid (join_hm hd2 hb) 9 (by decide) rfl rfl) ?_; conv => whnf)
  refine CallX.fj hd2 (fromBE_ok (Nt_cut (k := 32) S.memT.1 (by decide)) fun b n c hi' e g hd' => ?_); conv => whnf
  repeat (refine Ob.mk (by first | exact ldV_mid (join_hm hd' hb) 9 (by decide) rfl rfl) ?_; conv => whnf)
  exact RetX.same ((hk.keep S hN.now rfl rfl) (b, n, c) hi' ((e1.trans e2).trans e) hd' g)
set_option maxRecDepth 100000 in
set_option maxHeartbeats 4000000 in
theorem value_71 (S : StOK hi hm c tc s (base ++ [(f, m)]) ret left) (hN : StN N s (base ++ [(f, m)])) (hN30 : N + 3 < 2 ^ 30) (E : EnvOK hi s) (ha : Arr hi sa 1 (xs.map stCells)) (hxs : ∀ p ∈ xs, NtS hi p.1 p.2) (hr : sa.2.1 < 2 ^ 30) {fb : Nat} (hfb : at0 s.frS fb) (hself : isB f.self) (hcal : isB f.caller) (hW : ∀ p ∈ xs, p.2 < W)
    (hk : VK hi hm c tc s (base ++ [(f, m)]) ret left N (valW (absW s.w) f.self 71 (opdI xs)) (valA (absW s.w) (absF (f, m)) ret s.origin 71 (opdI xs)) K) :
    CallX Hval.prog 135 [.pointer (some ⟨c, 0, none⟩), .pointer (some ⟨fb, (preC base).length, none⟩), .int .u8 71, sl sa] (join hi hm) K := by
  refine CallX.of_xf T_ok Hval.func135 rfl (by kernel_rfl) (Nat.le_of_ble_eq_true rfl) ?_; conv => whnf
  obtain ⟨fb', pad, tf, hfb', hb, hn1, hn2, hn3⟩ := S.top
  have : some (⟨fb', 0, none⟩ : Addr) = some ⟨fb, 0, none⟩ := hfb'.symm.trans hfb
  cases this
  have hok := S.okT
  have hd := S.dj
  have hc := S.chain
  have hcf : c ≠ fb := S.frC fb hfb
  have hwr := hN.now.room S.now (by omega)
  have hbj := join_hm hd hb
  have hcj := join_hm hd hc
  have oo : ∀ i, NtS hi (opdP xs i).1 (opdI xs i) := opdP_ok hxs
  refine operand_ok (ha.ext (Ext.jl _ _)) hr 0 (by decide) ?_; conv => whnf
  refine operand_ok (ha.ext (Ext.jl _ _)) hr 1 (by decide) ?_; conv => whnf
  repeat (first | (refine CondX.tt ?_; conv => whnf) | (refine CondX.ff ?_; conv => whnf))
  refine family_ok (by omega) (by omega) ?_; conv => whnf
  repeat (first | (refine CondX.tt ?_; conv => whnf) | (refine CondX.ff ?_; conv => whnf))
  have hself0 := ldV_self hbj hok.self hok.caller (o := (preC base).length + 12) rfl
  refine DrawX.go T_ok hM Hval.func135 (tb := dr135) rfl (by kernel_rfl) ?_; conv => whnf
  refine LoadX.of _ hself0 ?_; conv => whnf
  refine account_ok (xs := s.w.acc) hcj (show (sCells s)[0]? = some (sl s.w.sA) from rfl) (S.now.acc.arr.ext (Ext.jl _ _)) (fun x hx => (S.now.acc.each x hx).addr) hok.self (by have := hwr.acc; omega) ?_; conv => whnf
  have hx := getA_ok S.now.acc.each hok.self
  repeat (refine Ob.mk (by first | exact hself0) ?_; conv => whnf)
  erw [acCells_get hx.addr 1]; conv => whnf
  refine CallX.fj hd (normN hx.bal fun b n c hi' e g hd' => ?_); conv => whnf
  repeat (refine Ob.mk (by first | exact ldV_self (join_hm hd' hb) hok.self hok.caller (o := (preC base).length + 12) rfl) ?_; conv => whnf)
  exact RetX.same ((hk.keep S hN.now rfl rfl) (b, n, c) hi' e hd' g)
set_option maxRecDepth 100000 in
set_option maxHeartbeats 4000000 in
theorem value_92 (S : StOK hi hm c tc s (base ++ [(f, m)]) ret left) (hN : StN N s (base ++ [(f, m)])) (hN30 : N + 3 < 2 ^ 30) (E : EnvOK hi s) (ha : Arr hi sa 1 (xs.map stCells)) (hxs : ∀ p ∈ xs, NtS hi p.1 p.2) (hr : sa.2.1 < 2 ^ 30) {fb : Nat} (hfb : at0 s.frS fb) (hself : isB f.self) (hcal : isB f.caller) (hW : ∀ p ∈ xs, p.2 < W)
    (hk : VK hi hm c tc s (base ++ [(f, m)]) ret left N (valW (absW s.w) f.self 92 (opdI xs)) (valA (absW s.w) (absF (f, m)) ret s.origin 92 (opdI xs)) K) :
    CallX Hval.prog 135 [.pointer (some ⟨c, 0, none⟩), .pointer (some ⟨fb, (preC base).length, none⟩), .int .u8 92, sl sa] (join hi hm) K := by
  refine CallX.of_xf T_ok Hval.func135 rfl (by kernel_rfl) (Nat.le_of_ble_eq_true rfl) ?_; conv => whnf
  obtain ⟨fb', pad, tf, hfb', hb, hn1, hn2, hn3⟩ := S.top
  have : some (⟨fb', 0, none⟩ : Addr) = some ⟨fb, 0, none⟩ := hfb'.symm.trans hfb
  cases this
  have hok := S.okT
  have hd := S.dj
  have hc := S.chain
  have hcf : c ≠ fb := S.frC fb hfb
  have hwr := hN.now.room S.now (by omega)
  have hbj := join_hm hd hb
  have hcj := join_hm hd hc
  have oo : ∀ i, NtS hi (opdP xs i).1 (opdI xs i) := opdP_ok hxs
  refine operand_ok (ha.ext (Ext.jl _ _)) hr 0 (by decide) ?_; conv => whnf
  refine operand_ok (ha.ext (Ext.jl _ _)) hr 1 (by decide) ?_; conv => whnf
  repeat (first | (refine CondX.tt ?_; conv => whnf) | (refine CondX.ff ?_; conv => whnf))
  refine family_ok (by omega) (by omega) ?_; conv => whnf
  repeat (first | (refine CondX.tt ?_; conv => whnf) | (refine CondX.ff ?_; conv => whnf))
  have hself0 := ldV_self hbj hok.self hok.caller (o := (preC base).length + 12) rfl
  refine DrawX.go T_ok hM Hval.func135 (tb := dr135) rfl (by kernel_rfl) ?_; conv => whnf
  refine LoadX.of _ hself0 ?_; conv => whnf
  refine tload_ok (o := 0) (xs := s.w.temps) hcj (show (sCells s)[0 + 5]? = some (sl s.w.sT) from rfl) (S.now.temps.ext (Ext.jl _ _)) hok.self (by have := hwr.temps; omega) ((oo 0).ext (Ext.jl _ _)) ?_; conv => whnf
  repeat (refine Ob.mk (by first | exact hself0) ?_; conv => whnf)
  exact RetX.same ((hk.keep S hN.now rfl rfl) (getT s.w.temps f.self (opdI xs 0)).vs hi (Ext.refl _) hd (getT_ok S.now.temps.each))
set_option maxRecDepth 100000 in
set_option maxHeartbeats 4000000 in
theorem value_84 (S : StOK hi hm c tc s (base ++ [(f, m)]) ret left) (hN : StN N s (base ++ [(f, m)])) (hN30 : N + 3 < 2 ^ 30) (E : EnvOK hi s) (ha : Arr hi sa 1 (xs.map stCells)) (hxs : ∀ p ∈ xs, NtS hi p.1 p.2) (hr : sa.2.1 < 2 ^ 30) {fb : Nat} (hfb : at0 s.frS fb) (hself : isB f.self) (hcal : isB f.caller) (hW : ∀ p ∈ xs, p.2 < W)
    (hk : VK hi hm c tc s (base ++ [(f, m)]) ret left N (valW (absW s.w) f.self 84 (opdI xs)) (valA (absW s.w) (absF (f, m)) ret s.origin 84 (opdI xs)) K) :
    CallX Hval.prog 135 [.pointer (some ⟨c, 0, none⟩), .pointer (some ⟨fb, (preC base).length, none⟩), .int .u8 84, sl sa] (join hi hm) K := by
  refine CallX.of_xf T_ok Hval.func135 rfl (by kernel_rfl) (Nat.le_of_ble_eq_true rfl) ?_; conv => whnf
  obtain ⟨fb', pad, tf, hfb', hb, hn1, hn2, hn3⟩ := S.top
  have : some (⟨fb', 0, none⟩ : Addr) = some ⟨fb, 0, none⟩ := hfb'.symm.trans hfb
  cases this
  have hok := S.okT
  have hd := S.dj
  have hc := S.chain
  have hcf : c ≠ fb := S.frC fb hfb
  have hwr := hN.now.room S.now (by omega)
  have hbj := join_hm hd hb
  have hcj := join_hm hd hc
  have oo : ∀ i, NtS hi (opdP xs i).1 (opdI xs i) := opdP_ok hxs
  refine operand_ok (ha.ext (Ext.jl _ _)) hr 0 (by decide) ?_; conv => whnf
  refine operand_ok (ha.ext (Ext.jl _ _)) hr 1 (by decide) ?_; conv => whnf
  repeat (first | (refine CondX.tt ?_; conv => whnf) | (refine CondX.ff ?_; conv => whnf))
  refine family_ok (by omega) (by omega) ?_; conv => whnf
  repeat (first | (refine CondX.tt ?_; conv => whnf) | (refine CondX.ff ?_; conv => whnf))
  have hself0 := ldV_self hbj hok.self hok.caller (o := (preC base).length + 12) rfl
  refine DrawX.go T_ok hM Hval.func135 (tb := dr135) rfl (by kernel_rfl) ?_; conv => whnf
  refine LoadX.of _ hself0 ?_; conv => whnf
  refine warmSlotSt_ok (sk := (opdP xs 0).1) (k := opdI xs 0) S hN.now (by omega) hok.self (oo 0) ?_
  intro hi1 w1 e1 S1 sz1 abs1
  conv => whnf
  have hb1 : hput hm c (sCells { s with w := w1 }, tc) fb = some (preC base ++ (fCells f ++ pad), tf) := by rw [hput_ne hcf.symm]; exact hb
  have hself1 := ldV_self (join_hm S1.dj hb1) hok.self hok.caller (o := (preC base).length + 12) rfl
  repeat (refine Ob.mk (by first | exact hself1) ?_; conv => whnf)
  refine DrawX.go T_ok hM Hval.func135 (tb := dr135) rfl (by kernel_rfl) ?_; conv => whnf
  refine LoadX.of _ hself1 ?_; conv => whnf
  have hwr1 := sz1.room S1.now (by omega)
  refine wload_ok (o := 0) (xs := w1.acc) (join_hm S1.dj S1.chain) (show (sCells { s with w := w1 })[0]? = some (sl w1.sA) from rfl) (S1.now.acc.ext (Ext.jl _ _)) hok.self (Nat.lt_trans hwr1.acc (by decide)) (((oo 0).ext e1).ext (Ext.jl _ _)) (fun x hx => Nat.lt_trans (hwr1.each x hx) (by decide)) ?_; conv => whnf
  repeat (refine Ob.mk (by first | exact hself1) ?_; conv => whnf)
  have hx := getA_ok S1.now.acc.each hok.self
  refine RetX.same (hk hi1 w1 (getS (getA w1.acc f.self).slots (opdI xs 0)).vs e1 S1 sz1 abs1 ?_)
  have hv : valA (absW s.w) (absF (f, m)) ret s.origin 84 (opdI xs) = (getS (getA w1.acc f.self).slots (opdI xs 0)).val := by
    have h1 : (absW w1).acct = (absW s.w).acct := by rw [abs1]; rfl
    show ((absW s.w).acct f.self).slot (opdI xs 0) = ((absW w1).acct f.self).slot (opdI xs 0)
    rw [h1]
  rw [hv]
  exact getS_ok hx.each
set_option maxRecDepth 100000 in
set_option maxHeartbeats 4000000 in
theorem value_64 (S : StOK hi hm c tc s (base ++ [(f, m)]) ret left) (hN : StN N s (base ++ [(f, m)])) (hN30 : N + 3 < 2 ^ 30) (E : EnvOK hi s) (ha : Arr hi sa 1 (xs.map stCells)) (hxs : ∀ p ∈ xs, NtS hi p.1 p.2) (hr : sa.2.1 < 2 ^ 30) {fb : Nat} (hfb : at0 s.frS fb) (hself : isB f.self) (hcal : isB f.caller) (hW : ∀ p ∈ xs, p.2 < W)
    (hk : VK hi hm c tc s (base ++ [(f, m)]) ret left N (valW (absW s.w) f.self 64 (opdI xs)) (valA (absW s.w) (absF (f, m)) ret s.origin 64 (opdI xs)) K) :
    CallX Hval.prog 135 [.pointer (some ⟨c, 0, none⟩), .pointer (some ⟨fb, (preC base).length, none⟩), .int .u8 64, sl sa] (join hi hm) K := by
  refine CallX.of_xf T_ok Hval.func135 rfl (by kernel_rfl) (Nat.le_of_ble_eq_true rfl) ?_; conv => whnf
  obtain ⟨fb', pad, tf, hfb', hb, hn1, hn2, hn3⟩ := S.top
  have : some (⟨fb', 0, none⟩ : Addr) = some ⟨fb, 0, none⟩ := hfb'.symm.trans hfb
  cases this
  have hok := S.okT
  have hd := S.dj
  have hc := S.chain
  have hcf : c ≠ fb := S.frC fb hfb
  have hwr := hN.now.room S.now (by omega)
  have hbj := join_hm hd hb
  have hcj := join_hm hd hc
  have oo : ∀ i, NtS hi (opdP xs i).1 (opdI xs i) := opdP_ok hxs
  refine operand_ok (ha.ext (Ext.jl _ _)) hr 0 (by decide) ?_; conv => whnf
  refine operand_ok (ha.ext (Ext.jl _ _)) hr 1 (by decide) ?_; conv => whnf
  repeat (first | (refine CondX.tt ?_; conv => whnf) | (refine CondX.ff ?_; conv => whnf))
  refine family_ok (by omega) (by omega) ?_; conv => whnf
  repeat (first | (refine CondX.tt ?_; conv => whnf) | (refine CondX.ff ?_; conv => whnf))
  refine blockValue_ok (o := 64) (by omega) hd hc E (oo 0) (opd_lt hW 0) fun sv hi' e hd' g => ?_; conv => whnf
  exact RetX.same ((hk.keep S hN.now rfl rfl) sv hi' e hd' g)
set_option maxRecDepth 100000 in
set_option maxHeartbeats 4000000 in
theorem value_65 (S : StOK hi hm c tc s (base ++ [(f, m)]) ret left) (hN : StN N s (base ++ [(f, m)])) (hN30 : N + 3 < 2 ^ 30) (E : EnvOK hi s) (ha : Arr hi sa 1 (xs.map stCells)) (hxs : ∀ p ∈ xs, NtS hi p.1 p.2) (hr : sa.2.1 < 2 ^ 30) {fb : Nat} (hfb : at0 s.frS fb) (hself : isB f.self) (hcal : isB f.caller) (hW : ∀ p ∈ xs, p.2 < W)
    (hk : VK hi hm c tc s (base ++ [(f, m)]) ret left N (valW (absW s.w) f.self 65 (opdI xs)) (valA (absW s.w) (absF (f, m)) ret s.origin 65 (opdI xs)) K) :
    CallX Hval.prog 135 [.pointer (some ⟨c, 0, none⟩), .pointer (some ⟨fb, (preC base).length, none⟩), .int .u8 65, sl sa] (join hi hm) K := by
  refine CallX.of_xf T_ok Hval.func135 rfl (by kernel_rfl) (Nat.le_of_ble_eq_true rfl) ?_; conv => whnf
  obtain ⟨fb', pad, tf, hfb', hb, hn1, hn2, hn3⟩ := S.top
  have : some (⟨fb', 0, none⟩ : Addr) = some ⟨fb, 0, none⟩ := hfb'.symm.trans hfb
  cases this
  have hok := S.okT
  have hd := S.dj
  have hc := S.chain
  have hcf : c ≠ fb := S.frC fb hfb
  have hwr := hN.now.room S.now (by omega)
  have hbj := join_hm hd hb
  have hcj := join_hm hd hc
  have oo : ∀ i, NtS hi (opdP xs i).1 (opdI xs i) := opdP_ok hxs
  refine operand_ok (ha.ext (Ext.jl _ _)) hr 0 (by decide) ?_; conv => whnf
  refine operand_ok (ha.ext (Ext.jl _ _)) hr 1 (by decide) ?_; conv => whnf
  repeat (first | (refine CondX.tt ?_; conv => whnf) | (refine CondX.ff ?_; conv => whnf))
  refine family_ok (by omega) (by omega) ?_; conv => whnf
  repeat (first | (refine CondX.tt ?_; conv => whnf) | (refine CondX.ff ?_; conv => whnf))
  refine blockValue_ok (o := 65) (by omega) hd hc E (oo 0) (opd_lt hW 0) fun sv hi' e hd' g => ?_; conv => whnf
  exact RetX.same ((hk.keep S hN.now rfl rfl) sv hi' e hd' g)
set_option maxRecDepth 100000 in
set_option maxHeartbeats 4000000 in
theorem value_66 (S : StOK hi hm c tc s (base ++ [(f, m)]) ret left) (hN : StN N s (base ++ [(f, m)])) (hN30 : N + 3 < 2 ^ 30) (E : EnvOK hi s) (ha : Arr hi sa 1 (xs.map stCells)) (hxs : ∀ p ∈ xs, NtS hi p.1 p.2) (hr : sa.2.1 < 2 ^ 30) {fb : Nat} (hfb : at0 s.frS fb) (hself : isB f.self) (hcal : isB f.caller) (hW : ∀ p ∈ xs, p.2 < W)
    (hk : VK hi hm c tc s (base ++ [(f, m)]) ret left N (valW (absW s.w) f.self 66 (opdI xs)) (valA (absW s.w) (absF (f, m)) ret s.origin 66 (opdI xs)) K) :
    CallX Hval.prog 135 [.pointer (some ⟨c, 0, none⟩), .pointer (some ⟨fb, (preC base).length, none⟩), .int .u8 66, sl sa] (join hi hm) K := by
  refine CallX.of_xf T_ok Hval.func135 rfl (by kernel_rfl) (Nat.le_of_ble_eq_true rfl) ?_; conv => whnf
  obtain ⟨fb', pad, tf, hfb', hb, hn1, hn2, hn3⟩ := S.top
  have : some (⟨fb', 0, none⟩ : Addr) = some ⟨fb, 0, none⟩ := hfb'.symm.trans hfb
  cases this
  have hok := S.okT
  have hd := S.dj
  have hc := S.chain
  have hcf : c ≠ fb := S.frC fb hfb
  have hwr := hN.now.room S.now (by omega)
  have hbj := join_hm hd hb
  have hcj := join_hm hd hc
  have oo : ∀ i, NtS hi (opdP xs i).1 (opdI xs i) := opdP_ok hxs
  refine operand_ok (ha.ext (Ext.jl _ _)) hr 0 (by decide) ?_; conv => whnf
  refine operand_ok (ha.ext (Ext.jl _ _)) hr 1 (by decide) ?_; conv => whnf
  repeat (first | (refine CondX.tt ?_; conv => whnf) | (refine CondX.ff ?_; conv => whnf))
  refine family_ok (by omega) (by omega) ?_; conv => whnf
  repeat (first | (refine CondX.tt ?_; conv => whnf) | (refine CondX.ff ?_; conv => whnf))
  refine blockValue_ok (o := 66) (by omega) hd hc E (oo 0) (opd_lt hW 0) fun sv hi' e hd' g => ?_; conv => whnf
  exact RetX.same ((hk.keep S hN.now rfl rfl) sv hi' e hd' g)
set_option maxRecDepth 100000 in
set_option maxHeartbeats 4000000 in
theorem value_67 (S : StOK hi hm c tc s (base ++ [(f, m)]) ret left) (hN : StN N s (base ++ [(f, m)])) (hN30 : N + 3 < 2 ^ 30) (E : EnvOK hi s) (ha : Arr hi sa 1 (xs.map stCells)) (hxs : ∀ p ∈ xs, NtS hi p.1 p.2) (hr : sa.2.1 < 2 ^ 30) {fb : Nat} (hfb : at0 s.frS fb) (hself : isB f.self) (hcal : isB f.caller) (hW : ∀ p ∈ xs, p.2 < W)
    (hk : VK hi hm c tc s (base ++ [(f, m)]) ret left N (valW (absW s.w) f.self 67 (opdI xs)) (valA (absW s.w) (absF (f, m)) ret s.origin 67 (opdI xs)) K) :
    CallX Hval.prog 135 [.pointer (some ⟨c, 0, none⟩), .pointer (some ⟨fb, (preC base).length, none⟩), .int .u8 67, sl sa] (join hi hm) K := by
  refine CallX.of_xf T_ok Hval.func135 rfl (by kernel_rfl) (Nat.le_of_ble_eq_true rfl) ?_; conv => whnf
  obtain ⟨fb', pad, tf, hfb', hb, hn1, hn2, hn3⟩ := S.top
  have : some (⟨fb', 0, none⟩ : Addr) = some ⟨fb, 0, none⟩ := hfb'.symm.trans hfb
  cases this
  have hok := S.okT
  have hd := S.dj
  have hc := S.chain
  have hcf : c ≠ fb := S.frC fb hfb
  have hwr := hN.now.room S.now (by omega)
  have hbj := join_hm hd hb
  have hcj := join_hm hd hc
  have oo : ∀ i, NtS hi (opdP xs i).1 (opdI xs i) := opdP_ok hxs
  refine operand_ok (ha.ext (Ext.jl _ _)) hr 0 (by decide) ?_; conv => whnf
  refine operand_ok (ha.ext (Ext.jl _ _)) hr 1 (by decide) ?_; conv => whnf
  repeat (first | (refine CondX.tt ?_; conv => whnf) | (refine CondX.ff ?_; conv => whnf))
  refine family_ok (by omega) (by omega) ?_; conv => whnf
  repeat (first | (refine CondX.tt ?_; conv => whnf) | (refine CondX.ff ?_; conv => whnf))
  refine blockValue_ok (o := 67) (by omega) hd hc E (oo 0) (opd_lt hW 0) fun sv hi' e hd' g => ?_; conv => whnf
  exact RetX.same ((hk.keep S hN.now rfl rfl) sv hi' e hd' g)
set_option maxRecDepth 100000 in
set_option maxHeartbeats 4000000 in
theorem value_68 (S : StOK hi hm c tc s (base ++ [(f, m)]) ret left) (hN : StN N s (base ++ [(f, m)])) (hN30 : N + 3 < 2 ^ 30) (E : EnvOK hi s) (ha : Arr hi sa 1 (xs.map stCells)) (hxs : ∀ p ∈ xs, NtS hi p.1 p.2) (hr : sa.2.1 < 2 ^ 30) {fb : Nat} (hfb : at0 s.frS fb) (hself : isB f.self) (hcal : isB f.caller) (hW : ∀ p ∈ xs, p.2 < W)
    (hk : VK hi hm c tc s (base ++ [(f, m)]) ret left N (valW (absW s.w) f.self 68 (opdI xs)) (valA (absW s.w) (absF (f, m)) ret s.origin 68 (opdI xs)) K) :
    CallX Hval.prog 135 [.pointer (some ⟨c, 0, none⟩), .pointer (some ⟨fb, (preC base).length, none⟩), .int .u8 68, sl sa] (join hi hm) K := by
  refine CallX.of_xf T_ok Hval.func135 rfl (by kernel_rfl) (Nat.le_of_ble_eq_true rfl) ?_; conv => whnf
  obtain ⟨fb', pad, tf, hfb', hb, hn1, hn2, hn3⟩ := S.top
  have : some (⟨fb', 0, none⟩ : Addr) = some ⟨fb, 0, none⟩ := hfb'.symm.trans hfb
  cases this
  have hok := S.okT
  have hd := S.dj
  have hc := S.chain
  have hcf : c ≠ fb := S.frC fb hfb
  have hwr := hN.now.room S.now (by omega)
  have hbj := join_hm hd hb
  have hcj := join_hm hd hc
  have oo : ∀ i, NtS hi (opdP xs i).1 (opdI xs i) := opdP_ok hxs
  refine operand_ok (ha.ext (Ext.jl _ _)) hr 0 (by decide) ?_; conv => whnf
  refine operand_ok (ha.ext (Ext.jl _ _)) hr 1 (by decide) ?_; conv => whnf
  repeat (first | (refine CondX.tt ?_; conv => whnf) | (refine CondX.ff ?_; conv => whnf))
  refine family_ok (by omega) (by omega) ?_; conv => whnf
  repeat (first | (refine CondX.tt ?_; conv => whnf) | (refine CondX.ff ?_; conv => whnf))
  refine blockValue_ok (o := 68) (by omega) hd hc E (oo 0) (opd_lt hW 0) fun sv hi' e hd' g => ?_; conv => whnf
  exact RetX.same ((hk.keep S hN.now rfl rfl) sv hi' e hd' g)
set_option maxRecDepth 100000 in
set_option maxHeartbeats 4000000 in
theorem value_69 (S : StOK hi hm c tc s (base ++ [(f, m)]) ret left) (hN : StN N s (base ++ [(f, m)])) (hN30 : N + 3 < 2 ^ 30) (E : EnvOK hi s) (ha : Arr hi sa 1 (xs.map stCells)) (hxs : ∀ p ∈ xs, NtS hi p.1 p.2) (hr : sa.2.1 < 2 ^ 30) {fb : Nat} (hfb : at0 s.frS fb) (hself : isB f.self) (hcal : isB f.caller) (hW : ∀ p ∈ xs, p.2 < W)
    (hk : VK hi hm c tc s (base ++ [(f, m)]) ret left N (valW (absW s.w) f.self 69 (opdI xs)) (valA (absW s.w) (absF (f, m)) ret s.origin 69 (opdI xs)) K) :
    CallX Hval.prog 135 [.pointer (some ⟨c, 0, none⟩), .pointer (some ⟨fb, (preC base).length, none⟩), .int .u8 69, sl sa] (join hi hm) K := by
  refine CallX.of_xf T_ok Hval.func135 rfl (by kernel_rfl) (Nat.le_of_ble_eq_true rfl) ?_; conv => whnf
  obtain ⟨fb', pad, tf, hfb', hb, hn1, hn2, hn3⟩ := S.top
  have : some (⟨fb', 0, none⟩ : Addr) = some ⟨fb, 0, none⟩ := hfb'.symm.trans hfb
  cases this
  have hok := S.okT
  have hd := S.dj
  have hc := S.chain
  have hcf : c ≠ fb := S.frC fb hfb
  have hwr := hN.now.room S.now (by omega)
  have hbj := join_hm hd hb
  have hcj := join_hm hd hc
  have oo : ∀ i, NtS hi (opdP xs i).1 (opdI xs i) := opdP_ok hxs
  refine operand_ok (ha.ext (Ext.jl _ _)) hr 0 (by decide) ?_; conv => whnf
  refine operand_ok (ha.ext (Ext.jl _ _)) hr 1 (by decide) ?_; conv => whnf
  repeat (first | (refine CondX.tt ?_; conv => whnf) | (refine CondX.ff ?_; conv => whnf))
  refine family_ok (by omega) (by omega) ?_; conv => whnf
  repeat (first | (refine CondX.tt ?_; conv => whnf) | (refine CondX.ff ?_; conv => whnf))
  refine blockValue_ok (o := 69) (by omega) hd hc E (oo 0) (opd_lt hW 0) fun sv hi' e hd' g => ?_; conv => whnf
  exact RetX.same ((hk.keep S hN.now rfl rfl) sv hi' e hd' g)
set_option maxRecDepth 100000 in
set_option maxHeartbeats 4000000 in
theorem value_70 (S : StOK hi hm c tc s (base ++ [(f, m)]) ret left) (hN : StN N s (base ++ [(f, m)])) (hN30 : N + 3 < 2 ^ 30) (E : EnvOK hi s) (ha : Arr hi sa 1 (xs.map stCells)) (hxs : ∀ p ∈ xs, NtS hi p.1 p.2) (hr : sa.2.1 < 2 ^ 30) {fb : Nat} (hfb : at0 s.frS fb) (hself : isB f.self) (hcal : isB f.caller) (hW : ∀ p ∈ xs, p.2 < W)
    (hk : VK hi hm c tc s (base ++ [(f, m)]) ret left N (valW (absW s.w) f.self 70 (opdI xs)) (valA (absW s.w) (absF (f, m)) ret s.origin 70 (opdI xs)) K) :
    CallX Hval.prog 135 [.pointer (some ⟨c, 0, none⟩), .pointer (some ⟨fb, (preC base).length, none⟩), .int .u8 70, sl sa] (join hi hm) K := by
  refine CallX.of_xf T_ok Hval.func135 rfl (by kernel_rfl) (Nat.le_of_ble_eq_true rfl) ?_; conv => whnf
  obtain ⟨fb', pad, tf, hfb', hb, hn1, hn2, hn3⟩ := S.top
  have : some (⟨fb', 0, none⟩ : Addr) = some ⟨fb, 0, none⟩ := hfb'.symm.trans hfb
  cases this
  have hok := S.okT
  have hd := S.dj
  have hc := S.chain
  have hcf : c ≠ fb := S.frC fb hfb
  have hwr := hN.now.room S.now (by omega)
  have hbj := join_hm hd hb
  have hcj := join_hm hd hc
  have oo : ∀ i, NtS hi (opdP xs i).1 (opdI xs i) := opdP_ok hxs
  refine operand_ok (ha.ext (Ext.jl _ _)) hr 0 (by decide) ?_; conv => whnf
  refine operand_ok (ha.ext (Ext.jl _ _)) hr 1 (by decide) ?_; conv => whnf
  repeat (first | (refine CondX.tt ?_; conv => whnf) | (refine CondX.ff ?_; conv => whnf))
  refine family_ok (by omega) (by omega) ?_; conv => whnf
  repeat (first | (refine CondX.tt ?_; conv => whnf) | (refine CondX.ff ?_; conv => whnf))
  refine blockValue_ok (o := 70) (by omega) hd hc E (oo 0) (opd_lt hW 0) fun sv hi' e hd' g => ?_; conv => whnf
  exact RetX.same ((hk.keep S hN.now rfl rfl) sv hi' e hd' g)
set_option maxRecDepth 100000 in
set_option maxHeartbeats 4000000 in
theorem value_72 (S : StOK hi hm c tc s (base ++ [(f, m)]) ret left) (hN : StN N s (base ++ [(f, m)])) (hN30 : N + 3 < 2 ^ 30) (E : EnvOK hi s) (ha : Arr hi sa 1 (xs.map stCells)) (hxs : ∀ p ∈ xs, NtS hi p.1 p.2) (hr : sa.2.1 < 2 ^ 30) {fb : Nat} (hfb : at0 s.frS fb) (hself : isB f.self) (hcal : isB f.caller) (hW : ∀ p ∈ xs, p.2 < W)
    (hk : VK hi hm c tc s (base ++ [(f, m)]) ret left N (valW (absW s.w) f.self 72 (opdI xs)) (valA (absW s.w) (absF (f, m)) ret s.origin 72 (opdI xs)) K) :
    CallX Hval.prog 135 [.pointer (some ⟨c, 0, none⟩), .pointer (some ⟨fb, (preC base).length, none⟩), .int .u8 72, sl sa] (join hi hm) K := by
  refine CallX.of_xf T_ok Hval.func135 rfl (by kernel_rfl) (Nat.le_of_ble_eq_true rfl) ?_; conv => whnf
  obtain ⟨fb', pad, tf, hfb', hb, hn1, hn2, hn3⟩ := S.top
  have : some (⟨fb', 0, none⟩ : Addr) = some ⟨fb, 0, none⟩ := hfb'.symm.trans hfb
  cases this
  have hok := S.okT
  have hd := S.dj
  have hc := S.chain
  have hcf : c ≠ fb := S.frC fb hfb
  have hwr := hN.now.room S.now (by omega)
  have hbj := join_hm hd hb
  have hcj := join_hm hd hc
  have oo : ∀ i, NtS hi (opdP xs i).1 (opdI xs i) := opdP_ok hxs
  refine operand_ok (ha.ext (Ext.jl _ _)) hr 0 (by decide) ?_; conv => whnf
  refine operand_ok (ha.ext (Ext.jl _ _)) hr 1 (by decide) ?_; conv => whnf
  repeat (first | (refine CondX.tt ?_; conv => whnf) | (refine CondX.ff ?_; conv => whnf))
  refine family_ok (by omega) (by omega) ?_; conv => whnf
  repeat (first | (refine CondX.tt ?_; conv => whnf) | (refine CondX.ff ?_; conv => whnf))
  refine blockValue_ok (o := 72) (by omega) hd hc E (oo 0) (opd_lt hW 0) fun sv hi' e hd' g => ?_; conv => whnf
  exact RetX.same ((hk.keep S hN.now rfl rfl) sv hi' e hd' g)
set_option maxRecDepth 100000 in
set_option maxHeartbeats 4000000 in
theorem value_49 (S : StOK hi hm c tc s (base ++ [(f, m)]) ret left) (hN : StN N s (base ++ [(f, m)])) (hN30 : N + 3 < 2 ^ 30) (E : EnvOK hi s) (ha : Arr hi sa 1 (xs.map stCells)) (hxs : ∀ p ∈ xs, NtS hi p.1 p.2) (hr : sa.2.1 < 2 ^ 30) {fb : Nat} (hfb : at0 s.frS fb) (hself : isB f.self) (hcal : isB f.caller) (hW : ∀ p ∈ xs, p.2 < W)
    (hk : VK hi hm c tc s (base ++ [(f, m)]) ret left N (valW (absW s.w) f.self 49 (opdI xs)) (valA (absW s.w) (absF (f, m)) ret s.origin 49 (opdI xs)) K) :
    CallX Hval.prog 135 [.pointer (some ⟨c, 0, none⟩), .pointer (some ⟨fb, (preC base).length, none⟩), .int .u8 49, sl sa] (join hi hm) K := by
  refine CallX.of_xf T_ok Hval.func135 rfl (by kernel_rfl) (Nat.le_of_ble_eq_true rfl) ?_; conv => whnf
  obtain ⟨fb', pad, tf, hfb', hb, hn1, hn2, hn3⟩ := S.top
  have : some (⟨fb', 0, none⟩ : Addr) = some ⟨fb, 0, none⟩ := hfb'.symm.trans hfb
  cases this
  have hok := S.okT
  have hd := S.dj
  have hc := S.chain
  have hcf : c ≠ fb := S.frC fb hfb
  have hwr := hN.now.room S.now (by omega)
  have hbj := join_hm hd hb
  have hcj := join_hm hd hc
  have oo : ∀ i, NtS hi (opdP xs i).1 (opdI xs i) := opdP_ok hxs
  refine operand_ok (ha.ext (Ext.jl _ _)) hr 0 (by decide) ?_; conv => whnf
  refine operand_ok (ha.ext (Ext.jl _ _)) hr 1 (by decide) ?_; conv => whnf
  repeat (first | (refine CondX.tt ?_; conv => whnf) | (refine CondX.ff ?_; conv => whnf))
  refine family_ok (by omega) (by omega) ?_; conv => whnf
  repeat (first | (refine CondX.tt ?_; conv => whnf) | (refine CondX.ff ?_; conv => whnf))
  refine DrawX.go T_ok hM Hval.func135 (tb := dr135) rfl (by kernel_rfl) ?_; conv => whnf
  refine addrOf_ok ((oo 0).ext (Ext.jl _ _)) ?_; conv => whnf
  have tlen := addrI_length (opdI xs 0)
  refine warmSt_ok S hN.now (by omega) tlen ?_
  intro hi1 w1 e1 S1 sz1 abs1
  conv => whnf
  refine DrawX.go T_ok hM Hval.func135 (tb := dr135) rfl (by kernel_rfl) ?_; conv => whnf
  refine addrOf_ok (((oo 0).ext e1).ext (Ext.jl _ _)) ?_; conv => whnf
  have hwr1 := sz1.room S1.now (by omega)
  refine account_ok (xs := w1.acc) (join_hm S1.dj S1.chain) (show (sCells { s with w := w1 })[0]? = some (sl w1.sA) from rfl) (S1.now.acc.arr.ext (Ext.jl _ _)) (fun x hx => (S1.now.acc.each x hx).addr) tlen (Nat.lt_trans hwr1.acc (by decide)) ?_; conv => whnf
  have hx := getA_ok S1.now.acc.each tlen
  refine CallX.fj S1.dj (accountValue_ok (o := 49) (by omega) hx fun b n c' hi' e g hd' => ?_); conv => whnf
  refine RetX.same (hk hi' w1 (b, n, c') (e1.trans e) (S1.ext e hd') sz1 abs1 ?_)
  have hv : valA (absW s.w) (absF (f, m)) ret s.origin 49 (opdI xs) = accV 49 (getA w1.acc (addrI (opdI xs 0))).nonce (getA w1.acc (addrI (opdI xs 0))).bal (getA w1.acc (addrI (opdI xs 0))).code := by
    have h1 : (absW w1).acct = (absW s.w).acct := by rw [abs1]; rfl
    show accV 49 ((absW s.w).acct (addrI (opdI xs 0))).nonce ((absW s.w).acct (addrI (opdI xs 0))).bal ((absW s.w).acct (addrI (opdI xs 0))).code = accV 49 ((absW w1).acct (addrI (opdI xs 0))).nonce ((absW w1).acct (addrI (opdI xs 0))).bal ((absW w1).acct (addrI (opdI xs 0))).code
    rw [h1]
  rw [hv]
  exact g
set_option maxRecDepth 100000 in
set_option maxHeartbeats 4000000 in
theorem value_59 (S : StOK hi hm c tc s (base ++ [(f, m)]) ret left) (hN : StN N s (base ++ [(f, m)])) (hN30 : N + 3 < 2 ^ 30) (E : EnvOK hi s) (ha : Arr hi sa 1 (xs.map stCells)) (hxs : ∀ p ∈ xs, NtS hi p.1 p.2) (hr : sa.2.1 < 2 ^ 30) {fb : Nat} (hfb : at0 s.frS fb) (hself : isB f.self) (hcal : isB f.caller) (hW : ∀ p ∈ xs, p.2 < W)
    (hk : VK hi hm c tc s (base ++ [(f, m)]) ret left N (valW (absW s.w) f.self 59 (opdI xs)) (valA (absW s.w) (absF (f, m)) ret s.origin 59 (opdI xs)) K) :
    CallX Hval.prog 135 [.pointer (some ⟨c, 0, none⟩), .pointer (some ⟨fb, (preC base).length, none⟩), .int .u8 59, sl sa] (join hi hm) K := by
  refine CallX.of_xf T_ok Hval.func135 rfl (by kernel_rfl) (Nat.le_of_ble_eq_true rfl) ?_; conv => whnf
  obtain ⟨fb', pad, tf, hfb', hb, hn1, hn2, hn3⟩ := S.top
  have : some (⟨fb', 0, none⟩ : Addr) = some ⟨fb, 0, none⟩ := hfb'.symm.trans hfb
  cases this
  have hok := S.okT
  have hd := S.dj
  have hc := S.chain
  have hcf : c ≠ fb := S.frC fb hfb
  have hwr := hN.now.room S.now (by omega)
  have hbj := join_hm hd hb
  have hcj := join_hm hd hc
  have oo : ∀ i, NtS hi (opdP xs i).1 (opdI xs i) := opdP_ok hxs
  refine operand_ok (ha.ext (Ext.jl _ _)) hr 0 (by decide) ?_; conv => whnf
  refine operand_ok (ha.ext (Ext.jl _ _)) hr 1 (by decide) ?_; conv => whnf
  repeat (first | (refine CondX.tt ?_; conv => whnf) | (refine CondX.ff ?_; conv => whnf))
  refine family_ok (by omega) (by omega) ?_; conv => whnf
  repeat (first | (refine CondX.tt ?_; conv => whnf) | (refine CondX.ff ?_; conv => whnf))
  refine DrawX.go T_ok hM Hval.func135 (tb := dr135) rfl (by kernel_rfl) ?_; conv => whnf
  refine addrOf_ok ((oo 0).ext (Ext.jl _ _)) ?_; conv => whnf
  have tlen := addrI_length (opdI xs 0)
  refine warmSt_ok S hN.now (by omega) tlen ?_
  intro hi1 w1 e1 S1 sz1 abs1
  conv => whnf
  refine DrawX.go T_ok hM Hval.func135 (tb := dr135) rfl (by kernel_rfl) ?_; conv => whnf
  refine addrOf_ok (((oo 0).ext e1).ext (Ext.jl _ _)) ?_; conv => whnf
  have hwr1 := sz1.room S1.now (by omega)
  refine account_ok (xs := w1.acc) (join_hm S1.dj S1.chain) (show (sCells { s with w := w1 })[0]? = some (sl w1.sA) from rfl) (S1.now.acc.arr.ext (Ext.jl _ _)) (fun x hx => (S1.now.acc.each x hx).addr) tlen (Nat.lt_trans hwr1.acc (by decide)) ?_; conv => whnf
  have hx := getA_ok S1.now.acc.each tlen
  refine CallX.fj S1.dj (accountValue_ok (o := 59) (by omega) hx fun b n c' hi' e g hd' => ?_); conv => whnf
  refine RetX.same (hk hi' w1 (b, n, c') (e1.trans e) (S1.ext e hd') sz1 abs1 ?_)
  have hv : valA (absW s.w) (absF (f, m)) ret s.origin 59 (opdI xs) = accV 59 (getA w1.acc (addrI (opdI xs 0))).nonce (getA w1.acc (addrI (opdI xs 0))).bal (getA w1.acc (addrI (opdI xs 0))).code := by
    have h1 : (absW w1).acct = (absW s.w).acct := by rw [abs1]; rfl
    show accV 59 ((absW s.w).acct (addrI (opdI xs 0))).nonce ((absW s.w).acct (addrI (opdI xs 0))).bal ((absW s.w).acct (addrI (opdI xs 0))).code = accV 59 ((absW w1).acct (addrI (opdI xs 0))).nonce ((absW w1).acct (addrI (opdI xs 0))).bal ((absW w1).acct (addrI (opdI xs 0))).code
    rw [h1]
  rw [hv]
  exact g
set_option maxRecDepth 100000 in
set_option maxHeartbeats 4000000 in
theorem value_63 (S : StOK hi hm c tc s (base ++ [(f, m)]) ret left) (hN : StN N s (base ++ [(f, m)])) (hN30 : N + 3 < 2 ^ 30) (E : EnvOK hi s) (ha : Arr hi sa 1 (xs.map stCells)) (hxs : ∀ p ∈ xs, NtS hi p.1 p.2) (hr : sa.2.1 < 2 ^ 30) {fb : Nat} (hfb : at0 s.frS fb) (hself : isB f.self) (hcal : isB f.caller) (hW : ∀ p ∈ xs, p.2 < W)
    (hk : VK hi hm c tc s (base ++ [(f, m)]) ret left N (valW (absW s.w) f.self 63 (opdI xs)) (valA (absW s.w) (absF (f, m)) ret s.origin 63 (opdI xs)) K) :
    CallX Hval.prog 135 [.pointer (some ⟨c, 0, none⟩), .pointer (some ⟨fb, (preC base).length, none⟩), .int .u8 63, sl sa] (join hi hm) K := by
  refine CallX.of_xf T_ok Hval.func135 rfl (by kernel_rfl) (Nat.le_of_ble_eq_true rfl) ?_; conv => whnf
  obtain ⟨fb', pad, tf, hfb', hb, hn1, hn2, hn3⟩ := S.top
  have : some (⟨fb', 0, none⟩ : Addr) = some ⟨fb, 0, none⟩ := hfb'.symm.trans hfb
  cases this
  have hok := S.okT
  have hd := S.dj
  have hc := S.chain
  have hcf : c ≠ fb := S.frC fb hfb
  have hwr := hN.now.room S.now (by omega)
  have hbj := join_hm hd hb
  have hcj := join_hm hd hc
  have oo : ∀ i, NtS hi (opdP xs i).1 (opdI xs i) := opdP_ok hxs
  refine operand_ok (ha.ext (Ext.jl _ _)) hr 0 (by decide) ?_; conv => whnf
  refine operand_ok (ha.ext (Ext.jl _ _)) hr 1 (by decide) ?_; conv => whnf
  repeat (first | (refine CondX.tt ?_; conv => whnf) | (refine CondX.ff ?_; conv => whnf))
  refine family_ok (by omega) (by omega) ?_; conv => whnf
  repeat (first | (refine CondX.tt ?_; conv => whnf) | (refine CondX.ff ?_; conv => whnf))
  refine DrawX.go T_ok hM Hval.func135 (tb := dr135) rfl (by kernel_rfl) ?_; conv => whnf
  refine addrOf_ok ((oo 0).ext (Ext.jl _ _)) ?_; conv => whnf
  have tlen := addrI_length (opdI xs 0)
  refine warmSt_ok S hN.now (by omega) tlen ?_
  intro hi1 w1 e1 S1 sz1 abs1
  conv => whnf
  refine DrawX.go T_ok hM Hval.func135 (tb := dr135) rfl (by kernel_rfl) ?_; conv => whnf
  refine addrOf_ok (((oo 0).ext e1).ext (Ext.jl _ _)) ?_; conv => whnf
  have hwr1 := sz1.room S1.now (by omega)
  refine account_ok (xs := w1.acc) (join_hm S1.dj S1.chain) (show (sCells { s with w := w1 })[0]? = some (sl w1.sA) from rfl) (S1.now.acc.arr.ext (Ext.jl _ _)) (fun x hx => (S1.now.acc.each x hx).addr) tlen (Nat.lt_trans hwr1.acc (by decide)) ?_; conv => whnf
  have hx := getA_ok S1.now.acc.each tlen
  refine CallX.fj S1.dj (accountValue_ok (o := 63) (by omega) hx fun b n c' hi' e g hd' => ?_); conv => whnf
  refine RetX.same (hk hi' w1 (b, n, c') (e1.trans e) (S1.ext e hd') sz1 abs1 ?_)
  have hv : valA (absW s.w) (absF (f, m)) ret s.origin 63 (opdI xs) = accV 63 (getA w1.acc (addrI (opdI xs 0))).nonce (getA w1.acc (addrI (opdI xs 0))).bal (getA w1.acc (addrI (opdI xs 0))).code := by
    have h1 : (absW w1).acct = (absW s.w).acct := by rw [abs1]; rfl
    show accV 63 ((absW s.w).acct (addrI (opdI xs 0))).nonce ((absW s.w).acct (addrI (opdI xs 0))).bal ((absW s.w).acct (addrI (opdI xs 0))).code = accV 63 ((absW w1).acct (addrI (opdI xs 0))).nonce ((absW w1).acct (addrI (opdI xs 0))).bal ((absW w1).acct (addrI (opdI xs 0))).code
    rw [h1]
  rw [hv]
  exact g
end
end Go.Proofs.YgvalwGreat.X
