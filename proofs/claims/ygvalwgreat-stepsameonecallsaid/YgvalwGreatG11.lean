import Derived.Test.YgvalwGreatG10
set_option linter.unusedVariables false
set_option linter.unusedSimpArgs false
namespace Go.Proofs.YgvalwGreat.X
open Go

theorem seg_full {l : List Value} : seg l 0 l.length = l := by simp [seg]
section
variable {h : Hp} {K : Value → Hp → Prop}
/-- What BALANCE, EXTCODESIZE and EXTCODEHASH give. -/
def accV (o nonce bal : Int) (code : List Int) : Int := if o = 49 then bal else if o = 59 then code.length else if nonce = 0 ∧ bal = 0 ∧ code = [] then 0 else bv (kSum code)
set_option maxRecDepth 100000 in
set_option maxHeartbeats 4000000 in
theorem accountValue_ok {o : Int} (ho : o = 49 ∨ o = 59 ∨ o = 63) {x : YAcct} (hx : x.ok h) (hk : ∀ b n c h', Ext h h' → Nt h' b n c (accV o x.nonce x.bal x.code) → K (.slice b n c) h') : CallX Hval.prog 214 [.agg (acCells x).toArray, .int .u8 o] h K := by
  refine CallX.of_xf T_ok Hval.func214 rfl (by kernel_rfl) (Nat.le_of_ble_eq_true rfl) ?_; conv => whnf
  refine BoxX.mk fun m hm => ?_; conv => whnf
  have hE : Ext h (hput h m (acCells x, 118)) := Ext.bd hm
  have hx1 := hx.ext hE
  have hcl := hx.code.len
  have hcr := hx.code.room
  have h1 : hput h m (acCells x, 118) m = some (acCells x, 118) := hput_same ..
  rcases ho with rfl | rfl | rfl
  · repeat (first | (refine CondX.tt ?_; conv => whnf) | (refine CondX.ff ?_; conv => whnf))
    refine LoadX.fld h1 hx.addr 1 rfl (v := sl x.bs) rfl ?_; conv => whnf
    refine normN hx1.bal fun b n c h' e g => ?_; conv => whnf
    exact RetX.same (hk b n c h' (hE.trans e) g)
  · repeat (first | (refine CondX.tt ?_; conv => whnf) | (refine CondX.ff ?_; conv => whnf))
    refine LoadX.fld h1 hx.addr 2 rfl (v := sl x.cs) rfl ?_; conv => whnf
    have e1 : IntKind.u64.wrap (x.cs.2.1 : Int) = (x.code.length : Int) := by rw [wrap_u64']; omega
    rw [e1]
    refine num_ok (by omega) (by omega) fun b n c h' e g => ?_; conv => whnf
    exact RetX.same (hk b n c h' (hE.trans e) g)
  · repeat (first | (refine CondX.tt ?_; conv => whnf) | (refine CondX.ff ?_; conv => whnf))
    refine empty_ok h1 hx1 ?_; conv => whnf
    refine CondX.decI (fun hq => ?_) (fun hq => ?_) <;> conv => whnf
    · refine RetX.same (hk none 0 0 _ hE ?_)
      have : accV 63 x.nonce x.bal x.code = 0 := by unfold accV; simp [hq]
      rw [this]; exact Nt_nil _
    · refine LoadX.fld h1 hx.addr 2 rfl (v := sl x.cs) rfl ?_; conv => whnf
      refine kSum_ok hx1.code ?_; conv => whnf
      refine BoxX.on fun m2 hlt hm2 => ?_; conv => whnf
      have klen := kSum_len x.code
      refine Ob.mk ⟨by rw [List.size_toArray, bcells_length, kSum_len]; rfl, ones_bcells _⟩ ?_; conv => whnf
      refine StoreX.at (hput_same ..) (by rw [List.toList_toArray, bcells_length, kSum_len]; exact Nat.le_of_ble_eq_true rfl) ?_; conv => whnf
      rw [List.toList_toArray, setSeg_all (by rw [bcells_length, kSum_len]; rfl), hput_hput]
      have e2 : Ext (hput h m (acCells x, 118)) (hput (hput h m (acCells x, 118)) m2 (bcells (kSum x.code), 32)) := Ext.bd hm2
      have h2 : hput (hput h m (acCells x, 118)) m2 (bcells (kSum x.code), 32) m2 = some (bcells (kSum x.code), 32) := hput_same ..
      refine fromBE_ok (l := kSum x.code) (byt_seg h2 (by rw [← klen, ← bcells_length]; exact seg_full) (by rw [bcells_length, klen]; decide) (kSum_isB _) (by decide)) fun b n c h' e g => ?_; conv => whnf
      refine RetX.same (hk b n c h' ((hE.trans e2).trans e) ?_)
      have : accV 63 x.nonce x.bal x.code = bv (kSum x.code) := by unfold accV; simp [hq]
      rw [this]; exact g
end
/-- What an instruction of one word gives, and does to the world. -/
def valA (w : AW) (f : AF) (ret orig : List Int) (o : Int) (A : Nat → Int) : Int :=
  if o = 32 then bv (kSum (cutN f.mem (A 0).toNat (A 1).toNat))
  else if famI o = 1 then aluI o.toNat (A 0) (A 1) (A 2)
  else if 95 ≤ o ∧ o ≤ 127 then bv (cutN f.code (f.pc + 1).toNat (immI o).toNat)
  else if (64 ≤ o ∧ o ≤ 70) ∨ o = 72 then blkI o
  else if o = 49 ∨ o = 59 ∨ o = 63 then accV o (w.acct (addrI (A 0))).nonce (w.acct (addrI (A 0))).bal (w.acct (addrI (A 0))).code
  else if o = 48 then bv f.self
  else if o = 50 then bv orig
  else if o = 51 then bv f.caller
  else if o = 52 then f.val
  else if o = 53 then bv (cutN f.input (A 0).toNat 32)
  else if o = 54 then f.input.length
  else if o = 56 then f.code.length
  else if o = 58 then 0
  else if o = 61 then ret.length
  else if o = 71 then (w.acct f.self).bal
  else if o = 81 then bv (cutN f.mem (A 0).toNat 32)
  else if o = 84 then (w.acct f.self).slot (A 0)
  else if o = 92 then w.temp f.self (A 0)
  else if o = 88 then f.pc
  else if o = 89 then f.mem.length
  else if o = 90 then f.gas
  else 0
def valW (w : AW) (self : List Int) (o : Int) (A : Nat → Int) : AW :=
  if o = 49 ∨ o = 59 ∨ o = 63 then warmW w (addrI (A 0)) else if o = 84 then warmSW w self (A 0) else w
/-- The continuation of a function that gives a word and turns only the world. -/
def VK (hi hm : Hp) (c : Nat) (tc : TypeId) (s : YS) (frs : List (YF × List Int)) (ret : List Int) (left : Int) (N : Nat) (X : AW) (v : Int) (K : Value → Hp → Prop) : Prop :=
  ∀ hi' w' sv, Ext hi hi' → StOK hi' (hput hm c (sCells { s with w := w' }, tc)) c tc { s with w := w' } frs ret left → w'.sz (N + 1) → absW w' = X → NtS hi' sv v → K (sl sv) (join hi' (hput hm c (sCells { s with w := w' }, tc)))
section
variable {hi hm : Hp} {K : Value → Hp → Prop} {c : Nat} {tc : TypeId} {s : YS} {base frs : List (YF × List Int)} {f : YF} {m ret : List Int} {left : Int} {N : Nat} {sa : Sl} {xs : List (Sl × Int)}
theorem VK.keep {v v' : Int} {X : AW} (hk : VK hi hm c tc s frs ret left N X v K) (S : StOK hi hm c tc s frs ret left) (hN : s.w.sz N) (hX : X = absW s.w) (hv : v = v') : ∀ sv hi', Ext hi hi' → Dj hi' hm → NtS hi' sv v' → K (sl sv) (join hi' hm) := by
  intro sv hi' e hd g
  have h1 : hput hm c (sCells { s with w := s.w }, tc) = hm := hput_id S.chain
  have := hk hi' s.w sv e (by rw [h1]; exact S.ext e hd) (hN.mono (Nat.le_succ _)) hX.symm (by rw [hv]; exact g)
  rwa [h1] at this
/-- The operands, as numbers. -/
def opdI (xs : List (Sl × Int)) (i : Nat) : Int := (opdP xs i).2

theorem frm_le12 {n k : Nat} : n + 12 + 20 ≤ n + (60 + k) := by omega
theorem frm_le32 {n k : Nat} : n + 32 + 20 ≤ n + (60 + k) := by omega
theorem seg_origin {s : YS} (h : s.origin.length = 20) : seg (sCells s) 19 20 = bcells s.origin := by
  have e : (bcells s.origin).length = 20 := by rw [bcells_length, h]
  unfold sCells
  rw [seg_tail (k := 0) (by rfl)]
  simp [seg, ← e]
theorem org_le {s : YS} (h : s.origin.length = 20) : 19 + 20 ≤ (sCells s).length := by simp [sCells, bcells_length, h]
set_option maxRecDepth 100000 in
set_option maxHeartbeats 4000000 in
theorem value_48 (S : StOK hi hm c tc s (base ++ [(f, m)]) ret left) (hN : StN N s (base ++ [(f, m)])) (hN30 : N + 3 < 2 ^ 30) (E : EnvOK hi s) (ha : Arr hi sa 1 (xs.map stCells)) (hxs : ∀ p ∈ xs, NtS hi p.1 p.2) (hr : sa.2.1 < 2 ^ 30) {fb : Nat} (hfb : at0 s.frS fb) (hself : isB f.self) (hcal : isB f.caller) (hW : ∀ p ∈ xs, p.2 < W)
    (hk : VK hi hm c tc s (base ++ [(f, m)]) ret left N (valW (absW s.w) f.self 48 (opdI xs)) (valA (absW s.w) (absF (f, m)) ret s.origin 48 (opdI xs)) K) :
    CallX Hval.prog 135 [.pointer (some ⟨c, 0, none⟩), .pointer (some ⟨fb, (preC base).length, none⟩), .int .u8 48, sl sa] (join hi hm) K := by
  refine CallX.of_xf T_ok Hval.func135 rfl (by kernel_rfl) (Nat.le_of_ble_eq_true rfl) ?_; conv => whnf
  obtain ⟨fb', pad, tf, hfb', hb, hn1, hn2, hn3⟩ := S.top
  have : some (⟨fb', 0, none⟩ : Addr) = some ⟨fb, 0, none⟩ := hfb'.symm.trans hfb
  cases this
  have hok := S.okT
  have hd := S.dj
  have hc := S.chain
  have hcf : c ≠ fb := S.frC fb hfb
  have hwr := hN.now.room S.now (by omega)
  have hbj := join_hm hd hb
  have hcj := join_hm hd hc
  have oo : ∀ i, NtS hi (opdP xs i).1 (opdI xs i) := opdP_ok hxs
  refine operand_ok (ha.ext (Ext.jl _ _)) hr 0 (by decide) ?_; conv => whnf
  refine operand_ok (ha.ext (Ext.jl _ _)) hr 1 (by decide) ?_; conv => whnf
  repeat (first | (refine CondX.tt ?_; conv => whnf) | (refine CondX.ff ?_; conv => whnf))
  refine family_ok (by omega) (by omega) ?_; conv => whnf
  repeat (first | (refine CondX.tt ?_; conv => whnf) | (refine CondX.ff ?_; conv => whnf))
  refine fromBE_j hd (byt_seg hbj (seg_self hok.self) (by rw [mid_len hok.self hok.caller]; exact frm_le12) hself (by decide)) fun sv hi' e hd' g => ?_; conv => whnf
  exact RetX.same ((hk.keep S hN.now rfl rfl) sv hi' e hd' g)
set_option maxRecDepth 100000 in
set_option maxHeartbeats 4000000 in
theorem value_51 (S : StOK hi hm c tc s (base ++ [(f, m)]) ret left) (hN : StN N s (base ++ [(f, m)])) (hN30 : N + 3 < 2 ^ 30) (E : EnvOK hi s) (ha : Arr hi sa 1 (xs.map stCells)) (hxs : ∀ p ∈ xs, NtS hi p.1 p.2) (hr : sa.2.1 < 2 ^ 30) {fb : Nat} (hfb : at0 s.frS fb) (hself : isB f.self) (hcal : isB f.caller) (hW : ∀ p ∈ xs, p.2 < W)
    (hk : VK hi hm c tc s (base ++ [(f, m)]) ret left N (valW (absW s.w) f.self 51 (opdI xs)) (valA (absW s.w) (absF (f, m)) ret s.origin 51 (opdI xs)) K) :
    CallX Hval.prog 135 [.pointer (some ⟨c, 0, none⟩), .pointer (some ⟨fb, (preC base).length, none⟩), .int .u8 51, sl sa] (join hi hm) K := by
  refine CallX.of_xf T_ok Hval.func135 rfl (by kernel_rfl) (Nat.le_of_ble_eq_true rfl) ?_; conv => whnf
  obtain ⟨fb', pad, tf, hfb', hb, hn1, hn2, hn3⟩ := S.top
  have : some (⟨fb', 0, none⟩ : Addr) = some ⟨fb, 0, none⟩ := hfb'.symm.trans hfb
  cases this
  have hok := S.okT
  have hd := S.dj
  have hc := S.chain
  have hcf : c ≠ fb := S.frC fb hfb
  have hwr := hN.now.room S.now (by omega)
  have hbj := join_hm hd hb
  have hcj := join_hm hd hc
  have oo : ∀ i, NtS hi (opdP xs i).1 (opdI xs i) := opdP_ok hxs
  refine operand_ok (ha.ext (Ext.jl _ _)) hr 0 (by decide) ?_; conv => whnf
  refine operand_ok (ha.ext (Ext.jl _ _)) hr 1 (by decide) ?_; conv => whnf
  repeat (first | (refine CondX.tt ?_; conv => whnf) | (refine CondX.ff ?_; conv => whnf))
  refine family_ok (by omega) (by omega) ?_; conv => whnf
  repeat (first | (refine CondX.tt ?_; conv => whnf) | (refine CondX.ff ?_; conv => whnf))
  refine fromBE_j hd (byt_seg hbj (seg_caller hok.self hok.caller) (by rw [mid_len hok.self hok.caller]; exact frm_le32) hcal (by decide)) fun sv hi' e hd' g => ?_; conv => whnf
  exact RetX.same ((hk.keep S hN.now rfl rfl) sv hi' e hd' g)
set_option maxRecDepth 100000 in
set_option maxHeartbeats 4000000 in
theorem value_50 (S : StOK hi hm c tc s (base ++ [(f, m)]) ret left) (hN : StN N s (base ++ [(f, m)])) (hN30 : N + 3 < 2 ^ 30) (E : EnvOK hi s) (ha : Arr hi sa 1 (xs.map stCells)) (hxs : ∀ p ∈ xs, NtS hi p.1 p.2) (hr : sa.2.1 < 2 ^ 30) {fb : Nat} (hfb : at0 s.frS fb) (hself : isB f.self) (hcal : isB f.caller) (hW : ∀ p ∈ xs, p.2 < W)
    (hk : VK hi hm c tc s (base ++ [(f, m)]) ret left N (valW (absW s.w) f.self 50 (opdI xs)) (valA (absW s.w) (absF (f, m)) ret s.origin 50 (opdI xs)) K) :
    CallX Hval.prog 135 [.pointer (some ⟨c, 0, none⟩), .pointer (some ⟨fb, (preC base).length, none⟩), .int .u8 50, sl sa] (join hi hm) K := by
  refine CallX.of_xf T_ok Hval.func135 rfl (by kernel_rfl) (Nat.le_of_ble_eq_true rfl) ?_; conv => whnf
  obtain ⟨fb', pad, tf, hfb', hb, hn1, hn2, hn3⟩ := S.top
  have : some (⟨fb', 0, none⟩ : Addr) = some ⟨fb, 0, none⟩ := hfb'.symm.trans hfb
  cases this
  have hok := S.okT
  have hd := S.dj
  have hc := S.chain
  have hcf : c ≠ fb := S.frC fb hfb
  have hwr := hN.now.room S.now (by omega)
  have hbj := join_hm hd hb
  have hcj := join_hm hd hc
  have oo : ∀ i, NtS hi (opdP xs i).1 (opdI xs i) := opdP_ok hxs
  refine operand_ok (ha.ext (Ext.jl _ _)) hr 0 (by decide) ?_; conv => whnf
  refine operand_ok (ha.ext (Ext.jl _ _)) hr 1 (by decide) ?_; conv => whnf
  repeat (first | (refine CondX.tt ?_; conv => whnf) | (refine CondX.ff ?_; conv => whnf))
  refine family_ok (by omega) (by omega) ?_; conv => whnf
  repeat (first | (refine CondX.tt ?_; conv => whnf) | (refine CondX.ff ?_; conv => whnf))
  refine fromBE_j hd (byt_seg hcj (seg_origin E.origin) (org_le E.origin) E.oB (by decide)) fun sv hi' e hd' g => ?_; conv => whnf
  exact RetX.same ((hk.keep S hN.now rfl rfl) sv hi' e hd' g)
set_option maxRecDepth 100000 in
set_option maxHeartbeats 4000000 in
theorem value_52 (S : StOK hi hm c tc s (base ++ [(f, m)]) ret left) (hN : StN N s (base ++ [(f, m)])) (hN30 : N + 3 < 2 ^ 30) (E : EnvOK hi s) (ha : Arr hi sa 1 (xs.map stCells)) (hxs : ∀ p ∈ xs, NtS hi p.1 p.2) (hr : sa.2.1 < 2 ^ 30) {fb : Nat} (hfb : at0 s.frS fb) (hself : isB f.self) (hcal : isB f.caller) (hW : ∀ p ∈ xs, p.2 < W)
    (hk : VK hi hm c tc s (base ++ [(f, m)]) ret left N (valW (absW s.w) f.self 52 (opdI xs)) (valA (absW s.w) (absF (f, m)) ret s.origin 52 (opdI xs)) K) :
    CallX Hval.prog 135 [.pointer (some ⟨c, 0, none⟩), .pointer (some ⟨fb, (preC base).length, none⟩), .int .u8 52, sl sa] (join hi hm) K := by
  refine CallX.of_xf T_ok Hval.func135 rfl (by kernel_rfl) (Nat.le_of_ble_eq_true rfl) ?_; conv => whnf
  obtain ⟨fb', pad, tf, hfb', hb, hn1, hn2, hn3⟩ := S.top
  have : some (⟨fb', 0, none⟩ : Addr) = some ⟨fb, 0, none⟩ := hfb'.symm.trans hfb
  cases this
  have hok := S.okT
  have hd := S.dj
  have hc := S.chain
  have hcf : c ≠ fb := S.frC fb hfb
  have hwr := hN.now.room S.now (by omega)
  have hbj := join_hm hd hb
  have hcj := join_hm hd hc
  have oo : ∀ i, NtS hi (opdP xs i).1 (opdI xs i) := opdP_ok hxs
  refine operand_ok (ha.ext (Ext.jl _ _)) hr 0 (by decide) ?_; conv => whnf
  refine operand_ok (ha.ext (Ext.jl _ _)) hr 1 (by decide) ?_; conv => whnf
  repeat (first | (refine CondX.tt ?_; conv => whnf) | (refine CondX.ff ?_; conv => whnf))
  refine family_ok (by omega) (by omega) ?_; conv => whnf
  repeat (first | (refine CondX.tt ?_; conv => whnf) | (refine CondX.ff ?_; conv => whnf))
  refine LoadX.mid hbj 5 (by decide) rfl (v := sl f.valS) rfl ?_; conv => whnf
  refine CallX.fj hd (normN hok.val fun b n c hi' e g hd' => ?_); conv => whnf
  exact RetX.same ((hk.keep S hN.now rfl rfl) (b, n, c) hi' e hd' g)
set_option maxRecDepth 100000 in
set_option maxHeartbeats 4000000 in
theorem value_88 (S : StOK hi hm c tc s (base ++ [(f, m)]) ret left) (hN : StN N s (base ++ [(f, m)])) (hN30 : N + 3 < 2 ^ 30) (E : EnvOK hi s) (ha : Arr hi sa 1 (xs.map stCells)) (hxs : ∀ p ∈ xs, NtS hi p.1 p.2) (hr : sa.2.1 < 2 ^ 30) {fb : Nat} (hfb : at0 s.frS fb) (hself : isB f.self) (hcal : isB f.caller) (hW : ∀ p ∈ xs, p.2 < W)
    (hk : VK hi hm c tc s (base ++ [(f, m)]) ret left N (valW (absW s.w) f.self 88 (opdI xs)) (valA (absW s.w) (absF (f, m)) ret s.origin 88 (opdI xs)) K) :
    CallX Hval.prog 135 [.pointer (some ⟨c, 0, none⟩), .pointer (some ⟨fb, (preC base).length, none⟩), .int .u8 88, sl sa] (join hi hm) K := by
  refine CallX.of_xf T_ok Hval.func135 rfl (by kernel_rfl) (Nat.le_of_ble_eq_true rfl) ?_; conv => whnf
  obtain ⟨fb', pad, tf, hfb', hb, hn1, hn2, hn3⟩ := S.top
  have : some (⟨fb', 0, none⟩ : Addr) = some ⟨fb, 0, none⟩ := hfb'.symm.trans hfb
  cases this
  have hok := S.okT
  have hd := S.dj
  have hc := S.chain
  have hcf : c ≠ fb := S.frC fb hfb
  have hwr := hN.now.room S.now (by omega)
  have hbj := join_hm hd hb
  have hcj := join_hm hd hc
  have oo : ∀ i, NtS hi (opdP xs i).1 (opdI xs i) := opdP_ok hxs
  refine operand_ok (ha.ext (Ext.jl _ _)) hr 0 (by decide) ?_; conv => whnf
  refine operand_ok (ha.ext (Ext.jl _ _)) hr 1 (by decide) ?_; conv => whnf
  repeat (first | (refine CondX.tt ?_; conv => whnf) | (refine CondX.ff ?_; conv => whnf))
  refine family_ok (by omega) (by omega) ?_; conv => whnf
  repeat (first | (refine CondX.tt ?_; conv => whnf) | (refine CondX.ff ?_; conv => whnf))
  refine LoadX.mid hbj 3 (by decide) rfl (v := sl f.pcS) rfl ?_; conv => whnf
  refine CallX.fj hd (normN hok.pc fun b n c hi' e g hd' => ?_); conv => whnf
  exact RetX.same ((hk.keep S hN.now rfl rfl) (b, n, c) hi' e hd' g)
set_option maxRecDepth 100000 in
set_option maxHeartbeats 4000000 in
theorem value_90 (S : StOK hi hm c tc s (base ++ [(f, m)]) ret left) (hN : StN N s (base ++ [(f, m)])) (hN30 : N + 3 < 2 ^ 30) (E : EnvOK hi s) (ha : Arr hi sa 1 (xs.map stCells)) (hxs : ∀ p ∈ xs, NtS hi p.1 p.2) (hr : sa.2.1 < 2 ^ 30) {fb : Nat} (hfb : at0 s.frS fb) (hself : isB f.self) (hcal : isB f.caller) (hW : ∀ p ∈ xs, p.2 < W)
    (hk : VK hi hm c tc s (base ++ [(f, m)]) ret left N (valW (absW s.w) f.self 90 (opdI xs)) (valA (absW s.w) (absF (f, m)) ret s.origin 90 (opdI xs)) K) :
    CallX Hval.prog 135 [.pointer (some ⟨c, 0, none⟩), .pointer (some ⟨fb, (preC base).length, none⟩), .int .u8 90, sl sa] (join hi hm) K := by
  refine CallX.of_xf T_ok Hval.func135 rfl (by kernel_rfl) (Nat.le_of_ble_eq_true rfl) ?_; conv => whnf
  obtain ⟨fb', pad, tf, hfb', hb, hn1, hn2, hn3⟩ := S.top
  have : some (⟨fb', 0, none⟩ : Addr) = some ⟨fb, 0, none⟩ := hfb'.symm.trans hfb
  cases this
  have hok := S.okT
  have hd := S.dj
  have hc := S.chain
  have hcf : c ≠ fb := S.frC fb hfb
  have hwr := hN.now.room S.now (by omega)
  have hbj := join_hm hd hb
  have hcj := join_hm hd hc
  have oo : ∀ i, NtS hi (opdP xs i).1 (opdI xs i) := opdP_ok hxs
  refine operand_ok (ha.ext (Ext.jl _ _)) hr 0 (by decide) ?_; conv => whnf
  refine operand_ok (ha.ext (Ext.jl _ _)) hr 1 (by decide) ?_; conv => whnf
  repeat (first | (refine CondX.tt ?_; conv => whnf) | (refine CondX.ff ?_; conv => whnf))
  refine family_ok (by omega) (by omega) ?_; conv => whnf
  repeat (first | (refine CondX.tt ?_; conv => whnf) | (refine CondX.ff ?_; conv => whnf))
  refine LoadX.mid hbj 4 (by decide) rfl (v := sl f.gasS) rfl ?_; conv => whnf
  refine CallX.fj hd (normN hok.gas fun b n c hi' e g hd' => ?_); conv => whnf
  exact RetX.same ((hk.keep S hN.now rfl rfl) (b, n, c) hi' e hd' g)
set_option maxRecDepth 100000 in
set_option maxHeartbeats 4000000 in
theorem value_58 (S : StOK hi hm c tc s (base ++ [(f, m)]) ret left) (hN : StN N s (base ++ [(f, m)])) (hN30 : N + 3 < 2 ^ 30) (E : EnvOK hi s) (ha : Arr hi sa 1 (xs.map stCells)) (hxs : ∀ p ∈ xs, NtS hi p.1 p.2) (hr : sa.2.1 < 2 ^ 30) {fb : Nat} (hfb : at0 s.frS fb) (hself : isB f.self) (hcal : isB f.caller) (hW : ∀ p ∈ xs, p.2 < W)
    (hk : VK hi hm c tc s (base ++ [(f, m)]) ret left N (valW (absW s.w) f.self 58 (opdI xs)) (valA (absW s.w) (absF (f, m)) ret s.origin 58 (opdI xs)) K) :
    CallX Hval.prog 135 [.pointer (some ⟨c, 0, none⟩), .pointer (some ⟨fb, (preC base).length, none⟩), .int .u8 58, sl sa] (join hi hm) K := by
  refine CallX.of_xf T_ok Hval.func135 rfl (by kernel_rfl) (Nat.le_of_ble_eq_true rfl) ?_; conv => whnf
  obtain ⟨fb', pad, tf, hfb', hb, hn1, hn2, hn3⟩ := S.top
  have : some (⟨fb', 0, none⟩ : Addr) = some ⟨fb, 0, none⟩ := hfb'.symm.trans hfb
  cases this
  have hok := S.okT
  have hd := S.dj
  have hc := S.chain
  have hcf : c ≠ fb := S.frC fb hfb
  have hwr := hN.now.room S.now (by omega)
  have hbj := join_hm hd hb
  have hcj := join_hm hd hc
  have oo : ∀ i, NtS hi (opdP xs i).1 (opdI xs i) := opdP_ok hxs
  refine operand_ok (ha.ext (Ext.jl _ _)) hr 0 (by decide) ?_; conv => whnf
  refine operand_ok (ha.ext (Ext.jl _ _)) hr 1 (by decide) ?_; conv => whnf
  repeat (first | (refine CondX.tt ?_; conv => whnf) | (refine CondX.ff ?_; conv => whnf))
  refine family_ok (by omega) (by omega) ?_; conv => whnf
  repeat (first | (refine CondX.tt ?_; conv => whnf) | (refine CondX.ff ?_; conv => whnf))
  refine LoadX.blk hcj (sl s.priceS) rfl ?_; conv => whnf
  refine CallX.fj hd (normN E.price fun b n c hi' e g hd' => ?_); conv => whnf
  exact RetX.same ((hk.keep S hN.now rfl rfl) (b, n, c) hi' e hd' g)
set_option maxRecDepth 100000 in
set_option maxHeartbeats 4000000 in
theorem value_54 (S : StOK hi hm c tc s (base ++ [(f, m)]) ret left) (hN : StN N s (base ++ [(f, m)])) (hN30 : N + 3 < 2 ^ 30) (E : EnvOK hi s) (ha : Arr hi sa 1 (xs.map stCells)) (hxs : ∀ p ∈ xs, NtS hi p.1 p.2) (hr : sa.2.1 < 2 ^ 30) {fb : Nat} (hfb : at0 s.frS fb) (hself : isB f.self) (hcal : isB f.caller) (hW : ∀ p ∈ xs, p.2 < W)
    (hk : VK hi hm c tc s (base ++ [(f, m)]) ret left N (valW (absW s.w) f.self 54 (opdI xs)) (valA (absW s.w) (absF (f, m)) ret s.origin 54 (opdI xs)) K) :
    CallX Hval.prog 135 [.pointer (some ⟨c, 0, none⟩), .pointer (some ⟨fb, (preC base).length, none⟩), .int .u8 54, sl sa] (join hi hm) K := by
  refine CallX.of_xf T_ok Hval.func135 rfl (by kernel_rfl) (Nat.le_of_ble_eq_true rfl) ?_; conv => whnf
  obtain ⟨fb', pad, tf, hfb', hb, hn1, hn2, hn3⟩ := S.top
  have : some (⟨fb', 0, none⟩ : Addr) = some ⟨fb, 0, none⟩ := hfb'.symm.trans hfb
  cases this
  have hok := S.okT
  have hd := S.dj
  have hc := S.chain
  have hcf : c ≠ fb := S.frC fb hfb
  have hwr := hN.now.room S.now (by omega)
  have hbj := join_hm hd hb
  have hcj := join_hm hd hc
  have oo : ∀ i, NtS hi (opdP xs i).1 (opdI xs i) := opdP_ok hxs
  refine operand_ok (ha.ext (Ext.jl _ _)) hr 0 (by decide) ?_; conv => whnf
  refine operand_ok (ha.ext (Ext.jl _ _)) hr 1 (by decide) ?_; conv => whnf
  repeat (first | (refine CondX.tt ?_; conv => whnf) | (refine CondX.ff ?_; conv => whnf))
  refine family_ok (by omega) (by omega) ?_; conv => whnf
  repeat (first | (refine CondX.tt ?_; conv => whnf) | (refine CondX.ff ?_; conv => whnf))
  refine LoadX.mid hbj 11 (by decide) rfl (v := sl f.inS) rfl ?_; conv => whnf
  have e1 : IntKind.u64.wrap (f.inS.2.1 : Int) = (f.input.length : Int) := by have := hok.input.len; have := hok.input.room; rw [wrap_u64']; omega
  rw [e1]
  have := hok.input.len; have := hok.input.room
  refine CallX.fj hd (num_ok (by omega) (by omega) fun b n c hi' e g hd' => ?_); conv => whnf
  exact RetX.same ((hk.keep S hN.now rfl rfl) (b, n, c) hi' e hd' g)
set_option maxRecDepth 100000 in
set_option maxHeartbeats 4000000 in
theorem value_56 (S : StOK hi hm c tc s (base ++ [(f, m)]) ret left) (hN : StN N s (base ++ [(f, m)])) (hN30 : N + 3 < 2 ^ 30) (E : EnvOK hi s) (ha : Arr hi sa 1 (xs.map stCells)) (hxs : ∀ p ∈ xs, NtS hi p.1 p.2) (hr : sa.2.1 < 2 ^ 30) {fb : Nat} (hfb : at0 s.frS fb) (hself : isB f.self) (hcal : isB f.caller) (hW : ∀ p ∈ xs, p.2 < W)
    (hk : VK hi hm c tc s (base ++ [(f, m)]) ret left N (valW (absW s.w) f.self 56 (opdI xs)) (valA (absW s.w) (absF (f, m)) ret s.origin 56 (opdI xs)) K) :
    CallX Hval.prog 135 [.pointer (some ⟨c, 0, none⟩), .pointer (some ⟨fb, (preC base).length, none⟩), .int .u8 56, sl sa] (join hi hm) K := by
  refine CallX.of_xf T_ok Hval.func135 rfl (by kernel_rfl) (Nat.le_of_ble_eq_true rfl) ?_; conv => whnf
  obtain ⟨fb', pad, tf, hfb', hb, hn1, hn2, hn3⟩ := S.top
  have : some (⟨fb', 0, none⟩ : Addr) = some ⟨fb, 0, none⟩ := hfb'.symm.trans hfb
  cases this
  have hok := S.okT
  have hd := S.dj
  have hc := S.chain
  have hcf : c ≠ fb := S.frC fb hfb
  have hwr := hN.now.room S.now (by omega)
  have hbj := join_hm hd hb
  have hcj := join_hm hd hc
  have oo : ∀ i, NtS hi (opdP xs i).1 (opdI xs i) := opdP_ok hxs
  refine operand_ok (ha.ext (Ext.jl _ _)) hr 0 (by decide) ?_; conv => whnf
  refine operand_ok (ha.ext (Ext.jl _ _)) hr 1 (by decide) ?_; conv => whnf
  repeat (first | (refine CondX.tt ?_; conv => whnf) | (refine CondX.ff ?_; conv => whnf))
  refine family_ok (by omega) (by omega) ?_; conv => whnf
  repeat (first | (refine CondX.tt ?_; conv => whnf) | (refine CondX.ff ?_; conv => whnf))
  refine LoadX.mid hbj 10 (by decide) rfl (v := sl f.codeS) rfl ?_; conv => whnf
  have e1 : IntKind.u64.wrap (f.codeS.2.1 : Int) = (f.code.length : Int) := by have := hok.code.len; have := hok.code.room; rw [wrap_u64']; omega
  rw [e1]
  have := hok.code.len; have := hok.code.room
  refine CallX.fj hd (num_ok (by omega) (by omega) fun b n c hi' e g hd' => ?_); conv => whnf
  exact RetX.same ((hk.keep S hN.now rfl rfl) (b, n, c) hi' e hd' g)
set_option maxRecDepth 100000 in
set_option maxHeartbeats 4000000 in
theorem value_61 (S : StOK hi hm c tc s (base ++ [(f, m)]) ret left) (hN : StN N s (base ++ [(f, m)])) (hN30 : N + 3 < 2 ^ 30) (E : EnvOK hi s) (ha : Arr hi sa 1 (xs.map stCells)) (hxs : ∀ p ∈ xs, NtS hi p.1 p.2) (hr : sa.2.1 < 2 ^ 30) {fb : Nat} (hfb : at0 s.frS fb) (hself : isB f.self) (hcal : isB f.caller) (hW : ∀ p ∈ xs, p.2 < W)
    (hk : VK hi hm c tc s (base ++ [(f, m)]) ret left N (valW (absW s.w) f.self 61 (opdI xs)) (valA (absW s.w) (absF (f, m)) ret s.origin 61 (opdI xs)) K) :
    CallX Hval.prog 135 [.pointer (some ⟨c, 0, none⟩), .pointer (some ⟨fb, (preC base).length, none⟩), .int .u8 61, sl sa] (join hi hm) K := by
  refine CallX.of_xf T_ok Hval.func135 rfl (by kernel_rfl) (Nat.le_of_ble_eq_true rfl) ?_; conv => whnf
  obtain ⟨fb', pad, tf, hfb', hb, hn1, hn2, hn3⟩ := S.top
  have : some (⟨fb', 0, none⟩ : Addr) = some ⟨fb, 0, none⟩ := hfb'.symm.trans hfb
  cases this
  have hok := S.okT
  have hd := S.dj
  have hc := S.chain
  have hcf : c ≠ fb := S.frC fb hfb
  have hwr := hN.now.room S.now (by omega)
  have hbj := join_hm hd hb
  have hcj := join_hm hd hc
  have oo : ∀ i, NtS hi (opdP xs i).1 (opdI xs i) := opdP_ok hxs
  refine operand_ok (ha.ext (Ext.jl _ _)) hr 0 (by decide) ?_; conv => whnf
  refine operand_ok (ha.ext (Ext.jl _ _)) hr 1 (by decide) ?_; conv => whnf
  repeat (first | (refine CondX.tt ?_; conv => whnf) | (refine CondX.ff ?_; conv => whnf))
  refine family_ok (by omega) (by omega) ?_; conv => whnf
  repeat (first | (refine CondX.tt ?_; conv => whnf) | (refine CondX.ff ?_; conv => whnf))
  refine LoadX.blk hcj (sl s.retS) rfl ?_; conv => whnf
  have := S.ret.len; have := S.ret.room
  have e1 : IntKind.u64.wrap (s.retS.2.1 : Int) = (ret.length : Int) := by rw [wrap_u64']; omega
  rw [e1]
  refine CallX.fj hd (num_ok (by omega) (by omega) fun b n c hi' e g hd' => ?_); conv => whnf
  exact RetX.same ((hk.keep S hN.now rfl rfl) (b, n, c) hi' e hd' g)
set_option maxRecDepth 100000 in
set_option maxHeartbeats 4000000 in
theorem value_89 (S : StOK hi hm c tc s (base ++ [(f, m)]) ret left) (hN : StN N s (base ++ [(f, m)])) (hN30 : N + 3 < 2 ^ 30) (E : EnvOK hi s) (ha : Arr hi sa 1 (xs.map stCells)) (hxs : ∀ p ∈ xs, NtS hi p.1 p.2) (hr : sa.2.1 < 2 ^ 30) {fb : Nat} (hfb : at0 s.frS fb) (hself : isB f.self) (hcal : isB f.caller) (hW : ∀ p ∈ xs, p.2 < W)
    (hk : VK hi hm c tc s (base ++ [(f, m)]) ret left N (valW (absW s.w) f.self 89 (opdI xs)) (valA (absW s.w) (absF (f, m)) ret s.origin 89 (opdI xs)) K) :
    CallX Hval.prog 135 [.pointer (some ⟨c, 0, none⟩), .pointer (some ⟨fb, (preC base).length, none⟩), .int .u8 89, sl sa] (join hi hm) K := by
  refine CallX.of_xf T_ok Hval.func135 rfl (by kernel_rfl) (Nat.le_of_ble_eq_true rfl) ?_; conv => whnf
  obtain ⟨fb', pad, tf, hfb', hb, hn1, hn2, hn3⟩ := S.top
  have : some (⟨fb', 0, none⟩ : Addr) = some ⟨fb, 0, none⟩ := hfb'.symm.trans hfb
  cases this
  have hok := S.okT
  have hd := S.dj
  have hc := S.chain
  have hcf : c ≠ fb := S.frC fb hfb
  have hwr := hN.now.room S.now (by omega)
  have hbj := join_hm hd hb
  have hcj := join_hm hd hc
  have oo : ∀ i, NtS hi (opdP xs i).1 (opdI xs i) := opdP_ok hxs
  refine operand_ok (ha.ext (Ext.jl _ _)) hr 0 (by decide) ?_; conv => whnf
  refine operand_ok (ha.ext (Ext.jl _ _)) hr 1 (by decide) ?_; conv => whnf
  repeat (first | (refine CondX.tt ?_; conv => whnf) | (refine CondX.ff ?_; conv => whnf))
  refine family_ok (by omega) (by omega) ?_; conv => whnf
  repeat (first | (refine CondX.tt ?_; conv => whnf) | (refine CondX.ff ?_; conv => whnf))
  refine LoadX.mid hbj 9 (by decide) rfl (v := sl f.memS) rfl ?_; conv => whnf
  have := S.memT.len; have := S.memT.2.1
  have e1 : IntKind.u64.wrap (f.memS.2.1 : Int) = (m.length : Int) := by rw [wrap_u64']; omega
  rw [e1]
  refine CallX.fj hd (num_ok (by omega) (by omega) fun b n c hi' e g hd' => ?_); conv => whnf
  exact RetX.same ((hk.keep S hN.now rfl rfl) (b, n, c) hi' e hd' g)
end
end Go.Proofs.YgvalwGreat.X
