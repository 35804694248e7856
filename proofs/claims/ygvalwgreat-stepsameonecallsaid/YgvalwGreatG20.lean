import Derived.Test.YgvalwGreatG19
set_option linter.unusedVariables false
set_option linter.unusedSimpArgs false
namespace Go.Proofs.YgvalwGreat.X
open Go

theorem famI_row {o : Int} (h : 95 ≤ o ∧ o ≤ 159) : famI o = 2 := by unfold famI; rw [if_neg (by omega), if_neg (by omega), if_pos (by omega)]
section
variable {hi hm : Hp} {K : Value → Hp → Prop} {c : Nat} {tc : TypeId} {s : YS} {base : List (YF × List Int)} {f : YF} {m ret : List Int} {left : Int} {N : Nat}

set_option maxRecDepth 100000 in
set_option maxHeartbeats 4000000 in
theorem plain_dup {o : Int} (hj : 128 ≤ o ∧ o ≤ 143) (hst64 : f.st.length < 64) (ho0 : 0 ≤ o) (ho1 : o < 256) (S : StOK hi hm c tc s (base ++ [(f, m)]) ret left) (hN : StN N s (base ++ [(f, m)])) (hN30 : N + 3 < 2 ^ 30) {fb : Nat} (hfb : at0 s.frS fb) (hst : (arI o).1 ≤ f.st.length) (hpc : f.pc + 100 < big)
     (hk : StK hi c tc s (N + 3) (plainA (absS s (base ++ [(f, m)]) ret left) (base.map absF) (absF (f, m)) s.origin o) K) :
     CallX Hval.prog 60 [.pointer (some ⟨c, 0, none⟩), .pointer (some ⟨fb, (preC base).length, none⟩), .int .u8 o] (join hi hm) K := by
  refine CallX.of_xf T_ok Hval.func60 rfl (by kernel_rfl) (Nat.le_of_ble_eq_true rfl) ?_; conv => whnf
  obtain ⟨fb', pad, tf, hfb', hb, hn1, hn2, hn3⟩ := S.top
  have : some (⟨fb', 0, none⟩ : Addr) = some ⟨fb, 0, none⟩ := hfb'.symm.trans hfb
  cases this
  have hok := S.okT
  have hd := S.dj
  have hc := S.chain
  have hcf : c ≠ fb := S.frC fb hfb
  have hsr : f.stS.2.1 < 2 ^ 30 := by have := hok.n; have := hok.stR; omega
  have hstR := hok.stR
  have hn := hok.n
  refine arity_ok (o := o) ho0 ho1 ?_; conv => whnf
  obtain ⟨T, hT⟩ : ∃ T : Nat, (arI o).1 = T := ⟨(arI o).1.toNat, by have := arI_pos ho0 ho1; omega⟩
  rw [hT] at hst ⊢
  have hT64 : T ≤ 64 := by omega
  refine MakeX.j hd T rfl rfl (by decide) (show (T : Int) * 24 ≤ 2 ^ 47 by omega) fun mA hinA hmnA hdA => ?_; conv => whnf
  refine LoopX.st T_ok Hval.func60 (σ := Nat) (fun k => [(0, .pointer (some ⟨c, 0, none⟩)), (1, .pointer (some ⟨fb, (preC base).length, none⟩)), (2, .int .u8 o), (6, .int .i64 T), (7, .int .i64 (arI o).2.1), (9, .slice (some ⟨mA, 0, none⟩) T T), (23, .int .i64 T), (24, .int .i64 k)])
    (fun k h' => k ≤ T ∧ h' = join (hput hi mA (argC f.st T k, 106)) hm) (fun k => T - k) 0 ⟨rfl, rfl, rfl, rfl, rfl, rfl, rfl, rfl, trivial⟩ ⟨Nat.zero_le _, by rw [← argC_zero]; rfl⟩ ?_
  rintro k ρ h' ⟨hk1, rfl⟩ ih
  conv => whnf
  have hdk : ∀ k, Dj (hput hi mA (argC f.st T k, 106)) hm := fun k => hdA.hp
  have ek : ∀ k, Ext hi (hput hi mA (argC f.st T k, 106)) := fun k => Ext.new hinA
  refine CondX.decI (fun hlt => ?_) (fun hlt => ?_) <;> conv => whnf
  · have hlt : k < T := by omega
    refine arg_ok (join_hm (hdk k) hb) ((hok.st.ext (ek k)).ext (Ext.jl _ _)) hsr k (by omega) ?_; conv => whnf
    refine IdxX.at (by omega) (by omega) ?_; conv => whnf
    refine StoreX.j (by rw [argC_len (by omega)]; simp [show y106.size = 1 from rfl]; omega) ?_; conv => whnf
    have eC : setSeg (argC f.st T k) (0 + ((k : Nat) : Int).toNat * (106, y106).snd.size) [sl (argP f.st k).1] = argC f.st T (k + 1) := by
      rw [Int.toNat_natCast, Nat.zero_add, show (106, y106).snd.size = 1 from rfl, Nat.mul_one]; exact argC_set hlt
    erw [eC]
    exact ih (k + 1) _ _ ⟨by omega, rfl⟩ (by omega) ⟨rfl, rfl, rfl, rfl, rfl, rfl, rfl, congrArg (Value.int .i64) (wsucc (by omega)), trivial⟩
  have hkT : k = T := by omega
  subst hkT
  have haA : Arr (hput hi mA (argC f.st k k, 106)) (some ⟨mA, 0, none⟩, k, k) 1 ((argX f.st k).map stCells) := Arr.own (by simp [argX]) (fun e he => by obtain ⟨q, -, rfl⟩ := List.mem_map.1 he; rfl) (fun e he => by obtain ⟨q, -, rfl⟩ := List.mem_map.1 he; rfl) (by rw [argX_cells]; exact hput_same ..)
  have hxs : ∀ p ∈ argX f.st k, NtS (hput hi mA (argC f.st k k, 106)) p.1 p.2 := fun p hp => by
    obtain ⟨i, -, rfl⟩ := List.mem_map.1 hp
    exact (argP_ok hok.stE i).ext (ek k)
  have e1 := ek k
  have hd1 := hdk k
  clear hdk ek ih
  generalize hput hi mA (argC f.st k k, 106) = hi1 at *
  have hok1 := hok.ext e1
  have him : 0 ≤ immI o ∧ immI o < 33 := by unfold immI; split <;> omega
  refine DrawX.go T_ok hM Hval.func60 (tb := dr60) rfl (by kernel_rfl) ?_; conv => whnf
  refine LoadX.mid (join_hm hd1 hb) 3 (by decide) rfl (v := sl f.pcS) rfl ?_; conv => whnf
  refine imm_ok (o := o) ho0 ho1 ?_; conv => whnf
  repeat (refine Ob.mk (by first | exact ldV_mid (join_hm hd1 hb) 3 (by decide) rfl rfl) ?_; conv => whnf)
  have e64 : IntKind.u64.wrap (1 + IntKind.u64.wrap (immI o)) = 1 + immI o := by rw [wrap_u64', wrap_u64']; omega
  rw [e64]
  refine CallX.fj hd1 (num_ok (by omega) (by omega) fun b2 n2 c2 hi2 e2 g2 hd2 => ?_); conv => whnf
  repeat (refine Ob.mk (by first | exact ldV_mid (join_hm hd2 hb) 3 (by decide) rfl rfl) ?_; conv => whnf)
  refine CallX.fj hd2 (addN (hok1.pc.ext e2) g2 (by omega) fun b3 n3 c3 hi3 e3 g3 hd3 => ?_); conv => whnf
  repeat (refine Ob.mk (by first | exact ldV_mid (join_hm hd3 hb) 3 (by decide) rfl rfl) ?_; conv => whnf)
  have e13 := (e1.trans e2).trans e3
  refine DrawX.go T_ok hM Hval.func60 (tb := dr60) rfl (by kernel_rfl) ?_; conv => whnf
  refine LoadX.mid (join_hm hd3 hb) 8 (by decide) rfl (v := sl f.stS) rfl ?_; conv => whnf
  refine LoadX.mid (join_hm hd3 hb) 8 (by decide) rfl (v := sl f.stS) rfl ?_; conv => whnf
  refine LoadX.mid (join_hm hd3 hb) 8 (by decide) rfl (v := sl f.stS) rfl ?_; conv => whnf
  have eK : IntKind.i64.wrap ((f.stS.2.1 : Int) - (k : Int)) = ((f.st.length - k : Nat) : Int) := by rw [wrap_i64 (by omega) (by omega)]; omega
  rw [eK]
  have hst3 := (hok.st.ext e13)
  have hsj := hst3.ext (Ext.jl hi3 hm)
  refine SlcX.gen hsj.rd hsj.nil hsj.le 0 (f.st.length - k) (f.st.length - k) rfl rfl rfl (Nat.zero_le _) (Nat.le_refl _) (by have := hsj.le; omega) (.inr (by simp)) ?_; conv => whnf
  rw [bsh_zero]
  have hTo : (arI o).1 = o - 127 := by unfold arI; rw [if_neg (by rw [famI_row (by omega)]; decide), if_pos hj]
  have hkA : k = (arI o).1.toNat := by rw [hT]; rfl
  have hA3 := (haA.ext (e2.trans e3)).ext (Ext.jl hi3 hm)
  have hopd : ∀ i, i < k → opdP (argX f.st k) i = argP f.st i := fun i hi => by rw [argX_opd, if_pos hi]
  have hA0 : opA (absF (f, m)) o (k - 1) = argI f.st (k - 1) := by rw [← opA_opd hT]; unfold opdI; rw [hopd (k - 1) (by omega)]; rfl
  have a0 : NtS hi3 (argP f.st (k - 1)).1 (argI f.st (k - 1)) := (argP_ok hok.stE (k - 1)).ext e13
  have S3 := S.ext e13 hd3
  refine CondX.eqF (by omega) ?_; conv => whnf
  refine CondX.eqF (by omega) ?_; conv => whnf
  repeat (first | (refine CondX.tt ?_; conv => whnf) | (refine CondX.ff ?_; conv => whnf))
  refine CondX.dT (by omega) ?_; conv => whnf
  repeat (first | (refine CondX.tt ?_; conv => whnf) | (refine CondX.ff ?_; conv => whnf))
  refine CondX.dT (by omega) ?_; conv => whnf
  refine DrawX.go T_ok hM Hval.func60 (tb := dr60) rfl (by kernel_rfl) ?_; conv => whnf
  refine LoadX.mid (join_hm hd3 hb) 8 (by decide) rfl (v := sl f.stS) rfl ?_; conv => whnf
  refine LoadX.mid (join_hm hd3 hb) 8 (by decide) rfl (v := sl f.stS) rfl ?_; conv => whnf
  refine LoadX.mid (join_hm hd3 hb) 8 (by decide) rfl (v := sl f.stS) rfl ?_; conv => whnf
  refine SlcX.gen hsj.rd hsj.nil hsj.le 0 f.stS.2.1 f.stS.2.1 rfl rfl rfl (Nat.zero_le _) (Nat.le_refl _) hsj.le (.inr (by simp)) ?_; conv => whnf
  rw [bsh_zero]
  have eI : IntKind.i64.wrap ((k : Int) - 1) = ((k - 1 : Nat) : Int) := by rw [wrap_i64 (by omega) (by omega)]; omega
  rw [eI]
  refine IdxX.arr hA3 (by omega) (by omega) (by dsimp only; omega) fun b4 off4 e4 => ?_; conv => whnf
  refine LoadX.of (sl (argP f.st (k - 1)).1) (by have := stC_ld hA3 e4 (i := k - 1) (o := off4 + ((k - 1 : Nat) : Int).toNat * 1) (by dsimp only; omega) (by rw [Int.toNat_natCast]; omega); rw [hopd (k - 1) (by omega)] at this; exact this) ?_; conv => whnf
  refine Ob.mk (by first | decide | omega) ?_; conv => whnf
  refine BoxX.j hd3 fun m8 hi8 hm8 hd8 he8 => ?_; conv => whnf
  have hb8 := join_hm hd8 hb
  have hA8 := ((haA.ext (e2.trans e3)).ext he8).ext (Ext.jl _ hm)
  repeat (refine Ob.mk (by first | exact ldV_mid hb8 8 (by decide) rfl rfl | (have := stC_ld hA8 e4 (i := k - 1) (o := off4 + ((k - 1 : Nat) : Int).toNat * 1) (by dsimp only; omega) (by rw [Int.toNat_natCast]; omega); rw [hopd (k - 1) (by omega)] at this; exact this)) ?_; conv => whnf)
  have hkp := (hst3.ext he8).head (n := f.stS.2.1) (Nat.le_refl _)
  rw [List.take_of_length_le (by omega)] at hkp
  refine AppendX.fz1 (s := (f.stS.1, f.stS.2.1, f.stS.2.1)) (sw := (argP f.st (k - 1)).1) (w := argI f.st (k - 1)) hd8 hkp (show rd _ (some ⟨m8, 0, none⟩) (1 * 1) = some [sl (argP f.st (k - 1)).1] from rd_ext (Ext.jl _ hm) (rd_own (v := [sl (argP f.st (k - 1)).1]) rfl)) (by dsimp only; omega) fun s9 hi9 e9 hd9 hA9 => ?_; conv => whnf
  have hb9 := join_hm hd9 hb
  have e39 := he8.trans e9
  have hA9' := ((haA.ext (e2.trans e3)).ext e39).ext (Ext.jl _ hm)
  repeat (refine Ob.mk (by first | exact ldV_mid hb9 8 (by decide) rfl rfl | (have := stC_ld hA9' e4 (i := k - 1) (o := off4 + ((k - 1 : Nat) : Int).toNat * 1) (by dsimp only; omega) (by rw [Int.toNat_natCast]; omega); rw [hopd (k - 1) (by omega)] at this; exact this)) ?_; conv => whnf)
  have S9 := S3.ext e39 hd9
  have hbT := S9.top
  obtain ⟨fbz, padz, tfz, hfbz, hbz, -⟩ := hbT
  have : some (⟨fbz, 0, none⟩ : Addr) = some ⟨fb, 0, none⟩ := hfbz.symm.trans hfb
  cases this
  have hokZ := S9.okT
  have okF : ({ f with stS := s9, st := (f.st ++ [((argP f.st (k - 1)).1, argI f.st (k - 1))]), pcS := (b3, n3, c3), pc := (f.pc + (1 + immI o)) } : YF).ok hi9 := ⟨(g3.ext e39), hokZ.gas, hokZ.val, hokZ.oo, hokZ.ol, hA9, (fun p hp => by rcases List.mem_append.1 hp with h | h; exact (hok.stE p h).ext (e13.trans e39); rw [List.mem_singleton.1 h]; exact a0.ext e39), (by simp; omega), hokZ.code, hokZ.input, hokZ.self, hokZ.caller, hokZ.saved⟩
  refine StoreX.mid (f := f) S9.dj hbz 8 (by decide) rfl { f with stS := s9, st := (f.st ++ [((argP f.st (k - 1)).1, argI f.st (k - 1))]) } rfl fun hdY => ?_; conv => whnf
  refine StoreX.mid (f := { f with stS := s9, st := (f.st ++ [((argP f.st (k - 1)).1, argI f.st (k - 1))]) }) hdY (hput_same ..) 3 (by decide) rfl { f with stS := s9, st := (f.st ++ [((argP f.st (k - 1)).1, argI f.st (k - 1))]), pcS := (b3, n3, c3), pc := (f.pc + (1 + immI o)) } rfl fun hdX => ?_; conv => whnf
  rw [hput_hput] at hdX ⊢
  have SY := S9.setTop (f' := { f with stS := s9, st := (f.st ++ [((argP f.st (k - 1)).1, argI f.st (k - 1))]), pcS := (b3, n3, c3), pc := (f.pc + (1 + immI o)) }) hfb hbz okF rfl
  refine RetX.same (hk hi9 _ s (base ++ [({ f with stS := s9, st := (f.st ++ [((argP f.st (k - 1)).1, argI f.st (k - 1))]), pcS := (b3, n3, c3), pc := (f.pc + (1 + immI o)) }, m)]) ret left (e13.trans e39) SY ⟨(hN.now.mono (by omega)), fun q hq => ?_⟩ ?_ ⟨rfl, rfl, rfl, rfl, rfl, rfl, rfl, rfl⟩)
  · rcases List.mem_append.1 hq with h5 | h5
    · exact (hN.saved q (by simp [h5])).mono (by omega)
    · rw [List.mem_singleton.1 h5]; exact (hN.saved (f, m) (by simp)).mono (by omega)
  · unfold plainA
    rw [if_neg (by omega), if_pos hj]
    rw [← hkA, hA0]
    simp [absS, absF]
set_option maxRecDepth 100000 in
set_option maxHeartbeats 4000000 in
theorem plain_val {o : Int} (h1 : (arI o).2.1 = 1) (h2 : (arI o).2.2 = true) (h3 : famI o ≠ 16) (hlen : o = 32 → argI f.st 1 < 2 ^ 40) (hst64 : f.st.length - (arI o).1 + 1 ≤ 64) (E : EnvOK hi s) (hself : isB f.self) (hcal : isB f.caller) (hsW : stW f.st) (ho0 : 0 ≤ o) (ho1 : o < 256) (S : StOK hi hm c tc s (base ++ [(f, m)]) ret left) (hN : StN N s (base ++ [(f, m)])) (hN30 : N + 3 < 2 ^ 30) {fb : Nat} (hfb : at0 s.frS fb) (hst : (arI o).1 ≤ f.st.length) (hpc : f.pc + 100 < big)
    (hk : StK hi c tc s (N + 3) (plainA (absS s (base ++ [(f, m)]) ret left) (base.map absF) (absF (f, m)) s.origin o) K) :
    CallX Hval.prog 60 [.pointer (some ⟨c, 0, none⟩), .pointer (some ⟨fb, (preC base).length, none⟩), .int .u8 o] (join hi hm) K := by
  refine CallX.of_xf T_ok Hval.func60 rfl (by kernel_rfl) (Nat.le_of_ble_eq_true rfl) ?_; conv => whnf
  obtain ⟨fb', pad, tf, hfb', hb, hn1, hn2, hn3⟩ := S.top
  have : some (⟨fb', 0, none⟩ : Addr) = some ⟨fb, 0, none⟩ := hfb'.symm.trans hfb
  cases this
  have hok := S.okT
  have hd := S.dj
  have hc := S.chain
  have hcf : c ≠ fb := S.frC fb hfb
  have hsr : f.stS.2.1 < 2 ^ 30 := by have := hok.n; have := hok.stR; omega
  have hstR := hok.stR
  have hn := hok.n
  refine arity_ok (o := o) ho0 ho1 ?_; conv => whnf
  obtain ⟨T, hT⟩ : ∃ T : Nat, (arI o).1 = T := ⟨(arI o).1.toNat, by have := arI_pos ho0 ho1; omega⟩
  rw [hT] at hst ⊢
  have hT64 : T ≤ 64 := by omega
  refine MakeX.j hd T rfl rfl (by decide) (show (T : Int) * 24 ≤ 2 ^ 47 by omega) fun mA hinA hmnA hdA => ?_; conv => whnf
  refine LoopX.st T_ok Hval.func60 (σ := Nat) (fun k => [(0, .pointer (some ⟨c, 0, none⟩)), (1, .pointer (some ⟨fb, (preC base).length, none⟩)), (2, .int .u8 o), (6, .int .i64 T), (7, .int .i64 (arI o).2.1), (9, .slice (some ⟨mA, 0, none⟩) T T), (23, .int .i64 T), (24, .int .i64 k)])
    (fun k h' => k ≤ T ∧ h' = join (hput hi mA (argC f.st T k, 106)) hm) (fun k => T - k) 0 ⟨rfl, rfl, rfl, rfl, rfl, rfl, rfl, rfl, trivial⟩ ⟨Nat.zero_le _, by rw [← argC_zero]; rfl⟩ ?_
  rintro k ρ h' ⟨hk1, rfl⟩ ih
  conv => whnf
  have hdk : ∀ k, Dj (hput hi mA (argC f.st T k, 106)) hm := fun k => hdA.hp
  have ek : ∀ k, Ext hi (hput hi mA (argC f.st T k, 106)) := fun k => Ext.new hinA
  refine CondX.decI (fun hlt => ?_) (fun hlt => ?_) <;> conv => whnf
  · have hlt : k < T := by omega
    refine arg_ok (join_hm (hdk k) hb) ((hok.st.ext (ek k)).ext (Ext.jl _ _)) hsr k (by omega) ?_; conv => whnf
    refine IdxX.at (by omega) (by omega) ?_; conv => whnf
    refine StoreX.j (by rw [argC_len (by omega)]; simp [show y106.size = 1 from rfl]; omega) ?_; conv => whnf
    have eC : setSeg (argC f.st T k) (0 + ((k : Nat) : Int).toNat * (106, y106).snd.size) [sl (argP f.st k).1] = argC f.st T (k + 1) := by
      rw [Int.toNat_natCast, Nat.zero_add, show (106, y106).snd.size = 1 from rfl, Nat.mul_one]; exact argC_set hlt
    erw [eC]
    exact ih (k + 1) _ _ ⟨by omega, rfl⟩ (by omega) ⟨rfl, rfl, rfl, rfl, rfl, rfl, rfl, congrArg (Value.int .i64) (wsucc (by omega)), trivial⟩
  have hkT : k = T := by omega
  subst hkT
  have haA : Arr (hput hi mA (argC f.st k k, 106)) (some ⟨mA, 0, none⟩, k, k) 1 ((argX f.st k).map stCells) := Arr.own (by simp [argX]) (fun e he => by obtain ⟨q, -, rfl⟩ := List.mem_map.1 he; rfl) (fun e he => by obtain ⟨q, -, rfl⟩ := List.mem_map.1 he; rfl) (by rw [argX_cells]; exact hput_same ..)
  have hxs : ∀ p ∈ argX f.st k, NtS (hput hi mA (argC f.st k k, 106)) p.1 p.2 := fun p hp => by
    obtain ⟨i, -, rfl⟩ := List.mem_map.1 hp
    exact (argP_ok hok.stE i).ext (ek k)
  have e1 := ek k
  have hd1 := hdk k
  clear hdk ek ih
  generalize hput hi mA (argC f.st k k, 106) = hi1 at *
  have hok1 := hok.ext e1
  have him : 0 ≤ immI o ∧ immI o < 33 := by unfold immI; split <;> omega
  refine DrawX.go T_ok hM Hval.func60 (tb := dr60) rfl (by kernel_rfl) ?_; conv => whnf
  refine LoadX.mid (join_hm hd1 hb) 3 (by decide) rfl (v := sl f.pcS) rfl ?_; conv => whnf
  refine imm_ok (o := o) ho0 ho1 ?_; conv => whnf
  repeat (refine Ob.mk (by first | exact ldV_mid (join_hm hd1 hb) 3 (by decide) rfl rfl) ?_; conv => whnf)
  have e64 : IntKind.u64.wrap (1 + IntKind.u64.wrap (immI o)) = 1 + immI o := by rw [wrap_u64', wrap_u64']; omega
  rw [e64]
  refine CallX.fj hd1 (num_ok (by omega) (by omega) fun b2 n2 c2 hi2 e2 g2 hd2 => ?_); conv => whnf
  repeat (refine Ob.mk (by first | exact ldV_mid (join_hm hd2 hb) 3 (by decide) rfl rfl) ?_; conv => whnf)
  refine CallX.fj hd2 (addN (hok1.pc.ext e2) g2 (by omega) fun b3 n3 c3 hi3 e3 g3 hd3 => ?_); conv => whnf
  repeat (refine Ob.mk (by first | exact ldV_mid (join_hm hd3 hb) 3 (by decide) rfl rfl) ?_; conv => whnf)
  have e13 := (e1.trans e2).trans e3
  refine DrawX.go T_ok hM Hval.func60 (tb := dr60) rfl (by kernel_rfl) ?_; conv => whnf
  refine LoadX.mid (join_hm hd3 hb) 8 (by decide) rfl (v := sl f.stS) rfl ?_; conv => whnf
  refine LoadX.mid (join_hm hd3 hb) 8 (by decide) rfl (v := sl f.stS) rfl ?_; conv => whnf
  refine LoadX.mid (join_hm hd3 hb) 8 (by decide) rfl (v := sl f.stS) rfl ?_; conv => whnf
  have eK : IntKind.i64.wrap ((f.stS.2.1 : Int) - (k : Int)) = ((f.st.length - k : Nat) : Int) := by rw [wrap_i64 (by omega) (by omega)]; omega
  rw [eK]
  have hst3 := (hok.st.ext e13)
  have hsj := hst3.ext (Ext.jl hi3 hm)
  refine SlcX.gen hsj.rd hsj.nil hsj.le 0 (f.st.length - k) (f.st.length - k) rfl rfl rfl (Nat.zero_le _) (Nat.le_refl _) (by have := hsj.le; omega) (.inr (by simp)) ?_; conv => whnf
  rw [bsh_zero]
  have hc3 := vOp_cases o.toNat (by omega) (by rw [show ((o.toNat : Nat) : Int) = o by omega]; exact h1) (by rw [show ((o.toNat : Nat) : Int) = o by omega]; exact h2) (by rw [show ((o.toNat : Nat) : Int) = o by omega]; exact h3)
  rw [show ((o.toNat : Nat) : Int) = o by omega] at hc3
  have hor : o < 128 ∧ o ≠ 86 ∧ o ≠ 87 := by
    rcases hc3 with h | h | h
    · simp only [vL, List.mem_cons, List.not_mem_nil, or_false] at h
      omega
    · have := h.1
      unfold famI at this
      by_cases q : (1 ≤ o ∧ o ≤ 11) ∨ (16 ≤ o ∧ o ≤ 29) ∨ o = 32
      · omega
      · rw [if_neg q] at this
        split at this
        · omega
        · repeat (first | (split at this <;> first | omega | skip) | omega)
    · omega
  have hkA : k = (arI o).1.toNat := by rw [hT]; rfl
  have hopd : ∀ i, i < k → opdP (argX f.st k) i = argP f.st i := fun i hi => by rw [argX_opd, if_pos hi]
  have S3 := S.ext e13 hd3
  have hN3 : StN N s (base ++ [(f, m)]) := hN
  have E3 : EnvOK hi3 s := ⟨E.env, E.origin, E.oB, E.made, E.price.ext e13⟩
  have hxW : ∀ p ∈ argX f.st k, p.2 < W := fun p hp => by
    obtain ⟨i, -, rfl⟩ := List.mem_map.1 hp
    exact argI_lt hsW i
  refine CondX.eqF (by omega) ?_; conv => whnf
  refine CondX.eqF (by omega) ?_; conv => whnf
  repeat (first | (refine CondX.tt ?_; conv => whnf) | (refine CondX.ff ?_; conv => whnf))
  refine CondX.dF (by omega) ?_; conv => whnf
  repeat (first | (refine CondX.tt ?_; conv => whnf) | (refine CondX.ff ?_; conv => whnf))
  refine CondX.dF (by omega) ?_; conv => whnf
  repeat (first | (refine CondX.tt ?_; conv => whnf) | (refine CondX.ff ?_; conv => whnf))
  refine CondX.eqT h1 ?_; conv => whnf
  refine value_ok ho0 ho1 h1 h2 h3 (sa := (some ⟨mA, 0, none⟩, k, k)) (xs := argX f.st k) (fun h => ?_) (by omega) S3 hN3 hN30 E3 (haA.ext (e2.trans e3)) (fun p hp => (hxs p hp).ext (e2.trans e3)) (by dsimp only; omega) hfb hself hcal hxW ?_
  · have : (arI o).1 = 2 := by rw [h]; rfl
    unfold opdI; rw [hopd 1 (by omega)]; exact hlen h
  intro hi4 w4 sv e4 S4 sz4 abs4 g4
  conv => whnf
  refine Ob.mk (by first | decide | omega) ?_; conv => whnf
  refine BoxX.j S4.dj fun m8 hi8 hm8 hd8 he8 => ?_; conv => whnf
  have e134 := e13.trans e4
  have hkp := ((hst3.ext e4).ext he8).head (n := f.st.length - k) (by omega)
  refine AppendX.fz1 (s := (f.stS.1, f.st.length - k, f.st.length - k)) (sw := sv) (w := valA (absW s.w) (absF (f, m)) ret s.origin o (opdI (argX f.st k))) hd8 hkp (show rd _ (some ⟨m8, 0, none⟩) (1 * 1) = some [sl sv] from rd_ext (Ext.jl _ _) (rd_own (v := [sl sv]) rfl)) (by dsimp only; omega) fun s9 hi9 e9 hd9 hA9 => ?_; conv => whnf
  have e49 := he8.trans e9
  have S9 := S4.ext e49 hd9
  have hbT := S9.top
  obtain ⟨fbz, padz, tfz, hfbz, hbz, -⟩ := hbT
  have : some (⟨fbz, 0, none⟩ : Addr) = some ⟨fb, 0, none⟩ := hfbz.symm.trans hfb
  cases this
  have hokZ := S9.okT
  have okF : ({ f with stS := s9, st := (f.st.take (f.st.length - k) ++ [(sv, valA (absW s.w) (absF (f, m)) ret s.origin o (opdI (argX f.st k)))]), pcS := (b3, n3, c3), pc := (f.pc + (1 + immI o)) } : YF).ok hi9 := ⟨((g3.ext e4).ext e49), hokZ.gas, hokZ.val, hokZ.oo, hokZ.ol, hA9, (fun p hp => by rcases List.mem_append.1 hp with h | h; exact (hok.stE p (List.mem_of_mem_take h)).ext (e134.trans e49); rw [List.mem_singleton.1 h]; exact g4.ext e49), (by simp; omega), hokZ.code, hokZ.input, hokZ.self, hokZ.caller, hokZ.saved⟩
  refine StoreX.mid (f := f) S9.dj hbz 8 (by decide) rfl { f with stS := s9, st := (f.st.take (f.st.length - k) ++ [(sv, valA (absW s.w) (absF (f, m)) ret s.origin o (opdI (argX f.st k)))]) } rfl fun hdY => ?_; conv => whnf
  refine StoreX.mid (f := { f with stS := s9, st := (f.st.take (f.st.length - k) ++ [(sv, valA (absW s.w) (absF (f, m)) ret s.origin o (opdI (argX f.st k)))]) }) hdY (hput_same ..) 3 (by decide) rfl { f with stS := s9, st := (f.st.take (f.st.length - k) ++ [(sv, valA (absW s.w) (absF (f, m)) ret s.origin o (opdI (argX f.st k)))]), pcS := (b3, n3, c3), pc := (f.pc + (1 + immI o)) } rfl fun hdX => ?_; conv => whnf
  rw [hput_hput] at hdX ⊢
  have SY := S9.setTop (f' := { f with stS := s9, st := (f.st.take (f.st.length - k) ++ [(sv, valA (absW s.w) (absF (f, m)) ret s.origin o (opdI (argX f.st k)))]), pcS := (b3, n3, c3), pc := (f.pc + (1 + immI o)) }) hfb hbz okF rfl
  refine RetX.same (hk hi9 _ { s with w := w4 } (base ++ [({ f with stS := s9, st := (f.st.take (f.st.length - k) ++ [(sv, valA (absW s.w) (absF (f, m)) ret s.origin o (opdI (argX f.st k)))]), pcS := (b3, n3, c3), pc := (f.pc + (1 + immI o)) }, m)]) ret left (e134.trans e49) SY ⟨(sz4.mono (by omega)), fun q hq => ?_⟩ ?_ ⟨rfl, rfl, rfl, rfl, rfl, rfl, rfl, rfl⟩)
  · rcases List.mem_append.1 hq with h5 | h5
    · exact (hN.saved q (by simp [h5])).mono (by omega)
    · rw [List.mem_singleton.1 h5]; exact (hN.saved (f, m) (by simp)).mono (by omega)
  · unfold plainA
    rw [if_neg (by omega), if_neg (by omega), if_neg (by omega), if_pos h1]
    rw [← hkA, ← opA_opd hT]
    simp [absS, absF, List.map_take, abs4]
set_option maxRecDepth 100000 in
set_option maxHeartbeats 4000000 in
theorem plain_eff {o : Int} (h1 : (arI o).2.1 = 0) (h2 : (arI o).2.2 = true) (h3 : famI o ≠ 16) (h4 : famI o ≠ 31) (h5 : o ≠ 86) (h6 : o = 87 → argI f.st 1 = 0) (hlen : (o = 55 ∨ o = 57 ∨ o = 62 ∨ o = 94 → argI f.st 2 < 2 ^ 40) ∧ (o = 60 → argI f.st 3 < 2 ^ 40) ∧ (160 ≤ o → argI f.st 1 < 2 ^ 40)) (hsW : stW f.st) (href : s.w.ref + 100000 < big) (ho0 : 0 ≤ o) (ho1 : o < 256) (S : StOK hi hm c tc s (base ++ [(f, m)]) ret left) (hN : StN N s (base ++ [(f, m)])) (hN30 : N + 3 < 2 ^ 30) {fb : Nat} (hfb : at0 s.frS fb) (hst : (arI o).1 ≤ f.st.length) (hpc : f.pc + 100 < big)
    (hk : StK hi c tc s (N + 3) (plainA (absS s (base ++ [(f, m)]) ret left) (base.map absF) (absF (f, m)) s.origin o) K) :
    CallX Hval.prog 60 [.pointer (some ⟨c, 0, none⟩), .pointer (some ⟨fb, (preC base).length, none⟩), .int .u8 o] (join hi hm) K := by
  refine CallX.of_xf T_ok Hval.func60 rfl (by kernel_rfl) (Nat.le_of_ble_eq_true rfl) ?_; conv => whnf
  obtain ⟨fb', pad, tf, hfb', hb, hn1, hn2, hn3⟩ := S.top
  have : some (⟨fb', 0, none⟩ : Addr) = some ⟨fb, 0, none⟩ := hfb'.symm.trans hfb
  cases this
  have hok := S.okT
  have hd := S.dj
  have hc := S.chain
  have hcf : c ≠ fb := S.frC fb hfb
  have hsr : f.stS.2.1 < 2 ^ 30 := by have := hok.n; have := hok.stR; omega
  have hstR := hok.stR
  have hn := hok.n
  refine arity_ok (o := o) ho0 ho1 ?_; conv => whnf
  obtain ⟨T, hT⟩ : ∃ T : Nat, (arI o).1 = T := ⟨(arI o).1.toNat, by have := arI_pos ho0 ho1; omega⟩
  rw [hT] at hst ⊢
  have hT64 : T ≤ 64 := by omega
  refine MakeX.j hd T rfl rfl (by decide) (show (T : Int) * 24 ≤ 2 ^ 47 by omega) fun mA hinA hmnA hdA => ?_; conv => whnf
  refine LoopX.st T_ok Hval.func60 (σ := Nat) (fun k => [(0, .pointer (some ⟨c, 0, none⟩)), (1, .pointer (some ⟨fb, (preC base).length, none⟩)), (2, .int .u8 o), (6, .int .i64 T), (7, .int .i64 (arI o).2.1), (9, .slice (some ⟨mA, 0, none⟩) T T), (23, .int .i64 T), (24, .int .i64 k)])
    (fun k h' => k ≤ T ∧ h' = join (hput hi mA (argC f.st T k, 106)) hm) (fun k => T - k) 0 ⟨rfl, rfl, rfl, rfl, rfl, rfl, rfl, rfl, trivial⟩ ⟨Nat.zero_le _, by rw [← argC_zero]; rfl⟩ ?_
  rintro k ρ h' ⟨hk1, rfl⟩ ih
  conv => whnf
  have hdk : ∀ k, Dj (hput hi mA (argC f.st T k, 106)) hm := fun k => hdA.hp
  have ek : ∀ k, Ext hi (hput hi mA (argC f.st T k, 106)) := fun k => Ext.new hinA
  refine CondX.decI (fun hlt => ?_) (fun hlt => ?_) <;> conv => whnf
  · have hlt : k < T := by omega
    refine arg_ok (join_hm (hdk k) hb) ((hok.st.ext (ek k)).ext (Ext.jl _ _)) hsr k (by omega) ?_; conv => whnf
    refine IdxX.at (by omega) (by omega) ?_; conv => whnf
    refine StoreX.j (by rw [argC_len (by omega)]; simp [show y106.size = 1 from rfl]; omega) ?_; conv => whnf
    have eC : setSeg (argC f.st T k) (0 + ((k : Nat) : Int).toNat * (106, y106).snd.size) [sl (argP f.st k).1] = argC f.st T (k + 1) := by
      rw [Int.toNat_natCast, Nat.zero_add, show (106, y106).snd.size = 1 from rfl, Nat.mul_one]; exact argC_set hlt
    erw [eC]
    exact ih (k + 1) _ _ ⟨by omega, rfl⟩ (by omega) ⟨rfl, rfl, rfl, rfl, rfl, rfl, rfl, congrArg (Value.int .i64) (wsucc (by omega)), trivial⟩
  have hkT : k = T := by omega
  subst hkT
  have haA : Arr (hput hi mA (argC f.st k k, 106)) (some ⟨mA, 0, none⟩, k, k) 1 ((argX f.st k).map stCells) := Arr.own (by simp [argX]) (fun e he => by obtain ⟨q, -, rfl⟩ := List.mem_map.1 he; rfl) (fun e he => by obtain ⟨q, -, rfl⟩ := List.mem_map.1 he; rfl) (by rw [argX_cells]; exact hput_same ..)
  have hxs : ∀ p ∈ argX f.st k, NtS (hput hi mA (argC f.st k k, 106)) p.1 p.2 := fun p hp => by
    obtain ⟨i, -, rfl⟩ := List.mem_map.1 hp
    exact (argP_ok hok.stE i).ext (ek k)
  have e1 := ek k
  have hd1 := hdk k
  clear hdk ek ih
  generalize hput hi mA (argC f.st k k, 106) = hi1 at *
  have hok1 := hok.ext e1
  have him : 0 ≤ immI o ∧ immI o < 33 := by unfold immI; split <;> omega
  refine DrawX.go T_ok hM Hval.func60 (tb := dr60) rfl (by kernel_rfl) ?_; conv => whnf
  refine LoadX.mid (join_hm hd1 hb) 3 (by decide) rfl (v := sl f.pcS) rfl ?_; conv => whnf
  refine imm_ok (o := o) ho0 ho1 ?_; conv => whnf
  repeat (refine Ob.mk (by first | exact ldV_mid (join_hm hd1 hb) 3 (by decide) rfl rfl) ?_; conv => whnf)
  have e64 : IntKind.u64.wrap (1 + IntKind.u64.wrap (immI o)) = 1 + immI o := by rw [wrap_u64', wrap_u64']; omega
  rw [e64]
  refine CallX.fj hd1 (num_ok (by omega) (by omega) fun b2 n2 c2 hi2 e2 g2 hd2 => ?_); conv => whnf
  repeat (refine Ob.mk (by first | exact ldV_mid (join_hm hd2 hb) 3 (by decide) rfl rfl) ?_; conv => whnf)
  refine CallX.fj hd2 (addN (hok1.pc.ext e2) g2 (by omega) fun b3 n3 c3 hi3 e3 g3 hd3 => ?_); conv => whnf
  repeat (refine Ob.mk (by first | exact ldV_mid (join_hm hd3 hb) 3 (by decide) rfl rfl) ?_; conv => whnf)
  have e13 := (e1.trans e2).trans e3
  refine DrawX.go T_ok hM Hval.func60 (tb := dr60) rfl (by kernel_rfl) ?_; conv => whnf
  refine LoadX.mid (join_hm hd3 hb) 8 (by decide) rfl (v := sl f.stS) rfl ?_; conv => whnf
  refine LoadX.mid (join_hm hd3 hb) 8 (by decide) rfl (v := sl f.stS) rfl ?_; conv => whnf
  refine LoadX.mid (join_hm hd3 hb) 8 (by decide) rfl (v := sl f.stS) rfl ?_; conv => whnf
  have eK : IntKind.i64.wrap ((f.stS.2.1 : Int) - (k : Int)) = ((f.st.length - k : Nat) : Int) := by rw [wrap_i64 (by omega) (by omega)]; omega
  rw [eK]
  have hst3 := (hok.st.ext e13)
  have hsj := hst3.ext (Ext.jl hi3 hm)
  refine SlcX.gen hsj.rd hsj.nil hsj.le 0 (f.st.length - k) (f.st.length - k) rfl rfl rfl (Nat.zero_le _) (Nat.le_refl _) (by have := hsj.le; omega) (.inr (by simp)) ?_; conv => whnf
  rw [bsh_zero]
  have hc3 := eOp_cases o.toNat (by omega) (by rw [show ((o.toNat : Nat) : Int) = o by omega]; exact h1) (by rw [show ((o.toNat : Nat) : Int) = o by omega]; exact h2) (by rw [show ((o.toNat : Nat) : Int) = o by omega]; exact h3) (by rw [show ((o.toNat : Nat) : Int) = o by omega]; exact h4) (by omega)
  rw [show ((o.toNat : Nat) : Int) = o by omega] at hc3
  have hor : o < 128 ∨ 160 ≤ o ∧ o ≤ 164 := by
    rcases hc3 with h | h
    · simp only [eL, List.mem_cons, List.not_mem_nil, or_false] at h
      omega
    · omega
  have hkA : k = (arI o).1.toNat := by rw [hT]; rfl
  have hopd : ∀ i, i < k → opdP (argX f.st k) i = argP f.st i := fun i hi => by rw [argX_opd, if_pos hi]
  have S3 := S.ext e13 hd3
  have hA3 := (haA.ext (e2.trans e3)).ext (Ext.jl hi3 hm)
  have hxW : ∀ p ∈ argX f.st k, p.2 < W := fun p hp => by
    obtain ⟨i, -, rfl⟩ := List.mem_map.1 hp
    exact argI_lt hsW i
  have hlog : 160 ≤ o → (arI o).1 = o - 158 := fun h => by
    unfold arI
    rw [if_neg (by unfold famI; rw [if_neg (by omega), if_neg (by omega), if_neg (by omega), if_neg (by omega), if_pos (by omega)]; decide), if_neg (by omega), if_neg (by omega), if_pos (by omega)]
  have hTs : (o = 55 ∨ o = 57 ∨ o = 62 ∨ o = 94 → k = 3) ∧ (o = 60 → k = 4) ∧ (o = 85 → k = 2) ∧ (o = 87 → k = 2) := by
    refine ⟨fun h => ?_, fun h => ?_, fun h => ?_, fun h => ?_⟩
    · have : (arI o).1 = 3 := by rcases h with h | h | h | h <;> (rw [h]; rfl)
      omega
    · have : (arI o).1 = 4 := by rw [h]; rfl
      omega
    · have : (arI o).1 = 2 := by rw [h]; rfl
      omega
    · have : (arI o).1 = 2 := by rw [h]; rfl
      omega
  have hj' : ¬ (o = 86 ∨ (o = 87 ∧ opA (absF (f, m)) o 1 ≠ 0)) := by
    rintro (h | ⟨h, hh⟩)
    · exact h5 h
    · rw [← opA_opd hT] at hh
      unfold opdI at hh
      rw [hopd 1 (by have := hTs.2.2.2 h; omega)] at hh
      exact hh (h6 h)
  refine CondX.eqF h5 ?_; conv => whnf
  refine CondX.eqI (fun h87 => ?_) (fun h87 => ?_) <;> conv => whnf
  · repeat (first | (refine CondX.tt ?_; conv => whnf) | (refine CondX.ff ?_; conv => whnf))
    refine IdxX.arr hA3 (by omega) (by omega) (by dsimp only; have := hTs.2.2.2 h87; omega) fun b4 off4 e4 => ?_; conv => whnf
    repeat (first | (refine CondX.tt ?_; conv => whnf) | (refine CondX.ff ?_; conv => whnf))
    refine LoadX.of (sl (argP f.st 1).1) (by have := stC_ld hA3 e4 (i := 1) (o := off4 + 1) (by dsimp only; have := hTs.2.2.2 h87; omega) rfl; rw [hopd 1 (by have := hTs.2.2.2 h87; omega)] at this; exact this) ?_; conv => whnf
    repeat (first | (refine CondX.tt ?_; conv => whnf) | (refine CondX.ff ?_; conv => whnf))
    refine isZero_ok (((argP_ok hok.stE 1).ext e13).ext (Ext.jl _ _)) ?_; conv => whnf
    repeat (first | (refine CondX.tt ?_; conv => whnf) | (refine CondX.ff ?_; conv => whnf))
    refine CondX.notI (fun hz => absurd (h6 h87) (of_decide_eq_false hz)) (fun hz => ?_)
    conv => whnf
    refine CondX.decI (fun h128 => ?_) (fun h128 => ?_) <;> conv => whnf
    · repeat (first | (refine CondX.tt ?_; conv => whnf) | (refine CondX.ff ?_; conv => whnf))
      refine CondX.dF (by omega) ?_; conv => whnf
      refine CondX.decI (fun h144 => ?_) (fun h144 => ?_) <;> conv => whnf
      · repeat (first | (refine CondX.tt ?_; conv => whnf) | (refine CondX.ff ?_; conv => whnf))
        refine CondX.dF (by omega) ?_; conv => whnf
        refine CondX.eqF (by omega) ?_; conv => whnf
        refine effect_ok ho0 ho1 h1 h2 h3 h4 h5 (sa := (some ⟨mA, 0, none⟩, k, k)) (xs := argX f.st k) ⟨fun h => ?_, fun h => ?_, fun h => ?_⟩ (fun h => ?_) (fun h => ?_) href S3 hN hN30 (haA.ext (e2.trans e3)) (fun p hp => (hxs p hp).ext (e2.trans e3)) (by dsimp only; omega) hfb hxW ?_
        · have := hTs.1 h; unfold opdI; rw [hopd 2 (by omega)]; exact hlen.1 h
        · have := hTs.2.1 h; unfold opdI; rw [hopd 3 (by omega)]; exact hlen.2.1 h
        · have := hlog h; unfold opdI; rw [hopd 1 (by omega)]; exact hlen.2.2 h
        · have := hlog h; simp only [argX, List.length_map, List.length_range]; omega
        · have := hTs.2.2.1 h; unfold opdI; rw [hopd 0 (by omega), hopd 1 (by omega)]; exact ⟨rfl, rfl⟩
        intro hi4 hm4 w4 e4 S4 sz4 abs4
        conv => whnf
        repeat (first | (refine CondX.tt ?_; conv => whnf) | (refine CondX.ff ?_; conv => whnf))
        have e134 := e13.trans e4
        have hkp := (hst3.ext e4).head (n := f.st.length - k) (by omega)
        have hbT := S4.top
        obtain ⟨fbz, padz, tfz, hfbz, hbz, -⟩ := hbT
        have : some (⟨fbz, 0, none⟩ : Addr) = some ⟨fb, 0, none⟩ := hfbz.symm.trans hfb
        cases this
        have hokZ := S4.okT
        have okF : ({ f with stS := (f.stS.1, f.st.length - k, f.st.length - k), st := (f.st.take (f.st.length - k)), pcS := (b3, n3, c3), pc := (f.pc + (1 + immI o)) } : YF).ok hi4 := ⟨(g3.ext e4), hokZ.gas, hokZ.val, hokZ.oo, hokZ.ol, hkp.1, (fun p hp => (hok.stE p (List.mem_of_mem_take hp)).ext e134), (by simp; omega), hokZ.code, hokZ.input, hokZ.self, hokZ.caller, hokZ.saved⟩
        refine StoreX.mid (f := f) S4.dj hbz 8 (by decide) rfl { f with stS := (f.stS.1, f.st.length - k, f.st.length - k), st := (f.st.take (f.st.length - k)) } rfl fun hdY => ?_; conv => whnf
        refine StoreX.mid (f := { f with stS := (f.stS.1, f.st.length - k, f.st.length - k), st := (f.st.take (f.st.length - k)) }) hdY (hput_same ..) 3 (by decide) rfl { f with stS := (f.stS.1, f.st.length - k, f.st.length - k), st := (f.st.take (f.st.length - k)), pcS := (b3, n3, c3), pc := (f.pc + (1 + immI o)) } rfl fun hdX => ?_; conv => whnf
        rw [hput_hput] at hdX ⊢
        have SY := S4.setTop (f' := { f with stS := (f.stS.1, f.st.length - k, f.st.length - k), st := (f.st.take (f.st.length - k)), pcS := (b3, n3, c3), pc := (f.pc + (1 + immI o)) }) hfb hbz okF rfl
        refine RetX.same (hk hi4 _ { s with w := w4 } (base ++ [({ f with stS := (f.stS.1, f.st.length - k, f.st.length - k), st := (f.st.take (f.st.length - k)), pcS := (b3, n3, c3), pc := (f.pc + (1 + immI o)) }, (effM (absW s.w) (absF (f, m)) ret o (opdI (argX f.st k))))]) ret left e134 SY ⟨(sz4.mono (by omega)), fun q hq => ?_⟩ ?_ ⟨rfl, rfl, rfl, rfl, rfl, rfl, rfl, rfl⟩)
        · rcases List.mem_append.1 hq with h5 | h5
          · exact (hN.saved q (by simp [h5])).mono (by omega)
          · rw [List.mem_singleton.1 h5]; exact (hN.saved (f, m) (by simp)).mono (by omega)
        · unfold plainA
          rw [if_neg hj', if_neg (by omega), if_neg (by omega), if_neg (by omega)]
          rw [← hkA, ← opA_opd hT]
          simp [absS, absF, List.map_take, abs4]
      · repeat (first | (refine CondX.tt ?_; conv => whnf) | (refine CondX.ff ?_; conv => whnf))
        refine CondX.eqF (by omega) ?_; conv => whnf
        refine effect_ok ho0 ho1 h1 h2 h3 h4 h5 (sa := (some ⟨mA, 0, none⟩, k, k)) (xs := argX f.st k) ⟨fun h => ?_, fun h => ?_, fun h => ?_⟩ (fun h => ?_) (fun h => ?_) href S3 hN hN30 (haA.ext (e2.trans e3)) (fun p hp => (hxs p hp).ext (e2.trans e3)) (by dsimp only; omega) hfb hxW ?_
        · have := hTs.1 h; unfold opdI; rw [hopd 2 (by omega)]; exact hlen.1 h
        · have := hTs.2.1 h; unfold opdI; rw [hopd 3 (by omega)]; exact hlen.2.1 h
        · have := hlog h; unfold opdI; rw [hopd 1 (by omega)]; exact hlen.2.2 h
        · have := hlog h; simp only [argX, List.length_map, List.length_range]; omega
        · have := hTs.2.2.1 h; unfold opdI; rw [hopd 0 (by omega), hopd 1 (by omega)]; exact ⟨rfl, rfl⟩
        intro hi4 hm4 w4 e4 S4 sz4 abs4
        conv => whnf
        repeat (first | (refine CondX.tt ?_; conv => whnf) | (refine CondX.ff ?_; conv => whnf))
        have e134 := e13.trans e4
        have hkp := (hst3.ext e4).head (n := f.st.length - k) (by omega)
        have hbT := S4.top
        obtain ⟨fbz, padz, tfz, hfbz, hbz, -⟩ := hbT
        have : some (⟨fbz, 0, none⟩ : Addr) = some ⟨fb, 0, none⟩ := hfbz.symm.trans hfb
        cases this
        have hokZ := S4.okT
        have okF : ({ f with stS := (f.stS.1, f.st.length - k, f.st.length - k), st := (f.st.take (f.st.length - k)), pcS := (b3, n3, c3), pc := (f.pc + (1 + immI o)) } : YF).ok hi4 := ⟨(g3.ext e4), hokZ.gas, hokZ.val, hokZ.oo, hokZ.ol, hkp.1, (fun p hp => (hok.stE p (List.mem_of_mem_take hp)).ext e134), (by simp; omega), hokZ.code, hokZ.input, hokZ.self, hokZ.caller, hokZ.saved⟩
        refine StoreX.mid (f := f) S4.dj hbz 8 (by decide) rfl { f with stS := (f.stS.1, f.st.length - k, f.st.length - k), st := (f.st.take (f.st.length - k)) } rfl fun hdY => ?_; conv => whnf
        refine StoreX.mid (f := { f with stS := (f.stS.1, f.st.length - k, f.st.length - k), st := (f.st.take (f.st.length - k)) }) hdY (hput_same ..) 3 (by decide) rfl { f with stS := (f.stS.1, f.st.length - k, f.st.length - k), st := (f.st.take (f.st.length - k)), pcS := (b3, n3, c3), pc := (f.pc + (1 + immI o)) } rfl fun hdX => ?_; conv => whnf
        rw [hput_hput] at hdX ⊢
        have SY := S4.setTop (f' := { f with stS := (f.stS.1, f.st.length - k, f.st.length - k), st := (f.st.take (f.st.length - k)), pcS := (b3, n3, c3), pc := (f.pc + (1 + immI o)) }) hfb hbz okF rfl
        refine RetX.same (hk hi4 _ { s with w := w4 } (base ++ [({ f with stS := (f.stS.1, f.st.length - k, f.st.length - k), st := (f.st.take (f.st.length - k)), pcS := (b3, n3, c3), pc := (f.pc + (1 + immI o)) }, (effM (absW s.w) (absF (f, m)) ret o (opdI (argX f.st k))))]) ret left e134 SY ⟨(sz4.mono (by omega)), fun q hq => ?_⟩ ?_ ⟨rfl, rfl, rfl, rfl, rfl, rfl, rfl, rfl⟩)
        · rcases List.mem_append.1 hq with h5 | h5
          · exact (hN.saved q (by simp [h5])).mono (by omega)
          · rw [List.mem_singleton.1 h5]; exact (hN.saved (f, m) (by simp)).mono (by omega)
        · unfold plainA
          rw [if_neg hj', if_neg (by omega), if_neg (by omega), if_neg (by omega)]
          rw [← hkA, ← opA_opd hT]
          simp [absS, absF, List.map_take, abs4]
    · repeat (first | (refine CondX.tt ?_; conv => whnf) | (refine CondX.ff ?_; conv => whnf))
      refine CondX.decI (fun h144 => ?_) (fun h144 => ?_) <;> conv => whnf
      · repeat (first | (refine CondX.tt ?_; conv => whnf) | (refine CondX.ff ?_; conv => whnf))
        refine CondX.dF (by omega) ?_; conv => whnf
        refine CondX.eqF (by omega) ?_; conv => whnf
        refine effect_ok ho0 ho1 h1 h2 h3 h4 h5 (sa := (some ⟨mA, 0, none⟩, k, k)) (xs := argX f.st k) ⟨fun h => ?_, fun h => ?_, fun h => ?_⟩ (fun h => ?_) (fun h => ?_) href S3 hN hN30 (haA.ext (e2.trans e3)) (fun p hp => (hxs p hp).ext (e2.trans e3)) (by dsimp only; omega) hfb hxW ?_
        · have := hTs.1 h; unfold opdI; rw [hopd 2 (by omega)]; exact hlen.1 h
        · have := hTs.2.1 h; unfold opdI; rw [hopd 3 (by omega)]; exact hlen.2.1 h
        · have := hlog h; unfold opdI; rw [hopd 1 (by omega)]; exact hlen.2.2 h
        · have := hlog h; simp only [argX, List.length_map, List.length_range]; omega
        · have := hTs.2.2.1 h; unfold opdI; rw [hopd 0 (by omega), hopd 1 (by omega)]; exact ⟨rfl, rfl⟩
        intro hi4 hm4 w4 e4 S4 sz4 abs4
        conv => whnf
        repeat (first | (refine CondX.tt ?_; conv => whnf) | (refine CondX.ff ?_; conv => whnf))
        have e134 := e13.trans e4
        have hkp := (hst3.ext e4).head (n := f.st.length - k) (by omega)
        have hbT := S4.top
        obtain ⟨fbz, padz, tfz, hfbz, hbz, -⟩ := hbT
        have : some (⟨fbz, 0, none⟩ : Addr) = some ⟨fb, 0, none⟩ := hfbz.symm.trans hfb
        cases this
        have hokZ := S4.okT
        have okF : ({ f with stS := (f.stS.1, f.st.length - k, f.st.length - k), st := (f.st.take (f.st.length - k)), pcS := (b3, n3, c3), pc := (f.pc + (1 + immI o)) } : YF).ok hi4 := ⟨(g3.ext e4), hokZ.gas, hokZ.val, hokZ.oo, hokZ.ol, hkp.1, (fun p hp => (hok.stE p (List.mem_of_mem_take hp)).ext e134), (by simp; omega), hokZ.code, hokZ.input, hokZ.self, hokZ.caller, hokZ.saved⟩
        refine StoreX.mid (f := f) S4.dj hbz 8 (by decide) rfl { f with stS := (f.stS.1, f.st.length - k, f.st.length - k), st := (f.st.take (f.st.length - k)) } rfl fun hdY => ?_; conv => whnf
        refine StoreX.mid (f := { f with stS := (f.stS.1, f.st.length - k, f.st.length - k), st := (f.st.take (f.st.length - k)) }) hdY (hput_same ..) 3 (by decide) rfl { f with stS := (f.stS.1, f.st.length - k, f.st.length - k), st := (f.st.take (f.st.length - k)), pcS := (b3, n3, c3), pc := (f.pc + (1 + immI o)) } rfl fun hdX => ?_; conv => whnf
        rw [hput_hput] at hdX ⊢
        have SY := S4.setTop (f' := { f with stS := (f.stS.1, f.st.length - k, f.st.length - k), st := (f.st.take (f.st.length - k)), pcS := (b3, n3, c3), pc := (f.pc + (1 + immI o)) }) hfb hbz okF rfl
        refine RetX.same (hk hi4 _ { s with w := w4 } (base ++ [({ f with stS := (f.stS.1, f.st.length - k, f.st.length - k), st := (f.st.take (f.st.length - k)), pcS := (b3, n3, c3), pc := (f.pc + (1 + immI o)) }, (effM (absW s.w) (absF (f, m)) ret o (opdI (argX f.st k))))]) ret left e134 SY ⟨(sz4.mono (by omega)), fun q hq => ?_⟩ ?_ ⟨rfl, rfl, rfl, rfl, rfl, rfl, rfl, rfl⟩)
        · rcases List.mem_append.1 hq with h5 | h5
          · exact (hN.saved q (by simp [h5])).mono (by omega)
          · rw [List.mem_singleton.1 h5]; exact (hN.saved (f, m) (by simp)).mono (by omega)
        · unfold plainA
          rw [if_neg hj', if_neg (by omega), if_neg (by omega), if_neg (by omega)]
          rw [← hkA, ← opA_opd hT]
          simp [absS, absF, List.map_take, abs4]
      · repeat (first | (refine CondX.tt ?_; conv => whnf) | (refine CondX.ff ?_; conv => whnf))
        refine CondX.eqF (by omega) ?_; conv => whnf
        refine effect_ok ho0 ho1 h1 h2 h3 h4 h5 (sa := (some ⟨mA, 0, none⟩, k, k)) (xs := argX f.st k) ⟨fun h => ?_, fun h => ?_, fun h => ?_⟩ (fun h => ?_) (fun h => ?_) href S3 hN hN30 (haA.ext (e2.trans e3)) (fun p hp => (hxs p hp).ext (e2.trans e3)) (by dsimp only; omega) hfb hxW ?_
        · have := hTs.1 h; unfold opdI; rw [hopd 2 (by omega)]; exact hlen.1 h
        · have := hTs.2.1 h; unfold opdI; rw [hopd 3 (by omega)]; exact hlen.2.1 h
        · have := hlog h; unfold opdI; rw [hopd 1 (by omega)]; exact hlen.2.2 h
        · have := hlog h; simp only [argX, List.length_map, List.length_range]; omega
        · have := hTs.2.2.1 h; unfold opdI; rw [hopd 0 (by omega), hopd 1 (by omega)]; exact ⟨rfl, rfl⟩
        intro hi4 hm4 w4 e4 S4 sz4 abs4
        conv => whnf
        repeat (first | (refine CondX.tt ?_; conv => whnf) | (refine CondX.ff ?_; conv => whnf))
        have e134 := e13.trans e4
        have hkp := (hst3.ext e4).head (n := f.st.length - k) (by omega)
        have hbT := S4.top
        obtain ⟨fbz, padz, tfz, hfbz, hbz, -⟩ := hbT
        have : some (⟨fbz, 0, none⟩ : Addr) = some ⟨fb, 0, none⟩ := hfbz.symm.trans hfb
        cases this
        have hokZ := S4.okT
        have okF : ({ f with stS := (f.stS.1, f.st.length - k, f.st.length - k), st := (f.st.take (f.st.length - k)), pcS := (b3, n3, c3), pc := (f.pc + (1 + immI o)) } : YF).ok hi4 := ⟨(g3.ext e4), hokZ.gas, hokZ.val, hokZ.oo, hokZ.ol, hkp.1, (fun p hp => (hok.stE p (List.mem_of_mem_take hp)).ext e134), (by simp; omega), hokZ.code, hokZ.input, hokZ.self, hokZ.caller, hokZ.saved⟩
        refine StoreX.mid (f := f) S4.dj hbz 8 (by decide) rfl { f with stS := (f.stS.1, f.st.length - k, f.st.length - k), st := (f.st.take (f.st.length - k)) } rfl fun hdY => ?_; conv => whnf
        refine StoreX.mid (f := { f with stS := (f.stS.1, f.st.length - k, f.st.length - k), st := (f.st.take (f.st.length - k)) }) hdY (hput_same ..) 3 (by decide) rfl { f with stS := (f.stS.1, f.st.length - k, f.st.length - k), st := (f.st.take (f.st.length - k)), pcS := (b3, n3, c3), pc := (f.pc + (1 + immI o)) } rfl fun hdX => ?_; conv => whnf
        rw [hput_hput] at hdX ⊢
        have SY := S4.setTop (f' := { f with stS := (f.stS.1, f.st.length - k, f.st.length - k), st := (f.st.take (f.st.length - k)), pcS := (b3, n3, c3), pc := (f.pc + (1 + immI o)) }) hfb hbz okF rfl
        refine RetX.same (hk hi4 _ { s with w := w4 } (base ++ [({ f with stS := (f.stS.1, f.st.length - k, f.st.length - k), st := (f.st.take (f.st.length - k)), pcS := (b3, n3, c3), pc := (f.pc + (1 + immI o)) }, (effM (absW s.w) (absF (f, m)) ret o (opdI (argX f.st k))))]) ret left e134 SY ⟨(sz4.mono (by omega)), fun q hq => ?_⟩ ?_ ⟨rfl, rfl, rfl, rfl, rfl, rfl, rfl, rfl⟩)
        · rcases List.mem_append.1 hq with h5 | h5
          · exact (hN.saved q (by simp [h5])).mono (by omega)
          · rw [List.mem_singleton.1 h5]; exact (hN.saved (f, m) (by simp)).mono (by omega)
        · unfold plainA
          rw [if_neg hj', if_neg (by omega), if_neg (by omega), if_neg (by omega)]
          rw [← hkA, ← opA_opd hT]
          simp [absS, absF, List.map_take, abs4]
  · repeat (first | (refine CondX.tt ?_; conv => whnf) | (refine CondX.ff ?_; conv => whnf))
    refine CondX.decI (fun h128 => ?_) (fun h128 => ?_) <;> conv => whnf
    · repeat (first | (refine CondX.tt ?_; conv => whnf) | (refine CondX.ff ?_; conv => whnf))
      refine CondX.dF (by omega) ?_; conv => whnf
      refine CondX.decI (fun h144 => ?_) (fun h144 => ?_) <;> conv => whnf
      · repeat (first | (refine CondX.tt ?_; conv => whnf) | (refine CondX.ff ?_; conv => whnf))
        refine CondX.dF (by omega) ?_; conv => whnf
        refine CondX.eqF (by omega) ?_; conv => whnf
        refine effect_ok ho0 ho1 h1 h2 h3 h4 h5 (sa := (some ⟨mA, 0, none⟩, k, k)) (xs := argX f.st k) ⟨fun h => ?_, fun h => ?_, fun h => ?_⟩ (fun h => ?_) (fun h => ?_) href S3 hN hN30 (haA.ext (e2.trans e3)) (fun p hp => (hxs p hp).ext (e2.trans e3)) (by dsimp only; omega) hfb hxW ?_
        · have := hTs.1 h; unfold opdI; rw [hopd 2 (by omega)]; exact hlen.1 h
        · have := hTs.2.1 h; unfold opdI; rw [hopd 3 (by omega)]; exact hlen.2.1 h
        · have := hlog h; unfold opdI; rw [hopd 1 (by omega)]; exact hlen.2.2 h
        · have := hlog h; simp only [argX, List.length_map, List.length_range]; omega
        · have := hTs.2.2.1 h; unfold opdI; rw [hopd 0 (by omega), hopd 1 (by omega)]; exact ⟨rfl, rfl⟩
        intro hi4 hm4 w4 e4 S4 sz4 abs4
        conv => whnf
        repeat (first | (refine CondX.tt ?_; conv => whnf) | (refine CondX.ff ?_; conv => whnf))
        have e134 := e13.trans e4
        have hkp := (hst3.ext e4).head (n := f.st.length - k) (by omega)
        have hbT := S4.top
        obtain ⟨fbz, padz, tfz, hfbz, hbz, -⟩ := hbT
        have : some (⟨fbz, 0, none⟩ : Addr) = some ⟨fb, 0, none⟩ := hfbz.symm.trans hfb
        cases this
        have hokZ := S4.okT
        have okF : ({ f with stS := (f.stS.1, f.st.length - k, f.st.length - k), st := (f.st.take (f.st.length - k)), pcS := (b3, n3, c3), pc := (f.pc + (1 + immI o)) } : YF).ok hi4 := ⟨(g3.ext e4), hokZ.gas, hokZ.val, hokZ.oo, hokZ.ol, hkp.1, (fun p hp => (hok.stE p (List.mem_of_mem_take hp)).ext e134), (by simp; omega), hokZ.code, hokZ.input, hokZ.self, hokZ.caller, hokZ.saved⟩
        refine StoreX.mid (f := f) S4.dj hbz 8 (by decide) rfl { f with stS := (f.stS.1, f.st.length - k, f.st.length - k), st := (f.st.take (f.st.length - k)) } rfl fun hdY => ?_; conv => whnf
        refine StoreX.mid (f := { f with stS := (f.stS.1, f.st.length - k, f.st.length - k), st := (f.st.take (f.st.length - k)) }) hdY (hput_same ..) 3 (by decide) rfl { f with stS := (f.stS.1, f.st.length - k, f.st.length - k), st := (f.st.take (f.st.length - k)), pcS := (b3, n3, c3), pc := (f.pc + (1 + immI o)) } rfl fun hdX => ?_; conv => whnf
        rw [hput_hput] at hdX ⊢
        have SY := S4.setTop (f' := { f with stS := (f.stS.1, f.st.length - k, f.st.length - k), st := (f.st.take (f.st.length - k)), pcS := (b3, n3, c3), pc := (f.pc + (1 + immI o)) }) hfb hbz okF rfl
        refine RetX.same (hk hi4 _ { s with w := w4 } (base ++ [({ f with stS := (f.stS.1, f.st.length - k, f.st.length - k), st := (f.st.take (f.st.length - k)), pcS := (b3, n3, c3), pc := (f.pc + (1 + immI o)) }, (effM (absW s.w) (absF (f, m)) ret o (opdI (argX f.st k))))]) ret left e134 SY ⟨(sz4.mono (by omega)), fun q hq => ?_⟩ ?_ ⟨rfl, rfl, rfl, rfl, rfl, rfl, rfl, rfl⟩)
        · rcases List.mem_append.1 hq with h5 | h5
          · exact (hN.saved q (by simp [h5])).mono (by omega)
          · rw [List.mem_singleton.1 h5]; exact (hN.saved (f, m) (by simp)).mono (by omega)
        · unfold plainA
          rw [if_neg hj', if_neg (by omega), if_neg (by omega), if_neg (by omega)]
          rw [← hkA, ← opA_opd hT]
          simp [absS, absF, List.map_take, abs4]
      · repeat (first | (refine CondX.tt ?_; conv => whnf) | (refine CondX.ff ?_; conv => whnf))
        refine CondX.eqF (by omega) ?_; conv => whnf
        refine effect_ok ho0 ho1 h1 h2 h3 h4 h5 (sa := (some ⟨mA, 0, none⟩, k, k)) (xs := argX f.st k) ⟨fun h => ?_, fun h => ?_, fun h => ?_⟩ (fun h => ?_) (fun h => ?_) href S3 hN hN30 (haA.ext (e2.trans e3)) (fun p hp => (hxs p hp).ext (e2.trans e3)) (by dsimp only; omega) hfb hxW ?_
        · have := hTs.1 h; unfold opdI; rw [hopd 2 (by omega)]; exact hlen.1 h
        · have := hTs.2.1 h; unfold opdI; rw [hopd 3 (by omega)]; exact hlen.2.1 h
        · have := hlog h; unfold opdI; rw [hopd 1 (by omega)]; exact hlen.2.2 h
        · have := hlog h; simp only [argX, List.length_map, List.length_range]; omega
        · have := hTs.2.2.1 h; unfold opdI; rw [hopd 0 (by omega), hopd 1 (by omega)]; exact ⟨rfl, rfl⟩
        intro hi4 hm4 w4 e4 S4 sz4 abs4
        conv => whnf
        repeat (first | (refine CondX.tt ?_; conv => whnf) | (refine CondX.ff ?_; conv => whnf))
        have e134 := e13.trans e4
        have hkp := (hst3.ext e4).head (n := f.st.length - k) (by omega)
        have hbT := S4.top
        obtain ⟨fbz, padz, tfz, hfbz, hbz, -⟩ := hbT
        have : some (⟨fbz, 0, none⟩ : Addr) = some ⟨fb, 0, none⟩ := hfbz.symm.trans hfb
        cases this
        have hokZ := S4.okT
        have okF : ({ f with stS := (f.stS.1, f.st.length - k, f.st.length - k), st := (f.st.take (f.st.length - k)), pcS := (b3, n3, c3), pc := (f.pc + (1 + immI o)) } : YF).ok hi4 := ⟨(g3.ext e4), hokZ.gas, hokZ.val, hokZ.oo, hokZ.ol, hkp.1, (fun p hp => (hok.stE p (List.mem_of_mem_take hp)).ext e134), (by simp; omega), hokZ.code, hokZ.input, hokZ.self, hokZ.caller, hokZ.saved⟩
        refine StoreX.mid (f := f) S4.dj hbz 8 (by decide) rfl { f with stS := (f.stS.1, f.st.length - k, f.st.length - k), st := (f.st.take (f.st.length - k)) } rfl fun hdY => ?_; conv => whnf
        refine StoreX.mid (f := { f with stS := (f.stS.1, f.st.length - k, f.st.length - k), st := (f.st.take (f.st.length - k)) }) hdY (hput_same ..) 3 (by decide) rfl { f with stS := (f.stS.1, f.st.length - k, f.st.length - k), st := (f.st.take (f.st.length - k)), pcS := (b3, n3, c3), pc := (f.pc + (1 + immI o)) } rfl fun hdX => ?_; conv => whnf
        rw [hput_hput] at hdX ⊢
        have SY := S4.setTop (f' := { f with stS := (f.stS.1, f.st.length - k, f.st.length - k), st := (f.st.take (f.st.length - k)), pcS := (b3, n3, c3), pc := (f.pc + (1 + immI o)) }) hfb hbz okF rfl
        refine RetX.same (hk hi4 _ { s with w := w4 } (base ++ [({ f with stS := (f.stS.1, f.st.length - k, f.st.length - k), st := (f.st.take (f.st.length - k)), pcS := (b3, n3, c3), pc := (f.pc + (1 + immI o)) }, (effM (absW s.w) (absF (f, m)) ret o (opdI (argX f.st k))))]) ret left e134 SY ⟨(sz4.mono (by omega)), fun q hq => ?_⟩ ?_ ⟨rfl, rfl, rfl, rfl, rfl, rfl, rfl, rfl⟩)
        · rcases List.mem_append.1 hq with h5 | h5
          · exact (hN.saved q (by simp [h5])).mono (by omega)
          · rw [List.mem_singleton.1 h5]; exact (hN.saved (f, m) (by simp)).mono (by omega)
        · unfold plainA
          rw [if_neg hj', if_neg (by omega), if_neg (by omega), if_neg (by omega)]
          rw [← hkA, ← opA_opd hT]
          simp [absS, absF, List.map_take, abs4]
    · repeat (first | (refine CondX.tt ?_; conv => whnf) | (refine CondX.ff ?_; conv => whnf))
      refine CondX.decI (fun h144 => ?_) (fun h144 => ?_) <;> conv => whnf
      · repeat (first | (refine CondX.tt ?_; conv => whnf) | (refine CondX.ff ?_; conv => whnf))
        refine CondX.dF (by omega) ?_; conv => whnf
        refine CondX.eqF (by omega) ?_; conv => whnf
        refine effect_ok ho0 ho1 h1 h2 h3 h4 h5 (sa := (some ⟨mA, 0, none⟩, k, k)) (xs := argX f.st k) ⟨fun h => ?_, fun h => ?_, fun h => ?_⟩ (fun h => ?_) (fun h => ?_) href S3 hN hN30 (haA.ext (e2.trans e3)) (fun p hp => (hxs p hp).ext (e2.trans e3)) (by dsimp only; omega) hfb hxW ?_
        · have := hTs.1 h; unfold opdI; rw [hopd 2 (by omega)]; exact hlen.1 h
        · have := hTs.2.1 h; unfold opdI; rw [hopd 3 (by omega)]; exact hlen.2.1 h
        · have := hlog h; unfold opdI; rw [hopd 1 (by omega)]; exact hlen.2.2 h
        · have := hlog h; simp only [argX, List.length_map, List.length_range]; omega
        · have := hTs.2.2.1 h; unfold opdI; rw [hopd 0 (by omega), hopd 1 (by omega)]; exact ⟨rfl, rfl⟩
        intro hi4 hm4 w4 e4 S4 sz4 abs4
        conv => whnf
        repeat (first | (refine CondX.tt ?_; conv => whnf) | (refine CondX.ff ?_; conv => whnf))
        have e134 := e13.trans e4
        have hkp := (hst3.ext e4).head (n := f.st.length - k) (by omega)
        have hbT := S4.top
        obtain ⟨fbz, padz, tfz, hfbz, hbz, -⟩ := hbT
        have : some (⟨fbz, 0, none⟩ : Addr) = some ⟨fb, 0, none⟩ := hfbz.symm.trans hfb
        cases this
        have hokZ := S4.okT
        have okF : ({ f with stS := (f.stS.1, f.st.length - k, f.st.length - k), st := (f.st.take (f.st.length - k)), pcS := (b3, n3, c3), pc := (f.pc + (1 + immI o)) } : YF).ok hi4 := ⟨(g3.ext e4), hokZ.gas, hokZ.val, hokZ.oo, hokZ.ol, hkp.1, (fun p hp => (hok.stE p (List.mem_of_mem_take hp)).ext e134), (by simp; omega), hokZ.code, hokZ.input, hokZ.self, hokZ.caller, hokZ.saved⟩
        refine StoreX.mid (f := f) S4.dj hbz 8 (by decide) rfl { f with stS := (f.stS.1, f.st.length - k, f.st.length - k), st := (f.st.take (f.st.length - k)) } rfl fun hdY => ?_; conv => whnf
        refine StoreX.mid (f := { f with stS := (f.stS.1, f.st.length - k, f.st.length - k), st := (f.st.take (f.st.length - k)) }) hdY (hput_same ..) 3 (by decide) rfl { f with stS := (f.stS.1, f.st.length - k, f.st.length - k), st := (f.st.take (f.st.length - k)), pcS := (b3, n3, c3), pc := (f.pc + (1 + immI o)) } rfl fun hdX => ?_; conv => whnf
        rw [hput_hput] at hdX ⊢
        have SY := S4.setTop (f' := { f with stS := (f.stS.1, f.st.length - k, f.st.length - k), st := (f.st.take (f.st.length - k)), pcS := (b3, n3, c3), pc := (f.pc + (1 + immI o)) }) hfb hbz okF rfl
        refine RetX.same (hk hi4 _ { s with w := w4 } (base ++ [({ f with stS := (f.stS.1, f.st.length - k, f.st.length - k), st := (f.st.take (f.st.length - k)), pcS := (b3, n3, c3), pc := (f.pc + (1 + immI o)) }, (effM (absW s.w) (absF (f, m)) ret o (opdI (argX f.st k))))]) ret left e134 SY ⟨(sz4.mono (by omega)), fun q hq => ?_⟩ ?_ ⟨rfl, rfl, rfl, rfl, rfl, rfl, rfl, rfl⟩)
        · rcases List.mem_append.1 hq with h5 | h5
          · exact (hN.saved q (by simp [h5])).mono (by omega)
          · rw [List.mem_singleton.1 h5]; exact (hN.saved (f, m) (by simp)).mono (by omega)
        · unfold plainA
          rw [if_neg hj', if_neg (by omega), if_neg (by omega), if_neg (by omega)]
          rw [← hkA, ← opA_opd hT]
          simp [absS, absF, List.map_take, abs4]
      · repeat (first | (refine CondX.tt ?_; conv => whnf) | (refine CondX.ff ?_; conv => whnf))
        refine CondX.eqF (by omega) ?_; conv => whnf
        refine effect_ok ho0 ho1 h1 h2 h3 h4 h5 (sa := (some ⟨mA, 0, none⟩, k, k)) (xs := argX f.st k) ⟨fun h => ?_, fun h => ?_, fun h => ?_⟩ (fun h => ?_) (fun h => ?_) href S3 hN hN30 (haA.ext (e2.trans e3)) (fun p hp => (hxs p hp).ext (e2.trans e3)) (by dsimp only; omega) hfb hxW ?_
        · have := hTs.1 h; unfold opdI; rw [hopd 2 (by omega)]; exact hlen.1 h
        · have := hTs.2.1 h; unfold opdI; rw [hopd 3 (by omega)]; exact hlen.2.1 h
        · have := hlog h; unfold opdI; rw [hopd 1 (by omega)]; exact hlen.2.2 h
        · have := hlog h; simp only [argX, List.length_map, List.length_range]; omega
        · have := hTs.2.2.1 h; unfold opdI; rw [hopd 0 (by omega), hopd 1 (by omega)]; exact ⟨rfl, rfl⟩
        intro hi4 hm4 w4 e4 S4 sz4 abs4
        conv => whnf
        repeat (first | (refine CondX.tt ?_; conv => whnf) | (refine CondX.ff ?_; conv => whnf))
        have e134 := e13.trans e4
        have hkp := (hst3.ext e4).head (n := f.st.length - k) (by omega)
        have hbT := S4.top
        obtain ⟨fbz, padz, tfz, hfbz, hbz, -⟩ := hbT
        have : some (⟨fbz, 0, none⟩ : Addr) = some ⟨fb, 0, none⟩ := hfbz.symm.trans hfb
        cases this
        have hokZ := S4.okT
        have okF : ({ f with stS := (f.stS.1, f.st.length - k, f.st.length - k), st := (f.st.take (f.st.length - k)), pcS := (b3, n3, c3), pc := (f.pc + (1 + immI o)) } : YF).ok hi4 := ⟨(g3.ext e4), hokZ.gas, hokZ.val, hokZ.oo, hokZ.ol, hkp.1, (fun p hp => (hok.stE p (List.mem_of_mem_take hp)).ext e134), (by simp; omega), hokZ.code, hokZ.input, hokZ.self, hokZ.caller, hokZ.saved⟩
        refine StoreX.mid (f := f) S4.dj hbz 8 (by decide) rfl { f with stS := (f.stS.1, f.st.length - k, f.st.length - k), st := (f.st.take (f.st.length - k)) } rfl fun hdY => ?_; conv => whnf
        refine StoreX.mid (f := { f with stS := (f.stS.1, f.st.length - k, f.st.length - k), st := (f.st.take (f.st.length - k)) }) hdY (hput_same ..) 3 (by decide) rfl { f with stS := (f.stS.1, f.st.length - k, f.st.length - k), st := (f.st.take (f.st.length - k)), pcS := (b3, n3, c3), pc := (f.pc + (1 + immI o)) } rfl fun hdX => ?_; conv => whnf
        rw [hput_hput] at hdX ⊢
        have SY := S4.setTop (f' := { f with stS := (f.stS.1, f.st.length - k, f.st.length - k), st := (f.st.take (f.st.length - k)), pcS := (b3, n3, c3), pc := (f.pc + (1 + immI o)) }) hfb hbz okF rfl
        refine RetX.same (hk hi4 _ { s with w := w4 } (base ++ [({ f with stS := (f.stS.1, f.st.length - k, f.st.length - k), st := (f.st.take (f.st.length - k)), pcS := (b3, n3, c3), pc := (f.pc + (1 + immI o)) }, (effM (absW s.w) (absF (f, m)) ret o (opdI (argX f.st k))))]) ret left e134 SY ⟨(sz4.mono (by omega)), fun q hq => ?_⟩ ?_ ⟨rfl, rfl, rfl, rfl, rfl, rfl, rfl, rfl⟩)
        · rcases List.mem_append.1 hq with h5 | h5
          · exact (hN.saved q (by simp [h5])).mono (by omega)
          · rw [List.mem_singleton.1 h5]; exact (hN.saved (f, m) (by simp)).mono (by omega)
        · unfold plainA
          rw [if_neg hj', if_neg (by omega), if_neg (by omega), if_neg (by omega)]
          rw [← hkA, ← opA_opd hT]
          simp [absS, absF, List.map_take, abs4]
end
end Go.Proofs.YgvalwGreat.X
