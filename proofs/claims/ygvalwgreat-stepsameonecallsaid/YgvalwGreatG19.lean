import Derived.Test.YgvalwGreatG18
set_option linter.unusedVariables false
set_option linter.unusedSimpArgs false
namespace Go.Proofs.YgvalwGreat.X
open Go

theorem MakeX.j {hi hm : Hp} {e : TypeId} {z : List Value} {bytes : Nat} {len cap : Int} {KK : Nat → Hp → Prop} (hd : Dj hi hm) (n : Nat) (hl : len = n) (hc : cap = n) (hp : 0 < bytes) (hr : (n : Int) * bytes ≤ 2 ^ 47)
    (hk : ∀ m, hi m = none → hm m = none → Dj (hput hi m (zeros z n, e)) hm → KK m (join (hput hi m (zeros z n, e)) hm)) : MakeX (join hi hm) e z bytes len cap KK := by
  subst hl hc
  refine ⟨hp, by omega, Int.le_refl _, hr, fun m hmb => ?_⟩
  obtain ⟨hin, hmn⟩ := join_none (hmb.none (Nat.le_refl _))
  rw [join_put, Int.toNat_natCast]
  exact hk m hin hmn (hd.hn hmn)
/-- The first operands of a stack, as cells; zeros behind them. -/
def argC (st : List (Sl × Int)) (T k : Nat) : List Value := (List.range k).map (fun i => sl (argP st i).1) ++ List.replicate (T - k) (sl nilS)
theorem argC_len {st : List (Sl × Int)} {T k : Nat} (h : k ≤ T) : (argC st T k).length = T := by simp [argC]; omega
theorem argC_set {st : List (Sl × Int)} {T k : Nat} (h : k < T) : setSeg (argC st T k) k [sl (argP st k).1] = argC st T (k + 1) := by
  have hl : ((List.range k).map (fun i => sl (argP st i).1)).length = k := by simp
  have e1 : List.replicate (T - k) (sl nilS) = sl nilS :: List.replicate (T - (k + 1)) (sl nilS) := by
    rw [show T - k = (T - (k + 1)) + 1 by omega, List.replicate_succ]
  unfold argC
  rw [e1]
  have := set_mid (pre := (List.range k).map (fun i => sl (argP st i).1)) (L := sl nilS :: List.replicate (T - (k + 1)) (sl nilS)) (post := []) (k := 0) (v := sl (argP st k).1) (by simp)
  rw [hl, List.append_nil, List.append_nil] at this
  refine Eq.trans this ?_
  rw [List.range_succ, List.map_append]
  simp
theorem argC_zero {st : List (Sl × Int)} {T : Nat} : zeros z106 T = argC st T 0 := by
  unfold argC zeros
  simp only [List.range_zero, List.map_nil, List.nil_append, Nat.sub_zero]
  induction T with
  | zero => rfl
  | succ T ih => rw [List.replicate_succ, List.flatten_cons, ih, List.replicate_succ]; rfl
theorem arI_all : (List.range 256).all (fun n => decide (0 ≤ (arI n).1)) = true := by decide +kernel
theorem arI_pos {o : Int} (h0 : 0 ≤ o) (h1 : o < 256) : 0 ≤ (arI o).1 := by
  obtain ⟨n, rfl⟩ : ∃ n : Nat, o = n := ⟨o.toNat, by omega⟩
  exact of_decide_eq_true (List.all_eq_true.1 arI_all n (List.mem_range.2 (by omega)))
def argX (st : List (Sl × Int)) (T : Nat) : List (Sl × Int) := (List.range T).map (argP st)
theorem argX_opd (st : List (Sl × Int)) (T i : Nat) : opdP (argX st T) i = if i < T then argP st i else (nilS, 0) := by
  unfold opdP argX
  rw [List.getD_eq_getElem?_getD, List.getElem?_map]
  by_cases h : i < T
  · rw [List.getElem?_range h, if_pos h]; rfl
  · rw [List.getElem?_eq_none (by simp; omega), if_neg h]; rfl
theorem argX_cells (st : List (Sl × Int)) (T : Nat) : ((argX st T).map stCells).flatten = argC st T T := by
  unfold argX argC
  rw [Nat.sub_self, List.replicate_zero, List.append_nil]
  induction T with
  | zero => rfl
  | succ T ih => rw [List.range_succ]; simp only [List.map_append, List.flatten_append, ih]; simp [stCells]
/-- One word more on a frozen stack: laid anew, and frozen. -/
theorem AppendX.fz1 {hi hm : Hp} {K : Value → Hp → Prop} {s sw : Sl} {st : List (Sl × Int)} {w : Int} {nw : Option (List Value)} (hd : Dj hi hm) (a : ArrF hi s 1 (st.map stCells)) (hnw : nw = some [sl sw]) (hr : s.2.1 < 2 ^ 30)
    (hk : ∀ s' hi', Ext hi hi' → Dj hi' hm → Arr hi' s' 1 ((st ++ [(sw, w)]).map stCells) → K (sl s') (join hi' hm)) : AppendX (join hi hm) 106 1 24 z106 s.1 s.2.1 s.2.2 nw 1 K := by
  have hlen := a.1.len
  have hc := a.2
  refine ⟨by decide, (st.map stCells).flatten, [sl sw], rd_ext (Ext.jl hi hm) a.1.rd, hnw, by omega, fun hle => by omega, fun _ nc hnc m hm' => ?_⟩
  obtain ⟨hin, hmn⟩ := join_none (hm'.none (Nat.le_refl _))
  rw [join_put]
  refine hk (some ⟨m, 0, none⟩, s.2.1 + 1, nc) _ (Ext.new hin) (hd.hn hmn) ?_
  have B : Bld (fun _ => none) (hput hi m ((st.map stCells).flatten ++ [sl sw] ++ zeros z106 (nc - (s.2.1 + 1)), 106)) 1 (some ⟨m, 0, none⟩, s.2.1 + 1, nc) ((st ++ [(sw, w)]).map stCells) := by
    refine ⟨fun c x hc => (by cases hc), fun e he => ?_, fun e he => ?_, ?_, .inr ⟨m, zeros z106 (nc - (s.2.1 + 1)), 106, rfl, rfl, ?_, hnc, ?_⟩⟩
    · obtain ⟨q, -, rfl⟩ := List.mem_map.1 he; rfl
    · obtain ⟨q, -, rfl⟩ := List.mem_map.1 he; rfl
    · simp at hlen; simp [hlen]
    · rw [hput_same]; simp [stCells]
    · rw [zeros_len]; exact Nat.le_of_eq rfl
  exact B.arr
/-- A stack's head, frozen. -/
theorem Arr.head {h : Hp} {s : Sl} {st : List (Sl × Int)} (a : Arr h s 1 (st.map stCells)) {n : Nat} (hn : n ≤ s.2.1) : ArrF h (s.1, n, n) 1 ((st.take n).map stCells) := by
  have hl : st.length = s.2.1 := by have := a.len; simpa using this
  refine ⟨⟨?_, by simp; omega, fun e he => ?_, fun e he => ?_, Nat.le_refl _, fun hnil => ?_⟩, rfl⟩
  · rw [List.map_take]; exact a.pre (n := n) hn
  · obtain ⟨q, -, rfl⟩ := List.mem_map.1 he; rfl
  · obtain ⟨q, -, rfl⟩ := List.mem_map.1 he; rfl
  · have := a.nil hnil; have := a.le; show n = 0; omega
/-- An instruction that neither ends its frame nor enters another. -/
def opA (f : AF) (o : Int) (i : Nat) : Int := if i < (arI o).1.toNat then argA f.st i else 0
def swM (A : Nat → Int) (T : Nat) : List Int := (List.range (T - 2)).map fun j => A (T - 2 - j)
def plainA (a : AS) (base : List AF) (f : AF) (orig : List Int) (o : Int) : AS :=
  let T := (arI o).1.toNat
  let A := opA f o
  let kept := f.st.take (f.st.length - T)
  let nx := f.pc + (1 + immI o)
  if o = 86 ∨ (o = 87 ∧ A 1 ≠ 0) then { a with frs := base ++ [{ f with st := kept, pc := A 0 }] }
  else if 128 ≤ o ∧ o ≤ 143 then { a with frs := base ++ [{ f with st := f.st ++ [A (T - 1)], pc := nx }] }
  else if 144 ≤ o ∧ o ≤ 159 then { a with frs := base ++ [{ f with st := kept ++ ([A 0] ++ swM A T ++ [A (T - 1)]), pc := nx }] }
  else if (arI o).2.1 = 1 then { a with w := valW a.w f.self o A, frs := base ++ [{ f with st := kept ++ [valA a.w f a.ret orig o A], pc := nx }] }
  else { a with w := effW a.w f.self o A, frs := base ++ [{ f with st := kept, pc := nx, mem := effM a.w f a.ret o A }] }
section
variable {hi hm : Hp} {K : Value → Hp → Prop} {c : Nat} {tc : TypeId} {s : YS} {base : List (YF × List Int)} {f : YF} {m ret : List Int} {left : Int} {N : Nat}
theorem opA_opd {o : Int} {T : Nat} (hT : (arI o).1 = T) : opdI (argX f.st T) = opA (absF (f, m)) o := by
  funext i
  unfold opdI opA
  rw [argX_opd, hT, Int.toNat_natCast]
  show (if i < T then argP f.st i else (nilS, 0)).2 = if i < T then argA (f.st.map Prod.snd) i else 0
  rw [← argI_abs]
  split <;> rfl

set_option maxRecDepth 100000 in
set_option maxHeartbeats 4000000 in
theorem plain_jump {o : Int} (hj : o = 86 ∨ o = 87 ∧ argI f.st 1 ≠ 0) (ho0 : 0 ≤ o) (ho1 : o < 256) (S : StOK hi hm c tc s (base ++ [(f, m)]) ret left) (hN : StN N s (base ++ [(f, m)])) (hN30 : N + 3 < 2 ^ 30) {fb : Nat} (hfb : at0 s.frS fb) (hst : (arI o).1 ≤ f.st.length) (hpc : f.pc + 100 < big)
     (hk : StK hi c tc s (N + 3) (plainA (absS s (base ++ [(f, m)]) ret left) (base.map absF) (absF (f, m)) s.origin o) K) :
     CallX Hval.prog 60 [.pointer (some ⟨c, 0, none⟩), .pointer (some ⟨fb, (preC base).length, none⟩), .int .u8 o] (join hi hm) K := by
  refine CallX.of_xf T_ok Hval.func60 rfl (by kernel_rfl) (Nat.le_of_ble_eq_true rfl) ?_; conv => whnf
  obtain ⟨fb', pad, tf, hfb', hb, hn1, hn2, hn3⟩ := S.top
  have : some (⟨fb', 0, none⟩ : Addr) = some ⟨fb, 0, none⟩ := hfb'.symm.trans hfb
  cases this
  have hok := S.okT
  have hd := S.dj
  have hc := S.chain
  have hcf : c ≠ fb := S.frC fb hfb
  have hsr : f.stS.2.1 < 2 ^ 30 := by have := hok.n; have := hok.stR; omega
  have hstR := hok.stR
  have hn := hok.n
  refine arity_ok (o := o) ho0 ho1 ?_; conv => whnf
  obtain ⟨T, hT⟩ : ∃ T : Nat, (arI o).1 = T := ⟨(arI o).1.toNat, by have := arI_pos ho0 ho1; omega⟩
  rw [hT] at hst ⊢
  have hT64 : T ≤ 64 := by omega
  refine MakeX.j hd T rfl rfl (by decide) (show (T : Int) * 24 ≤ 2 ^ 47 by omega) fun mA hinA hmnA hdA => ?_; conv => whnf
  refine LoopX.st T_ok Hval.func60 (σ := Nat) (fun k => [(0, .pointer (some ⟨c, 0, none⟩)), (1, .pointer (some ⟨fb, (preC base).length, none⟩)), (2, .int .u8 o), (6, .int .i64 T), (7, .int .i64 (arI o).2.1), (9, .slice (some ⟨mA, 0, none⟩) T T), (23, .int .i64 T), (24, .int .i64 k)])
    (fun k h' => k ≤ T ∧ h' = join (hput hi mA (argC f.st T k, 106)) hm) (fun k => T - k) 0 ⟨rfl, rfl, rfl, rfl, rfl, rfl, rfl, rfl, trivial⟩ ⟨Nat.zero_le _, by rw [← argC_zero]; rfl⟩ ?_
  rintro k ρ h' ⟨hk1, rfl⟩ ih
  conv => whnf
  have hdk : ∀ k, Dj (hput hi mA (argC f.st T k, 106)) hm := fun k => hdA.hp
  have ek : ∀ k, Ext hi (hput hi mA (argC f.st T k, 106)) := fun k => Ext.new hinA
  refine CondX.decI (fun hlt => ?_) (fun hlt => ?_) <;> conv => whnf
  · have hlt : k < T := by omega
    refine arg_ok (join_hm (hdk k) hb) ((hok.st.ext (ek k)).ext (Ext.jl _ _)) hsr k (by omega) ?_; conv => whnf
    refine IdxX.at (by omega) (by omega) ?_; conv => whnf
    refine StoreX.j (by rw [argC_len (by omega)]; simp [show y106.size = 1 from rfl]; omega) ?_; conv => whnf
    have eC : setSeg (argC f.st T k) (0 + ((k : Nat) : Int).toNat * (106, y106).snd.size) [sl (argP f.st k).1] = argC f.st T (k + 1) := by
      rw [Int.toNat_natCast, Nat.zero_add, show (106, y106).snd.size = 1 from rfl, Nat.mul_one]; exact argC_set hlt
    erw [eC]
    exact ih (k + 1) _ _ ⟨by omega, rfl⟩ (by omega) ⟨rfl, rfl, rfl, rfl, rfl, rfl, rfl, congrArg (Value.int .i64) (wsucc (by omega)), trivial⟩
  have hkT : k = T := by omega
  subst hkT
  have haA : Arr (hput hi mA (argC f.st k k, 106)) (some ⟨mA, 0, none⟩, k, k) 1 ((argX f.st k).map stCells) := Arr.own (by simp [argX]) (fun e he => by obtain ⟨q, -, rfl⟩ := List.mem_map.1 he; rfl) (fun e he => by obtain ⟨q, -, rfl⟩ := List.mem_map.1 he; rfl) (by rw [argX_cells]; exact hput_same ..)
  have hxs : ∀ p ∈ argX f.st k, NtS (hput hi mA (argC f.st k k, 106)) p.1 p.2 := fun p hp => by
    obtain ⟨i, -, rfl⟩ := List.mem_map.1 hp
    exact (argP_ok hok.stE i).ext (ek k)
  have e1 := ek k
  have hd1 := hdk k
  clear hdk ek ih
  generalize hput hi mA (argC f.st k k, 106) = hi1 at *
  have hok1 := hok.ext e1
  have him : 0 ≤ immI o ∧ immI o < 33 := by unfold immI; split <;> omega
  refine DrawX.go T_ok hM Hval.func60 (tb := dr60) rfl (by kernel_rfl) ?_; conv => whnf
  refine LoadX.mid (join_hm hd1 hb) 3 (by decide) rfl (v := sl f.pcS) rfl ?_; conv => whnf
  refine imm_ok (o := o) ho0 ho1 ?_; conv => whnf
  repeat (refine Ob.mk (by first | exact ldV_mid (join_hm hd1 hb) 3 (by decide) rfl rfl) ?_; conv => whnf)
  have e64 : IntKind.u64.wrap (1 + IntKind.u64.wrap (immI o)) = 1 + immI o := by rw [wrap_u64', wrap_u64']; omega
  rw [e64]
  refine CallX.fj hd1 (num_ok (by omega) (by omega) fun b2 n2 c2 hi2 e2 g2 hd2 => ?_); conv => whnf
  repeat (refine Ob.mk (by first | exact ldV_mid (join_hm hd2 hb) 3 (by decide) rfl rfl) ?_; conv => whnf)
  refine CallX.fj hd2 (addN (hok1.pc.ext e2) g2 (by omega) fun b3 n3 c3 hi3 e3 g3 hd3 => ?_); conv => whnf
  repeat (refine Ob.mk (by first | exact ldV_mid (join_hm hd3 hb) 3 (by decide) rfl rfl) ?_; conv => whnf)
  have e13 := (e1.trans e2).trans e3
  refine DrawX.go T_ok hM Hval.func60 (tb := dr60) rfl (by kernel_rfl) ?_; conv => whnf
  refine LoadX.mid (join_hm hd3 hb) 8 (by decide) rfl (v := sl f.stS) rfl ?_; conv => whnf
  refine LoadX.mid (join_hm hd3 hb) 8 (by decide) rfl (v := sl f.stS) rfl ?_; conv => whnf
  refine LoadX.mid (join_hm hd3 hb) 8 (by decide) rfl (v := sl f.stS) rfl ?_; conv => whnf
  have eK : IntKind.i64.wrap ((f.stS.2.1 : Int) - (k : Int)) = ((f.st.length - k : Nat) : Int) := by rw [wrap_i64 (by omega) (by omega)]; omega
  rw [eK]
  have hst3 := (hok.st.ext e13)
  have hsj := hst3.ext (Ext.jl hi3 hm)
  refine SlcX.gen hsj.rd hsj.nil hsj.le 0 (f.st.length - k) (f.st.length - k) rfl rfl rfl (Nat.zero_le _) (Nat.le_refl _) (by have := hsj.le; omega) (.inr (by simp)) ?_; conv => whnf
  rw [bsh_zero]
  have hkA : k = (arI o).1.toNat := by rw [hT]; rfl
  have hA3 := (haA.ext (e2.trans e3)).ext (Ext.jl hi3 hm)
  have hopd : ∀ i, i < k → opdP (argX f.st k) i = argP f.st i := fun i hi => by rw [argX_opd, if_pos hi]
  have hfin : ∀ sP, NtS hi3 sP 0 → True := fun _ _ => trivial
  have hk2 : 1 ≤ k ∧ (o = 87 → 2 ≤ k) := by
    rcases hj with rfl | ⟨rfl, -⟩
    · have : (arI 86).1 = 1 := rfl
      omega
    · have : (arI 87).1 = 2 := rfl
      omega
  have hj' : o = 86 ∨ (o = 87 ∧ opA (absF (f, m)) o 1 ≠ 0) := by
    rcases hj with h | ⟨h, h2⟩
    · exact .inl h
    · refine .inr ⟨h, ?_⟩
      rw [← opA_opd hT]
      unfold opdI
      rw [hopd 1 (by have := hk2.2 h; omega)]
      exact h2
  have hA0 : opA (absF (f, m)) o 0 = argI f.st 0 := by rw [← opA_opd hT]; unfold opdI; rw [hopd 0 (by omega)]; rfl
  have a0 : NtS hi3 (argP f.st 0).1 (argI f.st 0) := (argP_ok hok.stE 0).ext e13
  have S3 := S.ext e13 hd3
  rcases hj with rfl | ⟨rfl, hj1⟩
  · repeat (first | (refine CondX.tt ?_; conv => whnf) | (refine CondX.ff ?_; conv => whnf))
    refine IdxX.arr hA3 (by omega) (by omega) (by dsimp only; omega) fun b5 off5 e5 => ?_; conv => whnf
    refine LoadX.of (sl (argP f.st 0).1) (by have := stC_ld hA3 e5 (i := 0) (o := off5) (by dsimp only; omega) rfl; rw [hopd 0 (by omega)] at this; exact this) ?_; conv => whnf
    refine CallX.fj hd3 (normN a0 fun b6 n6 c6 hi6 e6 g6 hd6 => ?_); conv => whnf
    have hkp := (hst3.ext e6).head (n := f.st.length - k) (by omega)
    have S6 := S3.ext e6 hd6
    have hbT := S6.top
    obtain ⟨fbz, padz, tfz, hfbz, hbz, -⟩ := hbT
    have : some (⟨fbz, 0, none⟩ : Addr) = some ⟨fb, 0, none⟩ := hfbz.symm.trans hfb
    cases this
    have hokZ := S6.okT
    have okF : ({ f with stS := (f.stS.1, f.st.length - k, f.st.length - k), st := (f.st.take (f.st.length - k)), pcS := (b6, n6, c6), pc := (argI f.st 0) } : YF).ok hi6 := ⟨g6, hokZ.gas, hokZ.val, hokZ.oo, hokZ.ol, hkp.1, (fun p hp => (hok.stE p (List.mem_of_mem_take hp)).ext (e13.trans e6)), (by simp; omega), hokZ.code, hokZ.input, hokZ.self, hokZ.caller, hokZ.saved⟩
    refine StoreX.mid (f := f) S6.dj hbz 8 (by decide) rfl { f with stS := (f.stS.1, f.st.length - k, f.st.length - k), st := (f.st.take (f.st.length - k)) } rfl fun hdY => ?_; conv => whnf
    refine StoreX.mid (f := { f with stS := (f.stS.1, f.st.length - k, f.st.length - k), st := (f.st.take (f.st.length - k)) }) hdY (hput_same ..) 3 (by decide) rfl { f with stS := (f.stS.1, f.st.length - k, f.st.length - k), st := (f.st.take (f.st.length - k)), pcS := (b6, n6, c6), pc := (argI f.st 0) } rfl fun hdX => ?_; conv => whnf
    rw [hput_hput] at hdX ⊢
    have SY := S6.setTop (f' := { f with stS := (f.stS.1, f.st.length - k, f.st.length - k), st := (f.st.take (f.st.length - k)), pcS := (b6, n6, c6), pc := (argI f.st 0) }) hfb hbz okF rfl
    refine RetX.same (hk hi6 _ s (base ++ [({ f with stS := (f.stS.1, f.st.length - k, f.st.length - k), st := (f.st.take (f.st.length - k)), pcS := (b6, n6, c6), pc := (argI f.st 0) }, m)]) ret left (e13.trans e6) SY ⟨(hN.now.mono (by omega)), fun q hq => ?_⟩ ?_ ⟨rfl, rfl, rfl, rfl, rfl, rfl, rfl, rfl⟩)
    · rcases List.mem_append.1 hq with h5 | h5
      · exact (hN.saved q (by simp [h5])).mono (by omega)
      · rw [List.mem_singleton.1 h5]; exact (hN.saved (f, m) (by simp)).mono (by omega)
    · unfold plainA
      rw [if_pos hj', hA0, ← hkA]
      simp [absS, absF, List.map_take]
  · repeat (first | (refine CondX.tt ?_; conv => whnf) | (refine CondX.ff ?_; conv => whnf))
    refine IdxX.arr hA3 (by omega) (by omega) (by dsimp only; omega) fun b4 off4 e4 => ?_; conv => whnf
    repeat (first | (refine CondX.tt ?_; conv => whnf) | (refine CondX.ff ?_; conv => whnf))
    refine LoadX.of (sl (argP f.st 1).1) (by have := stC_ld hA3 e4 (i := 1) (o := off4 + 1) (by dsimp only; have := hk2.2 rfl; omega) rfl; rw [hopd 1 (by have := hk2.2 rfl; omega)] at this; exact this) ?_; conv => whnf
    repeat (first | (refine CondX.tt ?_; conv => whnf) | (refine CondX.ff ?_; conv => whnf))
    refine isZero_ok (((argP_ok hok.stE 1).ext e13).ext (Ext.jl _ _)) ?_; conv => whnf
    repeat (first | (refine CondX.tt ?_; conv => whnf) | (refine CondX.ff ?_; conv => whnf))
    refine CondX.notI (fun hz => ?_) (fun hz => absurd (of_decide_eq_true hz) hj1)
    conv => whnf
    refine IdxX.arr hA3 (by omega) (by omega) (by dsimp only; omega) fun b5 off5 e5 => ?_; conv => whnf
    refine LoadX.of (sl (argP f.st 0).1) (by have := stC_ld hA3 e5 (i := 0) (o := off5) (by dsimp only; omega) rfl; rw [hopd 0 (by omega)] at this; exact this) ?_; conv => whnf
    refine CallX.fj hd3 (normN a0 fun b6 n6 c6 hi6 e6 g6 hd6 => ?_); conv => whnf
    have hkp := (hst3.ext e6).head (n := f.st.length - k) (by omega)
    have S6 := S3.ext e6 hd6
    have hbT := S6.top
    obtain ⟨fbz, padz, tfz, hfbz, hbz, -⟩ := hbT
    have : some (⟨fbz, 0, none⟩ : Addr) = some ⟨fb, 0, none⟩ := hfbz.symm.trans hfb
    cases this
    have hokZ := S6.okT
    have okF : ({ f with stS := (f.stS.1, f.st.length - k, f.st.length - k), st := (f.st.take (f.st.length - k)), pcS := (b6, n6, c6), pc := (argI f.st 0) } : YF).ok hi6 := ⟨g6, hokZ.gas, hokZ.val, hokZ.oo, hokZ.ol, hkp.1, (fun p hp => (hok.stE p (List.mem_of_mem_take hp)).ext (e13.trans e6)), (by simp; omega), hokZ.code, hokZ.input, hokZ.self, hokZ.caller, hokZ.saved⟩
    refine StoreX.mid (f := f) S6.dj hbz 8 (by decide) rfl { f with stS := (f.stS.1, f.st.length - k, f.st.length - k), st := (f.st.take (f.st.length - k)) } rfl fun hdY => ?_; conv => whnf
    refine StoreX.mid (f := { f with stS := (f.stS.1, f.st.length - k, f.st.length - k), st := (f.st.take (f.st.length - k)) }) hdY (hput_same ..) 3 (by decide) rfl { f with stS := (f.stS.1, f.st.length - k, f.st.length - k), st := (f.st.take (f.st.length - k)), pcS := (b6, n6, c6), pc := (argI f.st 0) } rfl fun hdX => ?_; conv => whnf
    rw [hput_hput] at hdX ⊢
    have SY := S6.setTop (f' := { f with stS := (f.stS.1, f.st.length - k, f.st.length - k), st := (f.st.take (f.st.length - k)), pcS := (b6, n6, c6), pc := (argI f.st 0) }) hfb hbz okF rfl
    refine RetX.same (hk hi6 _ s (base ++ [({ f with stS := (f.stS.1, f.st.length - k, f.st.length - k), st := (f.st.take (f.st.length - k)), pcS := (b6, n6, c6), pc := (argI f.st 0) }, m)]) ret left (e13.trans e6) SY ⟨(hN.now.mono (by omega)), fun q hq => ?_⟩ ?_ ⟨rfl, rfl, rfl, rfl, rfl, rfl, rfl, rfl⟩)
    · rcases List.mem_append.1 hq with h5 | h5
      · exact (hN.saved q (by simp [h5])).mono (by omega)
      · rw [List.mem_singleton.1 h5]; exact (hN.saved (f, m) (by simp)).mono (by omega)
    · unfold plainA
      rw [if_pos hj', hA0, ← hkA]
      simp [absS, absF, List.map_take]
end
end Go.Proofs.YgvalwGreat.X
