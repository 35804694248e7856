import Derived.Test.YgvalwGreatG20
set_option linter.unusedVariables false
set_option linter.unusedSimpArgs false
namespace Go.Proofs.YgvalwGreat.X
open Go

section
variable {hi hm : Hp} {K : Value → Hp → Prop} {c : Nat} {tc : TypeId} {s : YS} {base : List (YF × List Int)} {f : YF} {m ret : List Int} {left : Int} {N : Nat}

/-- The middle of a swap's words, the deepest first: what is laid when 'i' are left. -/
def midP (st : List (Sl × Int)) (T i : Nat) : List (Sl × Int) := (List.range (T - 2 - i)).map fun j => argP st (T - 2 - j)
theorem midP_step {st : List (Sl × Int)} {T i : Nat} (h0 : 0 < i) (h1 : i ≤ T - 2) : midP st T (i - 1) = midP st T i ++ [argP st i] := by
  unfold midP
  rw [show T - 2 - (i - 1) = (T - 2 - i) + 1 by omega, List.range_succ, List.map_append]
  simp
  congr 1
  omega
set_option maxRecDepth 100000 in
set_option maxHeartbeats 4000000 in
theorem plain_swap {o : Int} (hj : 144 ≤ o ∧ o ≤ 159) (ho0 : 0 ≤ o) (ho1 : o < 256) (S : StOK hi hm c tc s (base ++ [(f, m)]) ret left) (hN : StN N s (base ++ [(f, m)])) (hN30 : N + 3 < 2 ^ 30) {fb : Nat} (hfb : at0 s.frS fb) (hst : (arI o).1 ≤ f.st.length) (hpc : f.pc + 100 < big)
    (hk : StK hi c tc s (N + 3) (plainA (absS s (base ++ [(f, m)]) ret left) (base.map absF) (absF (f, m)) s.origin o) K) :
    CallX Hval.prog 60 [.pointer (some ⟨c, 0, none⟩), .pointer (some ⟨fb, (preC base).length, none⟩), .int .u8 o] (join hi hm) K := by
  refine CallX.of_xf T_ok Hval.func60 rfl (by kernel_rfl) (Nat.le_of_ble_eq_true rfl) ?_; conv => whnf
  obtain ⟨fb', pad, tf, hfb', hb, hn1, hn2, hn3⟩ := S.top
  have : some (⟨fb', 0, none⟩ : Addr) = some ⟨fb, 0, none⟩ := hfb'.symm.trans hfb
  cases this
  have hok := S.okT
  have hd := S.dj
  have hc := S.chain
  have hcf : c ≠ fb := S.frC fb hfb
  have hsr : f.stS.2.1 < 2 ^ 30 := by have := hok.n; have := hok.stR; omega
  have hstR := hok.stR
  have hn := hok.n
  refine arity_ok (o := o) ho0 ho1 ?_; conv => whnf
  obtain ⟨T, hT⟩ : ∃ T : Nat, (arI o).1 = T := ⟨(arI o).1.toNat, by have := arI_pos ho0 ho1; omega⟩
  rw [hT] at hst ⊢
  have hT64 : T ≤ 64 := by omega
  refine MakeX.j hd T rfl rfl (by decide) (show (T : Int) * 24 ≤ 2 ^ 47 by omega) fun mA hinA hmnA hdA => ?_; conv => whnf
  refine LoopX.st T_ok Hval.func60 (σ := Nat) (fun k => [(0, .pointer (some ⟨c, 0, none⟩)), (1, .pointer (some ⟨fb, (preC base).length, none⟩)), (2, .int .u8 o), (6, .int .i64 T), (7, .int .i64 (arI o).2.1), (9, .slice (some ⟨mA, 0, none⟩) T T), (23, .int .i64 T), (24, .int .i64 k)])
    (fun k h' => k ≤ T ∧ h' = join (hput hi mA (argC f.st T k, 106)) hm) (fun k => T - k) 0 ⟨rfl, rfl, rfl, rfl, rfl, rfl, rfl, rfl, trivial⟩ ⟨Nat.zero_le _, by rw [← argC_zero]; rfl⟩ ?_
  rintro k ρ h' ⟨hk1, rfl⟩ ih
  conv => whnf
  have hdk : ∀ k, Dj (hput hi mA (argC f.st T k, 106)) hm := fun k => hdA.hp
  have ek : ∀ k, Ext hi (hput hi mA (argC f.st T k, 106)) := fun k => Ext.new hinA
  refine CondX.decI (fun hlt => ?_) (fun hlt => ?_) <;> conv => whnf
  · have hlt : k < T := by omega
    refine arg_ok (join_hm (hdk k) hb) ((hok.st.ext (ek k)).ext (Ext.jl _ _)) hsr k (by omega) ?_; conv => whnf
    refine IdxX.at (by omega) (by omega) ?_; conv => whnf
    refine StoreX.j (by rw [argC_len (by omega)]; simp [show y106.size = 1 from rfl]; omega) ?_; conv => whnf
    have eC : setSeg (argC f.st T k) (0 + ((k : Nat) : Int).toNat * (106, y106).snd.size) [sl (argP f.st k).1] = argC f.st T (k + 1) := by
      rw [Int.toNat_natCast, Nat.zero_add, show (106, y106).snd.size = 1 from rfl, Nat.mul_one]; exact argC_set hlt
    erw [eC]
    exact ih (k + 1) _ _ ⟨by omega, rfl⟩ (by omega) ⟨rfl, rfl, rfl, rfl, rfl, rfl, rfl, congrArg (Value.int .i64) (wsucc (by omega)), trivial⟩
  have hkT : k = T := by omega
  subst hkT
  have haA : Arr (hput hi mA (argC f.st k k, 106)) (some ⟨mA, 0, none⟩, k, k) 1 ((argX f.st k).map stCells) := Arr.own (by simp [argX]) (fun e he => by obtain ⟨q, -, rfl⟩ := List.mem_map.1 he; rfl) (fun e he => by obtain ⟨q, -, rfl⟩ := List.mem_map.1 he; rfl) (by rw [argX_cells]; exact hput_same ..)
  have hxs : ∀ p ∈ argX f.st k, NtS (hput hi mA (argC f.st k k, 106)) p.1 p.2 := fun p hp => by
    obtain ⟨i, -, rfl⟩ := List.mem_map.1 hp
    exact (argP_ok hok.stE i).ext (ek k)
  have e1 := ek k
  have hd1 := hdk k
  clear hdk ek ih
  generalize hput hi mA (argC f.st k k, 106) = hi1 at *
  have hok1 := hok.ext e1
  have him : 0 ≤ immI o ∧ immI o < 33 := by unfold immI; split <;> omega
  refine DrawX.go T_ok hM Hval.func60 (tb := dr60) rfl (by kernel_rfl) ?_; conv => whnf
  refine LoadX.mid (join_hm hd1 hb) 3 (by decide) rfl (v := sl f.pcS) rfl ?_; conv => whnf
  refine imm_ok (o := o) ho0 ho1 ?_; conv => whnf
  repeat (refine Ob.mk (by first | exact ldV_mid (join_hm hd1 hb) 3 (by decide) rfl rfl) ?_; conv => whnf)
  have e64 : IntKind.u64.wrap (1 + IntKind.u64.wrap (immI o)) = 1 + immI o := by rw [wrap_u64', wrap_u64']; omega
  rw [e64]
  refine CallX.fj hd1 (num_ok (by omega) (by omega) fun b2 n2 c2 hi2 e2 g2 hd2 => ?_); conv => whnf
  repeat (refine Ob.mk (by first | exact ldV_mid (join_hm hd2 hb) 3 (by decide) rfl rfl) ?_; conv => whnf)
  refine CallX.fj hd2 (addN (hok1.pc.ext e2) g2 (by omega) fun b3 n3 c3 hi3 e3 g3 hd3 => ?_); conv => whnf
  repeat (refine Ob.mk (by first | exact ldV_mid (join_hm hd3 hb) 3 (by decide) rfl rfl) ?_; conv => whnf)
  have e13 := (e1.trans e2).trans e3
  refine DrawX.go T_ok hM Hval.func60 (tb := dr60) rfl (by kernel_rfl) ?_; conv => whnf
  refine LoadX.mid (join_hm hd3 hb) 8 (by decide) rfl (v := sl f.stS) rfl ?_; conv => whnf
  refine LoadX.mid (join_hm hd3 hb) 8 (by decide) rfl (v := sl f.stS) rfl ?_; conv => whnf
  refine LoadX.mid (join_hm hd3 hb) 8 (by decide) rfl (v := sl f.stS) rfl ?_; conv => whnf
  have eK : IntKind.i64.wrap ((f.stS.2.1 : Int) - (k : Int)) = ((f.st.length - k : Nat) : Int) := by rw [wrap_i64 (by omega) (by omega)]; omega
  rw [eK]
  have hst3 := (hok.st.ext e13)
  have hsj := hst3.ext (Ext.jl hi3 hm)
  refine SlcX.gen hsj.rd hsj.nil hsj.le 0 (f.st.length - k) (f.st.length - k) rfl rfl rfl (Nat.zero_le _) (Nat.le_refl _) (by have := hsj.le; omega) (.inr (by simp)) ?_; conv => whnf
  rw [bsh_zero]
  have hTo : (arI o).1 = o - 142 := by unfold arI; rw [if_neg (by rw [famI_row (by omega)]; decide), if_neg (by omega), if_pos hj]
  have hkA : k = (arI o).1.toNat := by rw [hT]; rfl
  have haA3 := haA.ext (e2.trans e3)
  have hA3 : ∀ {hq : Hp}, Arr (join hi3 hq) (some ⟨mA, 0, none⟩, k, k) 1 ((argX f.st k).map stCells) := haA3.ext (Ext.jl hi3 _)
  have hopd : ∀ i, i < k → opdP (argX f.st k) i = argP f.st i := fun i hi => by rw [argX_opd, if_pos hi]
  have hAo : ∀ i, i < k → opA (absF (f, m)) o i = (argP f.st i).2 := fun i hi => by rw [← opA_opd hT]; unfold opdI; rw [hopd i hi]
  have a0 : ∀ i, NtS hi3 (argP f.st i).1 (argP f.st i).2 := fun i => (argP_ok hok.stE i).ext e13
  have hld : ∀ i, i < k → ∀ {hq : Hp} {b4 off4 : Nat}, (some ⟨mA, 0, none⟩ : Option Addr) = some ⟨b4, off4, none⟩ → ∀ {oo : Nat}, oo = off4 + i → ldV false 1 (join hi3 hq) b4 oo = some (sl (argP f.st i).1) := fun i hi hq b4 off4 e4 oo hoo => by
    have := stC_ld (hA3 (hq := hq)) e4 (i := i) (o := oo) hi hoo
    rw [hopd i hi] at this; exact this
  have S3 := S.ext e13 hd3
  have hkp := hst3.head (n := f.st.length - k) (by omega)
  refine CondX.eqF (by omega) ?_; conv => whnf
  refine CondX.eqF (by omega) ?_; conv => whnf
  repeat (first | (refine CondX.tt ?_; conv => whnf) | (refine CondX.ff ?_; conv => whnf))
  refine CondX.dT (by omega) ?_; conv => whnf
  repeat (first | (refine CondX.tt ?_; conv => whnf) | (refine CondX.ff ?_; conv => whnf))
  refine CondX.dF (by omega) ?_; conv => whnf
  refine CondX.dT (by omega) ?_; conv => whnf
  repeat (first | (refine CondX.tt ?_; conv => whnf) | (refine CondX.ff ?_; conv => whnf))
  refine CondX.dT (by omega) ?_; conv => whnf
  refine IdxX.arr (hA3 (hq := hm)) (by omega) (by omega) (by dsimp only; omega) fun b4 off4 e4 => ?_; conv => whnf
  refine LoadX.of (sl (argP f.st 0).1) (hld 0 (by omega) e4 rfl) ?_; conv => whnf
  refine Ob.mk (by first | decide | omega) ?_; conv => whnf
  refine BoxX.jm hd3 fun m8 hin8 hmn8 hd8 => ?_; conv => whnf
  refine AppendX.frz (z := z106) (sz := 1) (bytes := 24) (s := (f.stS.1, f.st.length - k, f.st.length - k)) hd8 hkp (show rd _ (some ⟨m8, 0, none⟩) (1 * 1) = some [sl (argP f.st 0).1] from rd_one (join_hm hd8 (hput_same ..)) rfl) rfl rfl rfl (by decide) (by dsimp only; omega) fun s9 hm9 hd9 hA9 hK9 => ?_; conv => whnf
  have eI : IntKind.i64.wrap ((k : Int) - 2) = ((k - 2 : Nat) : Int) := by rw [wrap_i64 (by omega) (by omega)]; omega
  rw [eI]
  have hK0 : ∀ b y, hm b = some y → hm9 b = some y ∧ ∀ fb, s9.1 = some ⟨fb, 0, none⟩ → b ≠ fb := fun b y hb' => hK9 b y (hput_old hb' hmn8) fun fb' hs he => by
    subst he
    have := hkp.1.rd
    rw [hs] at this
    have h0 := hd3.lft hb'
    simp [rd, h0] at this
  refine LoopX.st T_ok Hval.func60 (σ := Nat × Hp × Sl) (fun q => [(1, .pointer (some ⟨fb, (preC base).length, none⟩)), (6, .int .i64 k), (9, .slice (some ⟨mA, 0, none⟩) k k), (11, .slice b3 n3 c3), (12, sl q.2.2), (13, .int .i64 q.1)])
    (fun q h' => q.1 ≤ k - 2 ∧ h' = join hi3 q.2.1 ∧ Dj hi3 q.2.1 ∧ ArrM q.2.1 q.2.2 1 ((f.st.take (f.st.length - k) ++ (argP f.st 0 :: midP f.st k q.1)).map stCells) ∧ Ext hm q.2.1 ∧ ∀ fb, at0 q.2.2 fb → hm fb = none) (fun q => q.1) (k - 2, hm9, s9)
    ⟨rfl, rfl, rfl, rfl, rfl, rfl, trivial⟩ ⟨Nat.le_refl _, rfl, hd9, ?_, fun b y hb' => (hK0 b y hb').1, fun fb' hs => ?_⟩ ?_
  · have : midP f.st k (k - 2) = [] := by unfold midP; rw [Nat.sub_self]; rfl
    rw [this]
    simpa [stCells] using hA9
  · cases hx : hm fb' with
    | none => rfl
    | some y => exact absurd rfl ((hK0 fb' y hx).2 fb' hs)
  rintro ⟨i, hmk, sk⟩ ρ h' ⟨hi1', rfl, hdk, hAk, hEk, hfr⟩ ih
  dsimp only at hi1' hdk hAk hEk hfr
  conv => whnf
  have hskl : sk.2.1 ≤ 64 := by have := hAk.len; simp [midP] at this; omega
  refine CondX.decI (fun hlt => ?_) (fun hlt => ?_) <;> conv => whnf
  · have hlt : 0 < i := by omega
    refine IdxX.arr (hA3 (hq := hmk)) (by omega) (by omega) (by dsimp only; omega) fun b5 off5 e5 => ?_; conv => whnf
    refine LoadX.of (sl (argP f.st i).1) (hld i (by omega) e5 (by simp [show y106.size = 1 from rfl])) ?_; conv => whnf
    refine Ob.mk (by first | decide | omega) ?_; conv => whnf
    refine BoxX.jm hdk fun mv hinv hmnv hdv => ?_; conv => whnf
    have hAv : ArrM (hput hmk mv ([sl (argP f.st i).1], 106)) sk 1 ((f.st.take (f.st.length - k) ++ (argP f.st 0 :: midP f.st k i)).map stCells) := hAk.mono fun fb x hs hb => hput_old hb hmnv
    refine AppendX.mut (z := z106) (sz := 1) (bytes := 24) hdv hAv (show rd _ (some ⟨mv, 0, none⟩) (1 * 1) = some [sl (argP f.st i).1] from rd_one (join_hm hdv (hput_same ..)) rfl) rfl rfl rfl (by decide) (by show (sk.2.1 + 1) * 24 ≤ 2 ^ 47; omega) fun s10 hm10 hd10 hA10 hK10 => ?_; conv => whnf
    have hKo : ∀ b y, hm b = some y → hm10 b = some y ∧ ∀ fb, s10.1 = some ⟨fb, 0, none⟩ → b ≠ fb := fun b y hb' => hK10 b y (hput_old (hEk _ _ hb') hmnv) fun fb' hs he => by
      have := hfr fb' hs
      rw [← he, hb'] at this; cases this
    refine ih (i - 1, hm10, s10) _ _ ⟨by dsimp only; omega, rfl, hd10, ?_, fun b y hb' => (hKo b y hb').1, fun fb' hs => ?_⟩ (by dsimp only; omega) ⟨rfl, rfl, rfl, rfl, rfl, ?_, trivial⟩
    · dsimp only
      rw [midP_step hlt hi1']
      simpa [stCells] using hA10
    · cases hx : hm fb' with
      | none => rfl
      | some y => exact absurd rfl ((hKo fb' y hx).2 fb' hs)
    · show Value.int .i64 (IntKind.i64.wrap ((i : Int) - 1)) = Value.int .i64 ((i - 1 : Nat) : Int)
      rw [wrap_i64 (by omega) (by omega)]
      congr 1; omega
  · have hi0 : i = 0 := by omega
    subst hi0
    have eI1 : IntKind.i64.wrap ((k : Int) - 1) = ((k - 1 : Nat) : Int) := by rw [wrap_i64 (by omega) (by omega)]; omega
    rw [eI1]
    refine IdxX.arr (hA3 (hq := hmk)) (by omega) (by omega) (by dsimp only; omega) fun b5 off5 e5 => ?_; conv => whnf
    refine LoadX.of (sl (argP f.st (k - 1)).1) (hld (k - 1) (by omega) e5 (by simp [show y106.size = 1 from rfl])) ?_; conv => whnf
    refine Ob.mk (by first | decide | omega) ?_; conv => whnf
    refine BoxX.jm hdk fun mv hinv hmnv hdv => ?_; conv => whnf
    have hAv : ArrM (hput hmk mv ([sl (argP f.st (k - 1)).1], 106)) sk 1 ((f.st.take (f.st.length - k) ++ (argP f.st 0 :: midP f.st k 0)).map stCells) := hAk.mono fun fb x hs hb => hput_old hb hmnv
    refine AppendX.mut (z := z106) (sz := 1) (bytes := 24) hdv hAv (show rd _ (some ⟨mv, 0, none⟩) (1 * 1) = some [sl (argP f.st (k - 1)).1] from rd_one (join_hm hdv (hput_same ..)) rfl) rfl rfl rfl (by decide) (by show (sk.2.1 + 1) * 24 ≤ 2 ^ 47; omega) fun s10 hm10 hd10 hA10 hK10 => ?_; conv => whnf
    have hKo : ∀ b y, hm b = some y → hm10 b = some y ∧ ∀ fb, s10.1 = some ⟨fb, 0, none⟩ → b ≠ fb := fun b y hb' => hK10 b y (hput_old (hEk _ _ hb') hmnv) fun fb' hs he => by
      have := hfr fb' hs
      rw [← he, hb'] at this; cases this
    have hA11 : ArrM hm10 s10 1 ((f.st.take (f.st.length - k) ++ (argP f.st 0 :: midP f.st k 0) ++ [argP f.st (k - 1)]).map stCells) := by simpa [stCells] using hA10
    obtain ⟨hi11, hm11, hj11, hd11, e11, gA, hk11⟩ := freezeM hd10 hA11
    rw [hj11]
    have hE11 : Ext hm hm11 := fun b y hb' => hk11 b y (hKo b y hb').1 fun h => (hKo b y hb').2 b h rfl
    have S11 : StOK hi11 hm11 c tc s (base ++ [(f, m)]) ret left := (S3.ext e11 (hd11.mono hE11)).more hE11 hd11
    have e1311 := e13.trans e11
    have hstk : ∀ p ∈ f.st.take (f.st.length - k) ++ (argP f.st 0 :: midP f.st k 0) ++ [argP f.st (k - 1)], NtS hi11 p.1 p.2 := fun p hp => by
      rcases List.mem_append.1 hp with h | h
      · rcases List.mem_append.1 h with h | h
        · exact (hok.stE p (List.mem_of_mem_take h)).ext e1311
        · rcases List.mem_cons.1 h with h | h
          · rw [h]; exact (a0 0).ext e11
          · obtain ⟨j, -, rfl⟩ := List.mem_map.1 h
            exact (a0 _).ext e11
      · rw [List.mem_singleton.1 h]; exact (a0 _).ext e11
    have hbT := S11.top
    obtain ⟨fbz, padz, tfz, hfbz, hbz, -⟩ := hbT
    have : some (⟨fbz, 0, none⟩ : Addr) = some ⟨fb, 0, none⟩ := hfbz.symm.trans hfb
    cases this
    have hokZ := S11.okT
    have okF : ({ f with stS := s10, st := (f.st.take (f.st.length - k) ++ (argP f.st 0 :: midP f.st k 0) ++ [argP f.st (k - 1)]), pcS := (b3, n3, c3), pc := (f.pc + (1 + immI o)) } : YF).ok hi11 := ⟨(g3.ext e11), hokZ.gas, hokZ.val, hokZ.oo, hokZ.ol, gA, hstk, (by simp [midP]; omega), hokZ.code, hokZ.input, hokZ.self, hokZ.caller, hokZ.saved⟩
    refine StoreX.mid (f := f) S11.dj hbz 8 (by decide) rfl { f with stS := s10, st := (f.st.take (f.st.length - k) ++ (argP f.st 0 :: midP f.st k 0) ++ [argP f.st (k - 1)]) } rfl fun hdY => ?_; conv => whnf
    refine StoreX.mid (f := { f with stS := s10, st := (f.st.take (f.st.length - k) ++ (argP f.st 0 :: midP f.st k 0) ++ [argP f.st (k - 1)]) }) hdY (hput_same ..) 3 (by decide) rfl { f with stS := s10, st := (f.st.take (f.st.length - k) ++ (argP f.st 0 :: midP f.st k 0) ++ [argP f.st (k - 1)]), pcS := (b3, n3, c3), pc := (f.pc + (1 + immI o)) } rfl fun hdX => ?_; conv => whnf
    rw [hput_hput] at hdX ⊢
    have SY := S11.setTop (f' := { f with stS := s10, st := (f.st.take (f.st.length - k) ++ (argP f.st 0 :: midP f.st k 0) ++ [argP f.st (k - 1)]), pcS := (b3, n3, c3), pc := (f.pc + (1 + immI o)) }) hfb hbz okF rfl
    refine RetX.same (hk hi11 _ s (base ++ [({ f with stS := s10, st := (f.st.take (f.st.length - k) ++ (argP f.st 0 :: midP f.st k 0) ++ [argP f.st (k - 1)]), pcS := (b3, n3, c3), pc := (f.pc + (1 + immI o)) }, m)]) ret left e1311 SY ⟨(hN.now.mono (by omega)), fun q hq => ?_⟩ ?_ ⟨rfl, rfl, rfl, rfl, rfl, rfl, rfl, rfl⟩)
    · rcases List.mem_append.1 hq with h5 | h5
      · exact (hN.saved q (by simp [h5])).mono (by omega)
      · rw [List.mem_singleton.1 h5]; exact (hN.saved (f, m) (by simp)).mono (by omega)
    · unfold plainA
      rw [if_neg (by omega), if_neg (by omega), if_pos hj]
      rw [← hkA, hAo 0 (by omega), hAo (k - 1) (by omega)]
      have hmid : (midP f.st k 0).map Prod.snd = swM (opA (absF (f, m)) o) k := by
        unfold midP swM
        rw [List.map_map]
        refine List.map_congr_left fun j hjm => ?_
        have := List.mem_range.1 hjm
        rw [hAo (k - 2 - j) (by omega)]
        rfl
      rw [← hmid]
      simp [absS, absF, List.map_take]
end
end Go.Proofs.YgvalwGreat.X
