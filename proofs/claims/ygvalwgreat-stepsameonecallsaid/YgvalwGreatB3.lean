import Derived.Test.YgvalwGreatB2
set_option linter.unusedVariables false
set_option linter.unusedSimpArgs false
namespace Go.Proofs.YgvalwGreat.X
open Go

/-- The engine at rest. -/
structure EI (hi hm hb : Hp) (eb : Nat) (m : MS) (w : AW) (v : VS) : Prop where
  A : VA hi hm eb (mC eb m) w [] v
  dj : Dj (join hi hm) hb
  phase : m.phase = 0
  applied : m.applied = 0
  mtop : m.mtop = 0
  top : m.top = -1
  base : m.base 0 = 0
  buf : BufOK hb m.bufS []
  env : ∀ k, k < 120 → stEnv[k]? = some (m.env k)
  stw : ∀ i, 0 ≤ m.stk i ∧ m.stk i < W
  few : v.aL.length ≤ 8 ∧ v.sL.length = 0 ∧ v.tL.length = 0 ∧ v.jL.length = 0 ∧ v.nm = 0
  nonce : (w.acct sndA).nonce = 0
  code : (w.acct sndA).code = []
  cl : (w.acct (adr 1)).code.length ≤ 512
def begW (w : AW) : AW := warmW (warmW (warmW (warmW (warmW (nonceW w sndA 1) sndA) (adr 192)) (adr 1)) (adr 4)) (adr 5)
def begF (w : AW) (d : List Int) (g : Int) : AF := ⟨0, 0, false, 0, g - intr d, 0, 0, 0, [], [], (w.acct (adr 1)).code, d, adr 1, sndA, begW w⟩
def begA (w : AW) (d : List Int) (g s0 l0 : Int) : AS := ⟨begW w, [begF w d g], [], 1, s0, l0⟩
section
variable {hi hi0 hm hb hl h : Hp} {K : Value → Hp → Prop} {KK : Hp → Prop} {v : VS} {eb : Nat} {w w' : AW} {sn : List AW} {m : MS} {sD : Sl} {g s0 l0 : Int} {d : List Int}
theorem balW_id : balW w sndA (w.acct sndA).bal = w := by
  unfold balW
  have e : updA w.acct sndA { w.acct sndA with bal := (w.acct sndA).bal } = w.acct := by
    funext x; unfold updA; split
    · rename_i h; rw [h]
    · rfl
  rw [e]
theorem wc_small {g : Int} (h0 : 0 ≤ g) (h1 : g < 18446744073709551616) : (#[Value.int .u64 g, .int .u64 0, .int .u64 0, .int .u64 0] : Array Value) = (wc g).toArray := by
  have e0 : g % 18446744073709551616 = g := by omega
  have e1 : g / 18446744073709551616 % 18446744073709551616 = 0 := by omega
  have e2 : g / 340282366920938463463374607431768211456 % 18446744073709551616 = 0 := by omega
  have e3 : g / 6277101735386680763835789423207666416102355444464034512896 % 18446744073709551616 = 0 := by omega
  unfold wc
  rw [e0, e1, e2, e3]
theorem mR_held : (fnv 4 fun i => eC (mC eb m) v (2409 + i)) = wc m.held := rfl
theorem mR_txgas : eC (mC eb m) v 2408 = .int .u64 m.txgas := rfl
theorem op_fill {c b : List Int} {gg x : Int} (hc : c.length = 20) (hb : b.length = 20) :
    fillL (placesOf T #[fd 0 5, fd 1 5, fd 2 5, fd 3 4, fd 4 49, fd 5 49, fd 6 49, fd 7 24, fd 8 21, fd 9 31, fd 29 31, fd 49 75, fd 53 23, fd 54 23, fd 55 78, fd 63 70, fd 64 70].toList) z80
      [(0, .int .u8 0), (7, .int .u64 gg), (9, .agg (bcells b).toArray), (10, .agg (bcells c).toArray), (11, .agg (wc x).toArray)] = some (fB (caF 0 0 false gg b c x nilS [] nilS [])) := by
  rw [zF_z80, fillL_one (off := 0) rfl rfl (Nat.le_of_ble_eq_true rfl), fB_set (k := 0) rfl (by decide) (fU_kind 0)]
  rw [fillL_one (off := 7) (v := .int .u64 gg) rfl rfl (Nat.le_of_ble_eq_true rfl), fB_set (k := 7) rfl (by decide) (fU_gas gg)]
  rw [fillL_agg (off := 9) (n := 20) rfl (by rw [bcells_len, hb]) (Nat.le_of_ble_eq_true rfl), fB_setL (k := 9) (bcells_fnv hb) rfl (by decide) (fU_self b)]
  rw [fillL_agg (off := 29) (n := 20) rfl (by rw [bcells_len, hc]) (Nat.le_of_ble_eq_true rfl), fB_setL (k := 29) (bcells_fnv hc) rfl (by decide) (fU_caller c)]
  rw [fillL_agg (off := 49) (n := 4) rfl rfl (Nat.le_of_ble_eq_true rfl), fB_setL (k := 49) (wc_fnv x) rfl (by decide) (fU_val x)]
  rfl
theorem FBx.set {f f' : MF} {hl : Hp} {nf k p : Nat} {y : Value} {h1 : Hp} (hf : hl nf = some (fB f, 80)) (hd : Dj h1 hl) (ho : p = k) (hk : k < 65) (hu : updV (fcell f) k y = fcell f') (hK : ∀ hl', hl' nf = some (fB f', 80) → Dj h1 hl' → KK (join h1 hl')) : StoreX (join h1 hl) nf p [y] KK := by
  refine StoreX.jm hd hf (by rw [fB_len, ho]; exact hk) ?_
  rw [fB_set ho hk hu]
  exact hK _ (hput_same ..) (hd.put hf)
theorem EI.exti {hi' : Hp} (I : EI hi hm hb eb m w v) (he : Ext hi hi') (hd : Dj hi' hm) (hd2 : Dj (join hi' hm) hb) : EI hi' hm hb eb m w v :=
  ⟨I.A.exti he hd, hd2, I.phase, I.applied, I.mtop, I.top, I.base, I.buf, I.env, I.stw, I.few, I.nonce, I.code, I.cl⟩
theorem VA.stoL {mc mc' : Nat → Value} {k o q : Nat} {gf : Nat → Value} {vs : List Value} (A : VA hi hm eb mc w sn v) (hd : Dj (join hi hm) hb) (hvs : vs = fnv q gf) (hu : updL (eC mc v) k q gf = eC mc' v) (ho : o = k) (hk : k + q ≤ 27024) (hK : ∀ hm', VA hi hm' eb mc' w sn v → Dj (join hi hm') hb → KK (join (join hi hm') hb)) : StoreX (join (join hi hm) hb) eb o vs KK := by
  refine StoreX.fr (StoreX.jfL A.V.dj A.V.blk hvs k ho hk fun _ => ?_)
  rw [hu]
  exact hK _ (A.setM mc') (Dj.st hd A.V.blk)
set_option maxRecDepth 100000 in
set_option maxHeartbeats 4000000 in
theorem open_no (I : EI hi hm hb eb m w v) (he : Ext (join hi hm) h) (hD : Byt h sD.1 sD.2.1 sD.2.2 d) (hg : 0 ≤ g ∧ g < 18446744073709551616) (hv : vd d g ≠ 0) (hk : K (.int .u8 (vd d g)) h) : CallX Hval.prog 25 [.pointer (some ⟨eb, 0, none⟩), .agg (txC sD g).toArray] h K := by
  refine CallX.of_xf T_ok Hval.func25 rfl (by kernel_rfl) (Nat.le_of_ble_eq_true rfl) ?_; conv => whnf
  refine BoxX.ext fun m3 hm3 em3 => ?_; conv => whnf
  refine LoadX.all (c := txC sD g) (hput_same ..) rfl ?_; conv => whnf
  refine everdict_ok I.A I.phase I.applied I.env I.nonce I.code (I.A.balW' sndA).1 (he.trans em3) (hD.ext em3) hg ?_; conv => whnf
  refine BoxX.ext fun m6 hm6 em6 => ?_; conv => whnf
  refine Ob.mk ⟨rfl, rfl⟩ ?_; conv => whnf
  refine StoreX.id (hput_same ..) rfl ?_; conv => whnf
  refine CondX.neI (fun _ => ?_) (fun hc => absurd hc hv); conv => whnf
  exact RetX.drop (em3.trans em6) hk
set_option maxRecDepth 100000 in
set_option maxHeartbeats 4000000 in
theorem open_ok (I : EI hi hm hb eb m w v) (hD : BytS hi sD d) (hg : 0 ≤ g ∧ g < 18446744073709551616) (hv : vd d g = 0)
    (hk : ∀ hi' hm' m' v', Ext hi hi' → EX hi' hm' hb eb m' 0 (begW w) [begW w] v' (fun _ => []) [] → absM m' 0 (begW w) [begW w] (fun _ => []) s0 l0 = begA w d g s0 l0 → EnvM m' sndA → Rs (spn (begA w d g s0 l0)) v' [begW w] → K (.int .u8 0) (join (join hi' hm') hb)) : CallX Hval.prog 25 [.pointer (some ⟨eb, 0, none⟩), .agg (txC sD g).toArray] (join (join hi hm) hb) K := by
  have hvb : g ≤ 1048576 ∧ d.length ≤ 1024 ∧ intr d ≤ g := by
    unfold vd at hv
    by_cases h1 : 1048576 < g ∨ 1024 < d.length
    · rw [if_pos h1] at hv; cases hv
    · rw [if_neg h1] at hv
      by_cases h2 : g < intr d
      · rw [if_pos h2] at hv; cases hv
      · omega
  have hib := intr_bd (d := d)
  have hfew := I.few
  refine CallX.of_xf T_ok Hval.func25 rfl (by kernel_rfl) (Nat.le_of_ble_eq_true rfl) ?_; conv => whnf
  refine BoxX.jj I.A.V.dj I.dj fun m3 e3 d31 d32 => ?_; conv => whnf
  have I := I.exti (e3 (txC sD g, 40)) (d31 _) (d32 _)
  have hD := hD.ext (e3 (txC sD g, 40))
  have b3 : hput hi m3 (txC sD g, 40) m3 = some (txC sD g, 40) := hput_same ..
  have eI := e3 (txC sD g, 40)
  rw [List.toList_toArray]
  clear e3 d31 d32
  generalize hput hi m3 (txC sD g, 40) = h1 at *
  refine LoadX.all (join_l (join_l b3)) rfl ?_; conv => whnf
  refine everdict_ok I.A I.phase I.applied I.env I.nonce I.code (I.A.balW' sndA).1 (Ext.jl _ _) (hD.ext ((Ext.jl _ _).trans (Ext.jl _ _))) hg ?_
  rw [hv]; conv => whnf
  refine BoxX.jj I.A.V.dj I.dj fun m6 e6 d61 d62 => ?_; conv => whnf
  have I := I.exti (e6 (wc 0, 75)) (d61 _) (d62 _)
  have hD := hD.ext (e6 (wc 0, 75))
  have b3 := e6 (wc 0, 75) _ _ b3
  have eI := eI.trans (e6 (wc 0, 75))
  have b6 : hput h1 m6 (wc 0, 75) m6 = some (wc 0, 75) := hput_same ..
  erw [show ((75, y75).snd.zero, 75) = (wc 0, 75) from rfl]
  clear e6 d61 d62
  generalize hput h1 m6 (wc 0, 75) = h2 at *
  refine Ob.mk ⟨rfl, rfl⟩ ?_; conv => whnf
  refine StoreX.id (join_l (join_l b6)) rfl ?_; conv => whnf
  repeat (first | (refine CondX.tt ?_; conv => whnf) | (refine CondX.ff ?_; conv => whnf))
  refine spacious_ok I.A I.mtop I.top (by omega) (by omega) (by omega) (by omega) (Ext.jl _ _) ?_; conv => whnf
  repeat (first | (refine CondX.tt ?_; conv => whnf) | (refine CondX.ff ?_; conv => whnf))
  refine LoadX.fx (I.A.blk (Ext.jl _ _)) 0 rfl (by omega) mR_S ?_; conv => whnf
  refine sizes_ok I.A (Ext.jl _ _) ?_; conv => whnf
  refine LoadX.of _ (tx_to (join_l (join_l b3))) ?_; conv => whnf
  refine BoxX.jj I.A.V.dj I.dj fun m11 e11 d111 d112 => ?_; conv => whnf
  refine Ob.mk ⟨rfl, rfl⟩ ?_; conv => whnf
  refine StoreX.fr (StoreX.jx (x := bcells (adr 1)) (Nat.le_of_ble_eq_true rfl) (setSeg_all rfl) ?_); conv => whnf
  have I := I.exti (e11 (bcells (adr 1), 31)) (d111 _) (d112 _)
  have hD := hD.ext (e11 (bcells (adr 1), 31))
  have b3 := e11 (bcells (adr 1), 31) _ _ b3
  have b6 := e11 (bcells (adr 1), 31) _ _ b6
  have eI := eI.trans (e11 (bcells (adr 1), 31))
  have b11 : hput h2 m11 (bcells (adr 1), 31) m11 = some (bcells (adr 1), 31) := hput_same ..
  clear e11 d111 d112
  generalize hput h2 m11 (bcells (adr 1), 31) = h3 at *
  refine Ob.mk ⟨rfl, rfl⟩ ?_; conv => whnf
  refine I.A.stoL I.dj (gf := fun i => .int .u8 (z20.getD i 0)) rfl (eU_made z20) rfl (by omega) fun hm1 A d1 => ?_; conv => whnf
  refine LoadX.blk (join_l (join_l b3)) (.bool false) rfl ?_; conv => whnf
  repeat (first | (refine CondX.tt ?_; conv => whnf) | (refine CondX.ff ?_; conv => whnf))
  refine A.sto d1 eU_a0 rfl (by omega) fun hm1 A d1 => ?_; conv => whnf
  refine A.sto d1 eU_s0 rfl (by omega) fun hm1 A d1 => ?_; conv => whnf
  refine LoadX.fx (A.blk (Ext.jl _ _)) 2406 rfl (by omega) (x := .int .u8 0) (congrArg _ I.applied) ?_; conv => whnf
  refine A.sto d1 eU_applied rfl (by omega) fun hm1 A d1 => ?_; conv => whnf
  refine LoadX.blk (join_l (join_l b3)) (.int .u64 g) rfl ?_; conv => whnf
  refine A.sto d1 eU_limit rfl (by omega) fun hm1 A d1 => ?_; conv => whnf
  refine DrawX.go T_ok hM Hval.func25 (tb := dr25) rfl (by kernel_rfl) ?_; conv => whnf
  refine LoadX.blk (join_l (join_l b3)) (.int .u64 g) rfl ?_; conv => whnf
  refine LoadX.all (join_l (join_l b3)) rfl ?_; conv => whnf
  refine eIntr_ok (hD.ext ((Ext.jl _ _).trans (Ext.jl _ _))) (by omega) ?_; conv => whnf
  repeat (refine Ob.mk (by first | exact ldV_blk (join_l (join_l b3)) rfl | exact ldV_all (join_l (join_l b3)) rfl) ?_; conv => whnf)
  rw [show IntKind.u64.wrap (g - intr d) = g - intr d by rw [wrap_u64']; omega]
  refine A.sto d1 eU_txgas rfl (by omega) fun hm1 A d1 => ?_; conv => whnf
  refine LoadX.blk (join_l (join_l b3)) (.int .u64 g) rfl ?_; conv => whnf
  refine LoadX.all (join_l (join_l b6)) rfl ?_; conv => whnf
  rw [show (#[Value.int .u64 g, .int .u64 0, .int .u64 0, .int .u64 0] : Array Value) = (wc g).toArray from wc_small hg.1 hg.2]
  refine eMul_ok hg.1 (by rw [W_val]; omega) (Int.le_refl 0) W_pos ?_
  rw [Int.mul_zero, show (0 : Int) % W = 0 from Int.zero_emod _]; conv => whnf
  refine Ob.mk ⟨rfl, rfl⟩ ?_; conv => whnf
  refine A.stoL d1 (wc_fnv 0) (eU_held 0) rfl (by omega) fun hm1 A d1 => ?_; conv => whnf
  refine LoadX.all (join_l (join_l b6)) rfl ?_; conv => whnf
  refine Ob.mk ⟨rfl, rfl⟩ ?_; conv => whnf
  refine A.stoL d1 (wc_fnv 0) (eU_price 0) rfl (by omega) fun hm1 A d1 => ?_; conv => whnf
  refine LoadX.of _ (tx_from (join_l (join_l b3))) ?_; conv => whnf
  refine Ob.mk ⟨rfl, rfl⟩ ?_; conv => whnf
  refine A.stoL d1 (gf := fun i => .int .u8 (sndA.getD i 0)) rfl (eU_origin sndA) rfl (by omega) fun hm1 A d1 => ?_; conv => whnf
  refine A.sto d1 (eU_ret nilS []) rfl (by omega) fun hm1 A d1 => ?_; conv => whnf
  obtain ⟨m1, hm1e⟩ : ∃ m1 : MS, m1 = { m with made := z20, a0 := v.aL.length, s0 := v.sL.length, applied := 1, limit := g, txgas := g - intr d, held := 0, price := 0, origin := sndA, retS := nilS, ret := [] } := ⟨_, rfl⟩
  have A : VA h3 hm1 eb (mC eb m1) w [] v := by rw [hm1e]; exact A
  have hsl : sndA.length = 20 ∧ isB sndA := ⟨rfl, isB_adr 240 (by decide) (by decide)⟩
  refine DrawX.go T_ok hM Hval.func25 (tb := dr25) rfl (by kernel_rfl) ?_; conv => whnf
  refine LoadX.fx (A.blk (Ext.jl _ _)) 0 rfl (by omega) mR_S ?_; conv => whnf
  refine LoadX.of _ (tx_from (join_l (join_l b3))) ?_; conv => whnf
  refine LoadX.blk (join_l (join_l b3)) (.int .u64 0) rfl ?_; conv => whnf
  refine CallX.fj d1 (putNonce_ok (a := sndA) (n := 1) hsl.1 hsl.2 ⟨by decide, by decide⟩ A (by omega) (by omega) fun hm2 v2 A2 u2 hh2 d2 => ?_); conv => whnf
  repeat (refine Ob.mk (by first | exact ldV_fn (A2.blk (Ext.jl _ _)) 0 rfl (by omega) | exact tx_from (join_l (join_l b3)) | exact ldV_blk (join_l (join_l b3)) rfl) ?_; conv => whnf)
  have hn1 := newA_le v sndA
  have hu2 := u2.a
  have hu2j := u2.j
  refine DrawX.go T_ok hM Hval.func25 (tb := dr25) rfl (by kernel_rfl) ?_; conv => whnf
  refine LoadX.fx (A2.blk (Ext.jl _ _)) 0 rfl (by omega) mR_S ?_; conv => whnf
  refine LoadX.of _ (tx_from (join_l (join_l b3))) ?_; conv => whnf
  refine LoadX.fx (A2.blk (Ext.jl _ _)) 0 rfl (by omega) mR_S ?_; conv => whnf
  refine LoadX.of _ (tx_from (join_l (join_l b3))) ?_; conv => whnf
  have hheld : m1.held = 0 := by rw [hm1e]
  have htxg : m1.txgas = g - intr d := by rw [hm1e]
  refine LoadX.fnA (A2.blk (Ext.jl _ _)) 2409 rfl (by show _ + 4 ≤ _; omega) ?_
  rw [show (75, y75).snd.size = 4 from rfl, mR_held, hheld]; conv => whnf
  have hb2 := (A2.balW' sndA).1
  refine balance_ok (a := sndA) hsl.1 hsl.2 A2 (Ext.jl _ _) ?_; conv => whnf
  repeat (refine Ob.mk (by first | exact ldV_fn (A2.blk (Ext.jl _ _)) 0 rfl (by omega) | exact tx_from (join_l (join_l b3)) | exact (ldV_fnA (A2.blk (Ext.jl _ _)) 2409 rfl (by show _ + 4 ≤ _; omega)).trans (congrArg (fun y => some (Value.agg y.toArray)) (mR_held.trans (by rw [hheld])))) ?_; conv => whnf)
  refine eSub_ok hb2.1 hb2.2 (Int.le_refl 0) W_pos ?_
  rw [Int.sub_zero, Int.emod_eq_of_lt hb2.1 hb2.2]; conv => whnf
  repeat (refine Ob.mk (by first | exact ldV_fn (A2.blk (Ext.jl _ _)) 0 rfl (by omega) | exact tx_from (join_l (join_l b3)) | exact (ldV_fnA (A2.blk (Ext.jl _ _)) 2409 rfl (by show _ + 4 ≤ _; omega)).trans (congrArg (fun y => some (Value.agg y.toArray)) (mR_held.trans (by rw [hheld])))) ?_; conv => whnf)
  obtain ⟨bn, hbn⟩ : ∃ bn : Nat, ((nonceW w sndA 1).acct sndA).bal = bn := ⟨_, (Int.toNat_of_nonneg hb2.1).symm⟩
  have hbnW := hb2.2
  rw [hbn] at hbnW ⊢
  refine CallX.fj d2 (putBalance_ok (a := sndA) (k := bn) hsl.1 hsl.2 hbnW A2 (by omega) (by omega) fun hm3 v3 A3 u3 hh3 d3 => ?_); conv => whnf
  repeat (refine Ob.mk (by first | exact ldV_fn (A3.blk (Ext.jl _ _)) 0 rfl (by omega) | exact tx_from (join_l (join_l b3)) | exact (ldV_fnA (A3.blk (Ext.jl _ _)) 2409 rfl (by show _ + 4 ≤ _; omega)).trans (congrArg (fun y => some (Value.agg y.toArray)) (mR_held.trans (by rw [hheld])))) ?_; conv => whnf)
  rw [← hbn, balW_id] at A3
  have hn2 := newA_le v2 sndA
  have hu3 := u3.a
  have hu3j := u3.j
  refine DrawX.go T_ok hM Hval.func25 (tb := dr25) rfl (by kernel_rfl) ?_; conv => whnf
  refine LoadX.fx (A3.blk (Ext.jl _ _)) 0 rfl (by omega) mR_S ?_; conv => whnf
  refine LoadX.of _ (tx_from (join_l (join_l b3))) ?_; conv => whnf
  refine CallX.fj d3 (ewarm_ok (a := sndA) rfl hsl.2 A3 (by omega) (by omega) fun hm4 v4 A4 u4 hh4 d4 => ?_); conv => whnf
  repeat (refine Ob.mk (by first | exact ldV_fn (A4.blk (Ext.jl _ _)) 0 rfl (by omega) | exact tx_from (join_l (join_l b3))) ?_; conv => whnf)
  have := u4.a
  have := u4.j
  have E1 : ∀ k, k < 120 → stEnv[k]? = some (m1.env k) := by rw [hm1e]; exact I.env
  have hcb : ∀ {hmx : Hp} {wx : AW} {snx : List AW} {vx : VS} (Ax : VA h3 hmx eb (mC eb m1) wx snx vx), ldV true 20 (join (join h3 hmx) hb) eb 2260 = some (.agg (bcells (adr 192)).toArray) := fun {hmx wx snx vx} Ax => (ldV_fnA (Ax.blk (Ext.jl _ _)) 2260 rfl (by show _ + 20 ≤ _; omega)).trans (congrArg (fun y => some (Value.agg y.toArray)) (env_seg E1 (k := 0) (l := adr 192) rfl (by omega)))
  refine DrawX.go T_ok hM Hval.func25 (tb := dr25) rfl (by kernel_rfl) ?_; conv => whnf
  refine LoadX.fx (A4.blk (Ext.jl _ _)) 0 rfl (by omega) mR_S ?_; conv => whnf
  refine LoadX.of _ (hcb A4) ?_; conv => whnf
  refine CallX.fj d4 (ewarm_ok (a := (adr 192)) rfl (isB_adr 192 (by decide) (by decide)) A4 (by omega) (by omega) fun hm5 v5 A5 u5 hh5 d5 => ?_); conv => whnf
  repeat (refine Ob.mk (by first | exact ldV_fn (A5.blk (Ext.jl _ _)) 0 rfl (by omega) | exact hcb A5) ?_; conv => whnf)
  have := u5.a
  have := u5.j
  refine DrawX.go T_ok hM Hval.func25 (tb := dr25) rfl (by kernel_rfl) ?_; conv => whnf
  refine LoadX.fx (A5.blk (Ext.jl _ _)) 0 rfl (by omega) mR_S ?_; conv => whnf
  refine LoadX.all (join_l (join_l b11)) rfl ?_; conv => whnf
  refine CallX.fj d5 (ewarm_ok (a := (adr 1)) rfl (isB_adr 1 (by decide) (by decide)) A5 (by omega) (by omega) fun hm6 v6 A6 u6 hh6 d6 => ?_); conv => whnf
  repeat (refine Ob.mk (by first | exact ldV_fn (A6.blk (Ext.jl _ _)) 0 rfl (by omega) | exact ldV_all (join_l (join_l b11)) rfl) ?_; conv => whnf)
  have := u6.a
  have := u6.j
  refine LoadX.fx (A6.blk (Ext.jl _ _)) 0 rfl (by omega) mR_S ?_; conv => whnf
  refine CallX.fj d6 (ewarm_ok (a := (adr 4)) rfl (isB_adr 4 (by decide) (by decide)) A6 (by omega) (by omega) fun hm7 v7 A7 u7 hh7 d7 => ?_); conv => whnf
  repeat (refine Ob.mk (by first | exact ldV_fn (A7.blk (Ext.jl _ _)) 0 rfl (by omega) | fail) ?_; conv => whnf)
  have := u7.a
  have := u7.j
  refine LoadX.fx (A7.blk (Ext.jl _ _)) 0 rfl (by omega) mR_S ?_; conv => whnf
  refine CallX.fj d7 (ewarm_ok (a := (adr 5)) rfl (isB_adr 5 (by decide) (by decide)) A7 (by omega) (by omega) fun hm8 v8 A8 u8 hh8 d8 => ?_); conv => whnf
  repeat (refine Ob.mk (by first | exact ldV_fn (A8.blk (Ext.jl _ _)) 0 rfl (by omega) | fail) ?_; conv => whnf)
  have := u8.a
  have := u8.j
  refine DrawX.go T_ok hM Hval.func25 (tb := dr25) rfl (by kernel_rfl) ?_; conv => whnf
  refine LoadX.fx (A8.blk (Ext.jl _ _)) 0 rfl (by omega) mR_S ?_; conv => whnf
  refine LoadX.blk (join_l (join_l b3)) (sl nilS) rfl ?_; conv => whnf
  refine warmList_ok ?_; conv => whnf
  repeat (refine Ob.mk (by first | exact ldV_fn (A8.blk (Ext.jl _ _)) 0 rfl (by omega) | exact ldV_blk (join_l (join_l b3)) rfl) ?_; conv => whnf)
  obtain ⟨sx, hsx⟩ : ∃ sx, sx = sndA := ⟨_, rfl⟩
  obtain ⟨ax, hax⟩ : ∃ ax, ax = adr 1 := ⟨_, rfl⟩
  obtain ⟨x0, hx0⟩ : ∃ x0 : Int, x0 = 0 := ⟨_, rfl⟩
  have hxs : sx.length = 20 ∧ isB sx := by rw [hsx]; exact hsl
  have hxa : ax.length = 20 ∧ isB ax := by rw [hax]; exact ⟨rfl, isB_adr 1 (by decide) (by decide)⟩
  have hTF : ∀ {hq : Hp}, Ext h3 hq → ldV true 20 hq m3 0 = some (.agg (bcells sx).toArray) := fun {hq} e => by rw [hsx]; exact tx_from (e _ _ b3)
  have b11 : h3 m11 = some (bcells ax, 31) := by rw [hax]; exact b11
  have alen : (bcells ax).length = (31, y31).snd.size := by rw [bcells_len, hxa.1]; rfl
  have hTG : ldV false 1 (join (join h3 hm8) hb) eb 2408 = some (.int .u64 (g - intr d)) := (ldV_fn (A8.blk (Ext.jl _ _)) 2408 rfl (by omega)).trans (congrArg some (mR_txgas.trans (by rw [htxg])))
  have e3h : Ext h3 (join (join h3 hm8) hb) := (Ext.jl _ _).trans (Ext.jl _ _)
  refine DrawX.go T_ok hM Hval.func25 (tb := dr25) rfl (by kernel_rfl) ?_; conv => whnf
  refine LoadX.of _ hTG ?_; conv => whnf
  refine LoadX.all (join_l (join_l b11)) alen ?_; conv => whnf
  refine LoadX.of _ (hTF e3h) ?_; conv => whnf
  refine LoadX.of _ (tx_value (join_l (join_l b3))) ?_; conv => whnf
  refine fromBytes_ok (l := zz32) rfl (isB_zeros _) ?_
  rw [show bv zz32 = x0 from hx0.symm]; conv => whnf
  repeat (refine Ob.mk (by first | exact hTG | exact ldV_all (join_l (join_l b11)) (by rw [alen]) | exact hTF e3h | exact tx_value (join_l (join_l b3))) ?_; conv => whnf)
  erw [op_fill (c := sx) (b := ax) (gg := g - intr d) (x := x0) hxs.1 hxa.1]
  refine forceL_of fok_fB ?_; conv => whnf
  rw [← join_hNil (join (join h3 hm8) hb)]
  refine BoxW.jm (Dj_hNil _) fun nf q1 q2 q3 => ?_; conv => whnf
  refine Ob.mk ⟨rfl, ones_fB⟩ ?_; conv => whnf
  refine StoreX.top q3 (fB (caF 0 0 false (g - intr d) ax sx x0 nilS [] nilS [])) (setSeg_all rfl) (Nat.le_of_ble_eq_true rfl) fun dl => ?_; conv => whnf
  have bf : hput hNil nf (fB (caF 0 0 false (g - intr d) ax sx x0 nilS [] nilS []), 80) nf = some (fB (caF 0 0 false (g - intr d) ax sx x0 nilS [] nilS []), 80) := hput_same ..
  clear q1 q2 q3
  obtain ⟨hl, hle⟩ : ∃ hl : Hp, hl = hput hNil nf (fB (caF 0 0 false (g - intr d) ax sx x0 nilS [] nilS []), 80) := ⟨_, rfl⟩
  rw [← hle] at bf dl ⊢
  clear hle
  have e3l : Ext h3 (join (join (join h3 hm8) hb) hl) := e3h.trans (Ext.jl _ _)
  repeat (refine Ob.mk (by first | exact ldV_ext (Ext.jl _ _) hTG | exact ldV_all (e3l _ _ b11) (by rw [alen]) | exact hTF e3l | exact tx_value (e3l _ _ b3)) ?_; conv => whnf)
  refine LoadX.blk (e3l _ _ b3) (.bool false) rfl ?_; conv => whnf
  repeat (first | (refine CondX.tt ?_; conv => whnf) | (refine CondX.ff ?_; conv => whnf))
  refine LoadX.all (e3l _ _ b11) alen ?_; conv => whnf
  refine natvAtM_ok hxa.1 ?_
  rw [show natK ax = 0 by rw [hax]; rfl]; conv => whnf
  refine FBx.set (f' := caF 0 0 false (g - intr d) ax sx x0 nilS [] nilS []) bf dl rfl (by decide) (fU_native 0) fun hl1 bf1 dl1 => ?_; conv => whnf
  refine LoadX.fx (join_hm dl1 bf1) 2 rfl (by decide) (x := .int .u8 0) rfl ?_; conv => whnf
  repeat (first | (refine CondX.tt ?_; conv => whnf) | (refine CondX.ff ?_; conv => whnf))
  have hMe : Ext (join h3 hm8) (join (join h3 hm8) hb) := Ext.jl _ _
  refine DrawX.go T_ok hM Hval.func25 (tb := dr25) rfl (by kernel_rfl) ?_; conv => whnf
  refine LoadX.fx (A8.blk (hMe.trans (Ext.jl _ hl1))) 0 rfl (by omega) mR_S ?_; conv => whnf
  refine LoadX.all (join_l (join_l (join_l b11))) alen ?_; conv => whnf
  refine CallX.fj dl1 (code_own hxa.1 hxa.2 A8 hMe fun sC h' e5 hs5 hw5 g5 => ?_)
  obtain ⟨h4, e6, d14, d15, rfl, hsC⟩ := own_j A8.V.dj d8 e5 hs5 hw5
  conv => whnf
  have A8 := A8.exti e6 d14
  have b11 := e6 _ _ b11
  have b3 := e6 _ _ b3
  have hD := hD.ext e6
  have eI := eI.trans e6
  repeat (refine Ob.mk (by first | exact ldV_fn (A8.blk ((Ext.jl _ hb).trans (Ext.jl _ hl1))) 0 rfl (by omega) | exact ldV_all (join_l (join_l (join_l b11))) (by rw [alen])) ?_; conv => whnf)
  have hcw : ((warmW (warmW (warmW (warmW (warmW (nonceW w sndA 1) sndA) (adr 192)) (adr 1)) (adr 4)) (adr 5)).acct ax).code = (w.acct (adr 1)).code := by
    rw [hax]
    show (updA w.acct sndA { w.acct sndA with nonce := 1 } (adr 1)).code = _
    unfold updA
    rw [if_neg (by decide)]
  rw [hcw] at hsC
  refine FBx.set (f' := caF 0 0 false (g - intr d) ax sx x0 sC (w.acct (adr 1)).code nilS []) bf1 g5 rfl (by decide) (fU_code sC _) fun hl2 bf2 dl2 => ?_; conv => whnf
  refine LoadX.blk (join_l (join_l (join_l b3))) (sl sD) rfl ?_; conv => whnf
  refine CallX.fj dl2 (copiedE_own (hD.ext ((Ext.jl _ _).trans (Ext.jl _ _))) fun sI h' e7 hs7 hw7 g7 => ?_)
  obtain ⟨h5, e8, d16, d17, rfl, hsI⟩ := own_j d14 d15 e7 hs7 hw7
  conv => whnf
  have A8 := A8.exti e8 d16
  have eI := eI.trans e8
  have hsC := hsC.ext e8
  refine FBx.set (f' := caF 0 0 false (g - intr d) ax sx x0 sC (w.acct (adr 1)).code sI d) bf2 g7 rfl (by decide) (fU_input sI d) fun hl3 bf3 dl3 => ?_; conv => whnf
  refine LoadX.all (c := fB (caF 0 0 false (g - intr d) ax sx x0 sC (w.acct (adr 1)).code sI d)) (join_hm dl3 bf3) rfl ?_; conv => whnf
  have hup : v8.aL.length ≤ 15 ∧ v8.jL.length ≤ 7 ∧ v8.sL.length = 0 ∧ v8.tL.length = 0 := by
    have q1 := u2.s; have q2 := u3.s; have q3 := u4.s; have q4 := u5.s; have q5 := u6.s; have q6 := u7.s; have q7 := u8.s
    have r1 := u2.t; have r2 := u3.t; have r3 := u4.t; have r4 := u5.t; have r5 := u6.t; have r6 := u7.t; have r7 := u8.t
    omega
  refine CallX.fj dl3 (CallX.fj d17 (enter_okM (k := 0) (f := caF 0 0 false (g - intr d) ax sx x0 sC (w.acct (adr 1)).code sI d) A8 (by omega) (by rw [hm1e]; exact I.top) (by rw [hm1e]; exact I.mtop) hsC I.cl hxa hxs.1 (by show x0 = 0; exact hx0) (by show (0 : Nat) < 16000; omega) (by omega) (by omega) (fun h => by cases h) fun hm9 v9 D hDo A9 u9 d18 d19 => ?_))
  conv => whnf
  have hfr : (entM m1 0 (caF 0 0 false (g - intr d) ax sx x0 sC (w.acct (adr 1)).code sI d) D 0).fr 0 = entF (caF 0 0 false (g - intr d) ax sx x0 sC (w.acct (adr 1)).code sI d) 0 D 0 := by
    show updN m1.fr 0 (entF (caF 0 0 false (g - intr d) ax sx x0 sC (w.acct (adr 1)).code sI d) 0 D 0) 0 = _
    exact updN_same ..
  have X : EX h5 hm9 hb eb (entM m1 0 (caF 0 0 false (g - intr d) ax sx x0 sC (w.acct (adr 1)).code sI d) D 0) 0 (begW w) [begW w] v9 (fun _ => []) [] := by
    refine ⟨⟨A9, rfl, rfl, by omega, fun i hi => ?_, ?_, Byt_nil _⟩, d18, ⟨rfl, fun i hi => ?_, ?_, by show (0 : Nat) ≤ _; omega⟩, fun i hi => ?_, fun i j hij hj => by omega, fun i hi => ?_, fun i hi => by omega⟩
    · have : i = 0 := by omega
      subst this
      rw [hfr]
      refine ⟨rfl, Nat.zero_le _, by show 0 < 2000; omega, by show 0 ≤ g - intr d ∧ g - intr d < _; omega, hxa, hxs, by show 0 ≤ x0 ∧ x0 < W; rw [hx0]; exact ⟨Int.le_refl 0, W_pos⟩, hsC, I.cl, hsI, hDo⟩
    · rw [hm1e]; exact I.stw
    · show updN m1.base (0 + 1) (m1.base 0) i = _
      have hb0 : m1.base 0 = 0 := by rw [hm1e]; exact I.base
      have hc : i = 0 ∨ i = 1 := by omega
      rcases hc with rfl | rfl
      · rw [updN_ne (by decide), hb0]; rfl
      · rw [updN_same, hb0]; rfl
    · show BufOK hb m1.bufS []
      rw [hm1e]; exact I.buf
    · have : i = 0 := by omega
      subst this
      rw [hfr]
      show (0 : Nat) < 1
      omega
    · have : i = 0 := by omega
      subst this
      rw [hfr]
      show hasA v9 ax = true
      rw [hax]
      exact u9.has _ (u8.has _ (u7.has _ hh6))
  refine RetX.drop (Ext.jl _ _) (hk h5 hm9 _ v9 eI X ?_ ?_ ?_)
  · unfold absM begA begF
    have e1 : frM (entM m1 0 (caF 0 0 false (g - intr d) ax sx x0 sC (w.acct (adr 1)).code sI d) D 0) [begW w] (fun _ => []) 0 = ⟨0, 0, false, 0, g - intr d, 0, 0, 0, [], [], (w.acct (adr 1)).code, d, adr 1, sndA, begW w⟩ := by
      have hst : stM (entM m1 0 (caF 0 0 false (g - intr d) ax sx x0 sC (w.acct (adr 1)).code sI d) D 0) 0 = [] := List.eq_nil_of_length_eq_zero (by rw [stM_len, hfr]; rfl)
      unfold frM
      rw [hst, hfr]
      subst hax
      subst hsx
      subst hx0
      rfl
    rw [e1]
    rfl
  · refine ⟨?_, hsl.1, hsl.2, ?_, ?_⟩
    · show m1.origin = sndA; rw [hm1e]
    · show m1.price = 0; rw [hm1e]
    · exact E1
  · have hs : spn (begA w d g s0 l0) = 1048576 - (g - intr d + 0) := rfl
    have t1 := u9.a; have t2 := u9.s; have t3 := u9.t; have t4 := u9.j
    have t5 : v9.jL.length ≤ v8.jL.length + 0 := t4
    rw [hs]
    refine ⟨by omega, by omega, by omega, by omega, ?_⟩
    show 100 * ((1 : Nat) : Int) ≤ _
    omega
end
end Go.Proofs.YgvalwGreat.X
