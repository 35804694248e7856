import Derived.Test.YgvalwGreatM36
set_option linter.unusedVariables false
set_option linter.unusedSimpArgs false
namespace Go.Proofs.YgvalwGreat.X
open Go

section
variable {hi hi' hm hm' hb hb' h : Hp} {K : Value → Hp → Prop} {v v' : VS} {eb : Nat} {m m' : MS} {t : Nat} {mems : Nat → List Int} {stale stale' mem' orig a : List Int} {w w' : AW} {sn : List AW} {s0 l0 S S' x o : Int} {A : Nat → Nat}
def cldW (w : AW) (a : List Int) : Nat := if w.warmA a = true then 0 else 1
def WaC (hi : Hp) (eb : Nat) (m : MS) (t : Nat) (w : AW) (sn : List AW) (v : VS) (a : List Int) (K : Value → Hp → Prop) : Prop := ∀ hm' v', MA hi hm' eb m t (warmW w a) sn v' → Up v v' (cldW w a) 0 0 (cldW w a) → hasA v' a = true → K (.bool true) (join hi hm')
set_option maxRecDepth 100000 in
set_option maxHeartbeats 4000000 in
theorem warmAcct_c (hl : a.length = 20) (hB : isB a) (M : MA hi hm eb m t w sn v) (hrA : v.aL.length < 2560) (hrJ : v.jL.length < 65536) (hk : WaC hi eb m t w sn v a K) : CallX Hval.prog 277 [.pointer (some ⟨eb, 0, none⟩), .agg (bcells a).toArray] (join hi hm) K := by
  refine CallX.of_xf T_ok Hval.func277 rfl (by kernel_rfl) (Nat.le_of_ble_eq_true rfl) ?_; conv => whnf
  refine BoxX.j M.A.V.dj fun n1 hin hmn hd1 hE => ?_; conv => whnf
  have bx1 : (hput hi n1 ((bcells a).toArray.toList, 31)) n1 = some (bcells a, 31) := hput_same ..
  generalize hput hi n1 ((bcells a).toArray.toList, 31) = hi1 at *
  have alen : (bcells a).length = (31, y31).snd.size := by rw [bcells_len, hl]; rfl
  have hEj := Ext.j2 hE hd1 (Ext.refl hm)
  have hb := M.blk hEj
  refine DrawX.go T_ok hM Hval.func277 (tb := dr277) rfl (by kernel_rfl) ?_; conv => whnf
  refine LoadX.fn hb 0 rfl (by omega) ?_
  rw [mR_S]; conv => whnf
  refine LoadX.all (join_l bx1) alen ?_; conv => whnf
  refine isWarmAcct_ok hl hB M.A hEj ?_; conv => whnf
  repeat (refine Ob.mk (by first | exact ldV_fn hb 0 rfl (by omega) | exact ldV_all (join_l bx1) (by rw [alen])) ?_; conv => whnf)
  cases hw : w.warmA a with
  | true =>
    repeat (first | (refine CondX.tt ?_; conv => whnf) | (refine CondX.ff ?_; conv => whnf))
    refine RetX.drop (h' := join hi hm) hEj (hk hm v (by rw [warmW_id hw]; exact M) (Up.refl.le (by omega) (by omega) (by omega) (by omega)) (warm_has M.A hw))
  | false =>
    repeat (first | (refine CondX.tt ?_; conv => whnf) | (refine CondX.ff ?_; conv => whnf))
    refine LoadX.fn hb 0 rfl (by omega) ?_
    rw [mR_S]; conv => whnf
    repeat (first | (refine CondX.tt ?_; conv => whnf) | (refine CondX.ff ?_; conv => whnf))
    refine LoadX.all (join_l bx1) alen ?_; conv => whnf
    repeat (first | (refine CondX.tt ?_; conv => whnf) | (refine CondX.ff ?_; conv => whnf))
    refine CallX.bx hE hd1 (Q := fun y hm' => ∃ v', VA hi hm' eb (mC eb m) (wrmW w a true) sn v' ∧ Up v v' (newA v a) 0 0 1 ∧ hasA v' a = true ∧ y = .bool true) (warmAcct_ok hl hB M.A hrA hrJ fun hm' v' A' u' h' => ⟨hm', rfl, A'.V.dj, v', A', u', h', rfl⟩) ?_
    rintro y hm' hd' ⟨v', A', u', h', rfl⟩
    conv => whnf
    have hc1 : cldW w a = 1 := by unfold cldW; rw [hw]; rfl
    exact RetX.drop (h' := join hi hm') (Ext.j2 hE hd' (Ext.refl _)) (hk hm' v' (by rw [warmW_eq]; exact M.setV (Ext.refl hi) A') (u'.le (by rw [hc1]; exact newA_le v a) (by omega) (by omega) (by omega)) h')
theorem warmAcct_cb {hi0 : Hp} (he : Ext hi0 hi) (hd : Dj hi hm) (hl : a.length = 20) (hB : isB a) (M : MA hi0 hm eb m t w sn v) (hrA : v.aL.length < 2560) (hrJ : v.jL.length < 65536)
    (hk : ∀ hm' v', Dj hi hm' → MA hi0 hm' eb m t (warmW w a) sn v' → Up v v' (cldW w a) 0 0 (cldW w a) → hasA v' a = true → K (.bool true) (join hi hm')) : CallX Hval.prog 277 [.pointer (some ⟨eb, 0, none⟩), .agg (bcells a).toArray] (join hi hm) K :=
  CallX.bx he hd (Q := fun y hm' => ∃ v', MA hi0 hm' eb m t (warmW w a) sn v' ∧ Up v v' (cldW w a) 0 0 (cldW w a) ∧ hasA v' a = true ∧ y = .bool true)
    (warmAcct_c hl hB M hrA hrJ fun hm' v' M' u h' => ⟨hm', rfl, M'.A.V.dj, v', M', u, h', rfl⟩) fun y hm' hd' ⟨v', M', u, h', e⟩ => e ▸ hk hm' v' hd' M' u h'
theorem taken_d (hl : a.length = 20) (hB : isB a) (M : MA hi hm eb m t w sn v) (he : Ext (join hi hm) h) (hk : K (.bool (decide (0 < (w.acct a).nonce ∨ 0 < (w.acct a).code.length))) h) : CallX Hval.prog 83 [.pointer (some ⟨eb, 0, none⟩), .agg (bcells a).toArray] h K :=
  CallX.rdrop (taken_okM hl hB M he fun h' e => ⟨h, e, hk⟩)
/-- The vault grows by what was paid. -/
theorem OpS.up (P : OpS hi hm hb eb m t w sn v mems stale o A S S') {n : Nat} (u : Up v v' n 0 0 n) (hn : 2500 * (n : Int) ≤ bareA w (m.fr t).self o (fun i => A i)) : Rs S' v' sn := by
  have := P.cost
  exact P.R.up u (by omega) (by omega) (by omega) (by omega)
theorem cW_acc : 2500 * ((cldW w a : Nat) : Int) ≤ accA w a := by unfold cldW accA; split <;> omega
theorem OpS.fit1 (P : OpS hi hm hb eb m t w sn v mems stale o A S S') (ho : o = 32 ∨ o = 243 ∨ o = 253 ∨ (160 ≤ o ∧ o ≤ 164)) : A 1 ≠ 0 → A 0 + A 1 ≤ (mems t).length := fun h1 => by
  have := P.fit
  unfold reachI at this
  rw [if_pos ho] at this
  unfold endI at this
  dsimp only at this
  rw [if_neg (by omega)] at this
  omega
theorem bv32 {l : List Int} (h : l.length = 32) (hB : isB l) : 0 ≤ bv l ∧ bv l < W := by
  have := bv_bd hB
  rw [h] at this
  exact ⟨this.1, by rw [W_val]; exact this.2⟩
set_option maxRecDepth 100000 in
set_option maxHeartbeats 4000000 in
theorem x_32 (P : OpS hi hm hb eb m t w sn v mems stale 32 A S S') (hk : PlK hi eb m t w sn mems orig 32 S' s0 l0 K) : CallX Hval.prog 187 [.pointer (some ⟨eb, 0, none⟩)] (join (join hi hm) hb) K := by
  have X := P.X
  have M := X.M
  have h7 := M.t7
  have hMe : Ext (join hi hm) (join (join hi hm) hb) := Ext.jl _ _
  have q : ∀ i, (A i : Int) < W := fun i => P.hA i ▸ (argM_W M i).2
  have hsp : 2 ≤ (m.fr t).sp := Int.ofNat_le.1 P.sp
  have hs64 := M.f.sp
  have hpc := P.pc
  refine CallX.of_xf T_ok Hval.func187 rfl (by kernel_rfl) (Nat.le_of_ble_eq_true rfl) ?_; conv => whnf
  refine running_ok M hMe ?_; conv => whnf
  repeat (first | (refine CondX.tt ?_; conv => whnf) | (refine CondX.ff ?_; conv => whnf))
  refine arg_okM (i := 0) M hMe (by decide) ?_
  rw [P.hA]; conv => whnf
  refine arg_okM (i := 1) M hMe (by decide) ?_
  rw [P.hA]; conv => whnf
  refine read_own (M.blk hMe) X.mm.top (Ext.jr X.dj) h7 (q 0) (q 1) (P.fit1 (.inl rfl)) fun s h' e1 hs hw => ?_
  obtain ⟨h2, eI, d1, d2, rfl, hs2⟩ := own_j M.A.V.dj X.dj e1 hs hw
  conv => whnf
  repeat (first | (refine CondX.tt ?_; conv => whnf) | (refine CondX.ff ?_; conv => whnf))
  refine sum_ok ((hs2.ext (Ext.jl h2 hm)).ext (Ext.jl _ hb)) ?_; conv => whnf
  have hk32 := And.intro (kSum_len (cutN (mems t) (A 0) (A 1))) (kSum_isB (cutN (mems t) (A 0) (A 1)))
  refine fromBytes_ok hk32.1 hk32.2 ?_; conv => whnf
  refine settleS_w (tk := 2) (st := 1) eI d1 d2 M hsp (by omega) (by omega) (bv32 hk32.1 hk32.2) fun hm2 g1 g2 M2 => ?_; conv => whnf
  refine RetX.drop (h' := join (join hi hm2) hb) (Ext.jj eI g1 g2) (fin_val X (T := 2) rfl rfl (by omega) rfl M2 (Dj.back (Ext.j2 eI g1 (Ext.refl hm2)) g2) (Ext.refl hi) (fun _ h => h) rfl ?_ P.R' hk)
  rw [opA_eq P.hA (T := 2) rfl]
  rfl
end
end Go.Proofs.YgvalwGreat.X
