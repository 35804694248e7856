import Derived.Test.YgvalwGreatF47
set_option linter.unusedVariables false
set_option linter.unusedSimpArgs false
namespace Go.Proofs.YgvalwGreat.X
open Go

/-- The number of bytes. -/
def nbI (x : Int) : Int := ((bitsI x + 7) / 8 : Nat)
theorem Nt.nb {h : Hp} {b : Option Addr} {n c : Nat} {x : Int} (hn : Nt h b n c x) : (n : Int) = nbI x := by
  have h1 := hn.lt_len
  have h0 := hn.val
  have e8 : (256 : Int) = 2 ^ 8 := by decide
  unfold nbI
  rw [e8, ← Int.pow_mul] at h1
  have hle := bitsI_le h0 h1
  rcases Nat.eq_zero_or_pos n with hz | hp
  · subst hz
    have : bitsI x = 0 := by simpa using hle
    simp [this]
  · obtain ⟨l, hb, rfl, ht⟩ := hn
    have hlen := hb.len
    have h2 := pow_le_dv hb.isB ht (by rintro rfl; simp at hlen; omega)
    rw [hlen, e8, ← Int.pow_mul] at h2
    have h3 := bitsI_lt h0
    have h4 : 8 * (n - 1) < bitsI (dv l) := by
      rcases Nat.lt_or_ge (8 * (n - 1)) (bitsI (dv l)) with h5 | h5
      · exact h5
      · have := pow2_mono h5
        omega
    omega

def bareI (w : YW) (self : List Int) (o : Int) (A : Nat → Int) : Int :=
  if (96 ≤ o ∧ o ≤ 159) ∨ (16 ≤ o ∧ o ≤ 29) ∨ o = 1 ∨ o = 3 ∨ o = 53 ∨ (81 ≤ o ∧ o ≤ 83) then 3
  else if o = 2 ∨ (4 ≤ o ∧ o ≤ 7) ∨ o = 11 ∨ o = 71 then 5
  else if o = 8 ∨ o = 9 ∨ o = 86 then 8
  else if o = 87 then 10 else if o = 91 then 1 else if o = 64 then 20 else if o = 0 ∨ o = 243 ∨ o = 253 then 0
  else if o = 10 then 10 + 50 * nbI (A 1)
  else if o = 32 then 30 + 6 * ((A 1 + 31) / 32)
  else if o = 55 ∨ o = 57 ∨ o = 62 ∨ o = 94 then 3 + 3 * ((A 2 + 31) / 32)
  else if o = 49 ∨ o = 59 ∨ o = 63 then accI w.wa (addrI (A 0))
  else if o = 60 then accI w.wa (addrI (A 0)) + 3 * ((A 3 + 31) / 32)
  else if 160 ≤ o ∧ o ≤ 164 then 375 + 375 * (o - 160) + 8 * A 1
  else if o = 84 then (if hasM w.ws self (A 0) = true then 100 else 2100)
  else if o = 85 then sstoreC (slotV w.acc self (A 0)) (A 1) (!hasM w.ws self (A 0))
  else if o = 92 ∨ o = 93 then 100
  else if o = 255 then destroyI w self (A 0)
  else if famI o = 16 then enterI w o A
  else 2

section
variable {hi hm : Hp} {K : Value → Hp → Prop}

set_option maxRecDepth 100000 in
set_option maxHeartbeats 4000000 in
theorem bareCost_ok (hd : Dj hi hm) {c b : Nat} {cells : List Value} {tc : TypeId} {w : YW} {pre post : List Value} {f : YF} {t : TypeId} {o : Int} (ho0 : 0 ≤ o) (ho1 : o < 256) (hc : hm c = some (cells, tc)) (hW : ∀ j, j < 8 → cells[0 + j]? = w.cells[j]?) (hS : cells[8]? = some (sl nilS)) (hw : w.ok hi (join hi hm)) (hwr : w.room)
    (hb : hm b = some (pre ++ (fCells f ++ post), t)) (hok : f.ok hi) (hsW : stW f.st)
    (hk : ∀ s1 hi', Ext hi hi' → Dj hi' hm → NtS hi' s1 (bareI w f.self o (argI f.st)) → K (sl s1) (join hi' hm)) :
    CallX Hval.prog 206 [.pointer (some ⟨c, 0, none⟩), .pointer (some ⟨b, pre.length, none⟩), .int .u8 o] (join hi hm) K := by
  refine CallX.of_xf T_ok Hval.func206 rfl (by kernel_rfl) (Nat.le_of_ble_eq_true rfl) ?_; conv => whnf
  have hbg := big_lt
  have hWb : W * 100 < big := by rw [W_val, big_val]; decide
  have hW32 : 1000 < W := by rw [W_val]; decide
  have hW40 : W < 256 ^ 40 := by rw [W_val]; decide
  have hsr : f.stS.2.1 < 2 ^ 30 := by have := hok.n; have := hok.stR; omega
  have aok : ∀ i, NtS hi (argP f.st i).1 (argI f.st i) := fun i => argP_ok hok.stE i
  have aW := argI_lt hsW
  have hst := hok.st.ext (Ext.jl _ hm)
  by_cases g1 : 96 ≤ o ∧ o ≤ 159
  · repeat (first | (refine CondX.tt ?_; conv => whnf) | (refine CondX.ff ?_; conv => whnf) | (refine CondX.eqF (by omega) ?_; conv => whnf) | (refine CondX.dF (by omega) ?_; conv => whnf) | (refine CondX.dT (by omega) ?_; conv => whnf))
    refine CallX.fj hd (num_ok (by omega) (by omega) fun b1 n1 c1 hi1 e1 g1 hd1 => ?_); conv => whnf
    refine RetX.same (hk (b1, n1, c1) hi1 e1 hd1 ?_)
    have e : bareI w f.self o (argI f.st) = 3 := by unfold bareI; repeat (first | rw [if_pos (by omega)] | rw [if_neg (by omega)])
    rw [e]; exact g1
  by_cases g2 : 16 ≤ o ∧ o ≤ 29
  · repeat (first | (refine CondX.tt ?_; conv => whnf) | (refine CondX.ff ?_; conv => whnf) | (refine CondX.eqF (by omega) ?_; conv => whnf) | (refine CondX.dF (by omega) ?_; conv => whnf) | (refine CondX.dT (by omega) ?_; conv => whnf))
    refine CallX.fj hd (num_ok (by omega) (by omega) fun b1 n1 c1 hi1 e1 g1 hd1 => ?_); conv => whnf
    refine RetX.same (hk (b1, n1, c1) hi1 e1 hd1 ?_)
    have e : bareI w f.self o (argI f.st) = 3 := by unfold bareI; repeat (first | rw [if_pos (by omega)] | rw [if_neg (by omega)])
    rw [e]; exact g1
  by_cases g3 : 81 ≤ o ∧ o ≤ 83
  · repeat (first | (refine CondX.tt ?_; conv => whnf) | (refine CondX.ff ?_; conv => whnf) | (refine CondX.eqF (by omega) ?_; conv => whnf) | (refine CondX.dF (by omega) ?_; conv => whnf) | (refine CondX.dT (by omega) ?_; conv => whnf))
    refine CallX.fj hd (num_ok (by omega) (by omega) fun b1 n1 c1 hi1 e1 g1 hd1 => ?_); conv => whnf
    refine RetX.same (hk (b1, n1, c1) hi1 e1 hd1 ?_)
    have e : bareI w f.self o (argI f.st) = 3 := by unfold bareI; repeat (first | rw [if_pos (by omega)] | rw [if_neg (by omega)])
    rw [e]; exact g1
  by_cases g4 : 4 ≤ o ∧ o ≤ 7
  · repeat (first | (refine CondX.tt ?_; conv => whnf) | (refine CondX.ff ?_; conv => whnf) | (refine CondX.eqF (by omega) ?_; conv => whnf) | (refine CondX.dF (by omega) ?_; conv => whnf) | (refine CondX.dT (by omega) ?_; conv => whnf))
    refine CallX.fj hd (num_ok (by omega) (by omega) fun b1 n1 c1 hi1 e1 g1 hd1 => ?_); conv => whnf
    refine RetX.same (hk (b1, n1, c1) hi1 e1 hd1 ?_)
    have e : bareI w f.self o (argI f.st) = 5 := by unfold bareI; repeat (first | rw [if_pos (by omega)] | rw [if_neg (by omega)])
    rw [e]; exact g1
  by_cases g5 : 160 ≤ o ∧ o ≤ 164
  · repeat (first | (refine CondX.tt ?_; conv => whnf) | (refine CondX.ff ?_; conv => whnf) | (refine CondX.eqF (by omega) ?_; conv => whnf) | (refine CondX.dF (by omega) ?_; conv => whnf) | (refine CondX.dT (by omega) ?_; conv => whnf))
    have e0 : IntKind.u8.wrap (o - 160) = o - 160 := by rw [wrap_u8]; omega
    have e1 : IntKind.u64.wrap (375 + IntKind.u64.wrap (375 * IntKind.u64.wrap (IntKind.u8.wrap (o - 160)))) = 375 + 375 * (o - 160) := by
      rw [e0, wrap_u64', wrap_u64', wrap_u64', Int.emod_eq_of_lt (a := o - 160) (by omega) (by omega), Int.emod_eq_of_lt (a := 375 * (o - 160)) (by omega) (by omega), Int.emod_eq_of_lt (by omega) (by omega)]
    rw [e1]
    refine CallX.fj hd (num_ok (by omega) (by omega) fun b1 n1 c1 hi1 e1 g1 hd1 => ?_); conv => whnf
    refine CallX.fj hd1 (num_ok (by omega) (by omega) fun b2 n2 c2 hi2 e2 g2 hd2 => ?_); conv => whnf
    have hst2 := ((hok.st.ext e1).ext e2).ext (Ext.jl _ hm)
    refine arg_ok (join_hm hd2 hb) hst2 hsr 1 (by decide) ?_; conv => whnf
    have := aW 1
    have := (aok 1).val
    refine CallX.fj hd2 (mulN g2 (((aok 1).ext e1).ext e2) (by omega) (by omega) fun b3 n3 c3 hi3 e3 g3 hd3 => ?_); conv => whnf
    refine CallX.fj hd3 (addN ((g1.ext e2).ext e3) g3 (by omega) fun b4 n4 c4 hi4 e4 g4 hd4 => ?_); conv => whnf
    refine RetX.same (hk (b4, n4, c4) hi4 (((e1.trans e2).trans e3).trans e4) hd4 ?_)
    have e : bareI w f.self o (argI f.st) = 375 + 375 * (o - 160) + 8 * argI f.st 1 := by unfold bareI; repeat (first | rw [if_pos (by omega)] | rw [if_neg (by omega)])
    rw [e]; exact g4
  by_cases c1 : o = 1
  · subst c1
    repeat (first | (refine CondX.tt ?_; conv => whnf) | (refine CondX.ff ?_; conv => whnf))
    refine CallX.fj hd (num_ok (by omega) (by omega) fun b1 n1 c1 hi1 e1 g1 hd1 => ?_); conv => whnf
    exact RetX.same (hk (b1, n1, c1) hi1 e1 hd1 g1)
  by_cases c3 : o = 3
  · subst c3
    repeat (first | (refine CondX.tt ?_; conv => whnf) | (refine CondX.ff ?_; conv => whnf))
    refine CallX.fj hd (num_ok (by omega) (by omega) fun b1 n1 c1 hi1 e1 g1 hd1 => ?_); conv => whnf
    exact RetX.same (hk (b1, n1, c1) hi1 e1 hd1 g1)
  by_cases c53 : o = 53
  · subst c53
    repeat (first | (refine CondX.tt ?_; conv => whnf) | (refine CondX.ff ?_; conv => whnf))
    refine CallX.fj hd (num_ok (by omega) (by omega) fun b1 n1 c1 hi1 e1 g1 hd1 => ?_); conv => whnf
    exact RetX.same (hk (b1, n1, c1) hi1 e1 hd1 g1)
  by_cases c2 : o = 2
  · subst c2
    repeat (first | (refine CondX.tt ?_; conv => whnf) | (refine CondX.ff ?_; conv => whnf))
    refine CallX.fj hd (num_ok (by omega) (by omega) fun b1 n1 c1 hi1 e1 g1 hd1 => ?_); conv => whnf
    exact RetX.same (hk (b1, n1, c1) hi1 e1 hd1 g1)
  by_cases c11 : o = 11
  · subst c11
    repeat (first | (refine CondX.tt ?_; conv => whnf) | (refine CondX.ff ?_; conv => whnf))
    refine CallX.fj hd (num_ok (by omega) (by omega) fun b1 n1 c1 hi1 e1 g1 hd1 => ?_); conv => whnf
    exact RetX.same (hk (b1, n1, c1) hi1 e1 hd1 g1)
  by_cases c71 : o = 71
  · subst c71
    repeat (first | (refine CondX.tt ?_; conv => whnf) | (refine CondX.ff ?_; conv => whnf))
    refine CallX.fj hd (num_ok (by omega) (by omega) fun b1 n1 c1 hi1 e1 g1 hd1 => ?_); conv => whnf
    exact RetX.same (hk (b1, n1, c1) hi1 e1 hd1 g1)
  by_cases c8 : o = 8
  · subst c8
    repeat (first | (refine CondX.tt ?_; conv => whnf) | (refine CondX.ff ?_; conv => whnf))
    refine CallX.fj hd (num_ok (by omega) (by omega) fun b1 n1 c1 hi1 e1 g1 hd1 => ?_); conv => whnf
    exact RetX.same (hk (b1, n1, c1) hi1 e1 hd1 g1)
  by_cases c9 : o = 9
  · subst c9
    repeat (first | (refine CondX.tt ?_; conv => whnf) | (refine CondX.ff ?_; conv => whnf))
    refine CallX.fj hd (num_ok (by omega) (by omega) fun b1 n1 c1 hi1 e1 g1 hd1 => ?_); conv => whnf
    exact RetX.same (hk (b1, n1, c1) hi1 e1 hd1 g1)
  by_cases c86 : o = 86
  · subst c86
    repeat (first | (refine CondX.tt ?_; conv => whnf) | (refine CondX.ff ?_; conv => whnf))
    refine CallX.fj hd (num_ok (by omega) (by omega) fun b1 n1 c1 hi1 e1 g1 hd1 => ?_); conv => whnf
    exact RetX.same (hk (b1, n1, c1) hi1 e1 hd1 g1)
  by_cases c87 : o = 87
  · subst c87
    repeat (first | (refine CondX.tt ?_; conv => whnf) | (refine CondX.ff ?_; conv => whnf))
    refine CallX.fj hd (num_ok (by omega) (by omega) fun b1 n1 c1 hi1 e1 g1 hd1 => ?_); conv => whnf
    exact RetX.same (hk (b1, n1, c1) hi1 e1 hd1 g1)
  by_cases c91 : o = 91
  · subst c91
    repeat (first | (refine CondX.tt ?_; conv => whnf) | (refine CondX.ff ?_; conv => whnf))
    refine CallX.fj hd (num_ok (by omega) (by omega) fun b1 n1 c1 hi1 e1 g1 hd1 => ?_); conv => whnf
    exact RetX.same (hk (b1, n1, c1) hi1 e1 hd1 g1)
  by_cases c64 : o = 64
  · subst c64
    repeat (first | (refine CondX.tt ?_; conv => whnf) | (refine CondX.ff ?_; conv => whnf))
    refine CallX.fj hd (num_ok (by omega) (by omega) fun b1 n1 c1 hi1 e1 g1 hd1 => ?_); conv => whnf
    exact RetX.same (hk (b1, n1, c1) hi1 e1 hd1 g1)
  by_cases c0 : o = 0
  · subst c0
    repeat (first | (refine CondX.tt ?_; conv => whnf) | (refine CondX.ff ?_; conv => whnf))
    refine CallX.fj hd (num_ok (by omega) (by omega) fun b1 n1 c1 hi1 e1 g1 hd1 => ?_); conv => whnf
    exact RetX.same (hk (b1, n1, c1) hi1 e1 hd1 g1)
  by_cases c243 : o = 243
  · subst c243
    repeat (first | (refine CondX.tt ?_; conv => whnf) | (refine CondX.ff ?_; conv => whnf))
    refine CallX.fj hd (num_ok (by omega) (by omega) fun b1 n1 c1 hi1 e1 g1 hd1 => ?_); conv => whnf
    exact RetX.same (hk (b1, n1, c1) hi1 e1 hd1 g1)
  by_cases c253 : o = 253
  · subst c253
    repeat (first | (refine CondX.tt ?_; conv => whnf) | (refine CondX.ff ?_; conv => whnf))
    refine CallX.fj hd (num_ok (by omega) (by omega) fun b1 n1 c1 hi1 e1 g1 hd1 => ?_); conv => whnf
    exact RetX.same (hk (b1, n1, c1) hi1 e1 hd1 g1)
  by_cases c92 : o = 92
  · subst c92
    repeat (first | (refine CondX.tt ?_; conv => whnf) | (refine CondX.ff ?_; conv => whnf))
    refine CallX.fj hd (num_ok (by omega) (by omega) fun b1 n1 c1 hi1 e1 g1 hd1 => ?_); conv => whnf
    exact RetX.same (hk (b1, n1, c1) hi1 e1 hd1 g1)
  by_cases c93 : o = 93
  · subst c93
    repeat (first | (refine CondX.tt ?_; conv => whnf) | (refine CondX.ff ?_; conv => whnf))
    refine CallX.fj hd (num_ok (by omega) (by omega) fun b1 n1 c1 hi1 e1 g1 hd1 => ?_); conv => whnf
    exact RetX.same (hk (b1, n1, c1) hi1 e1 hd1 g1)
  by_cases c10 : o = 10
  · subst c10
    repeat (first | (refine CondX.tt ?_; conv => whnf) | (refine CondX.ff ?_; conv => whnf))
    refine arg_ok (join_hm hd hb) hst hsr 1 (by decide) ?_; conv => whnf
    refine CallX.fj hd (expCost_ok (aok 1) fun b1 n1 c1 hi1 e1 g1 hd1 => ?_); conv => whnf
    rw [(aok 1).nb] at g1
    exact RetX.same (hk (b1, n1, c1) hi1 e1 hd1 g1)
  by_cases c32 : o = 32
  · subst c32
    repeat (first | (refine CondX.tt ?_; conv => whnf) | (refine CondX.ff ?_; conv => whnf))
    refine CallX.fj hd (num_ok (by omega) (by omega) fun b1 n1 c1 hi1 e1 g1 hd1 => ?_); conv => whnf
    refine CallX.fj hd1 (num_ok (by omega) (by omega) fun b2 n2 c2 hi2 e2 g2 hd2 => ?_); conv => whnf
    have hst2 := ((hok.st.ext e1).ext e2).ext (Ext.jl _ hm)
    refine arg_ok (join_hm hd2 hb) hst2 hsr 1 (by decide) ?_; conv => whnf
    have := aW 1
    have := (aok 1).val
    refine CallX.fj hd2 (words_okN (((aok 1).ext e1).ext e2) (by omega) fun b3 n3 c3 hi3 e3 g3 hd3 => ?_); conv => whnf
    refine CallX.fj hd3 (mulN (g2.ext e3) g3 (by omega) (by omega) fun b4 n4 c4 hi4 e4 g4 hd4 => ?_); conv => whnf
    refine CallX.fj hd4 (addN (((g1.ext e2).ext e3).ext e4) g4 (by omega) fun b5 n5 c5 hi5 e5 g5 hd5 => ?_); conv => whnf
    exact RetX.same (hk (b5, n5, c5) hi5 ((((e1.trans e2).trans e3).trans e4).trans e5) hd5 g5)
  by_cases c55 : o = 55
  · subst c55
    repeat (first | (refine CondX.tt ?_; conv => whnf) | (refine CondX.ff ?_; conv => whnf))
    refine CallX.fj hd (num_ok (by omega) (by omega) fun b1 n1 c1 hi1 e1 g1 hd1 => ?_); conv => whnf
    have hst1 := (hok.st.ext e1).ext (Ext.jl _ hm)
    refine arg_ok (join_hm hd1 hb) hst1 hsr 2 (by decide) ?_; conv => whnf
    have := aW 2
    have := (aok 2).val
    refine CallX.fj hd1 (ypCopyCost_ok ((aok 2).ext e1) (Int.lt_trans (aW 2) hW40) fun b2 n2 c2 hi2 e2 g2 hd2 => ?_); conv => whnf
    refine CallX.fj hd2 (addN (g1.ext e2) g2 (by omega) fun b3 n3 c3 hi3 e3 g3 hd3 => ?_); conv => whnf
    exact RetX.same (hk (b3, n3, c3) hi3 ((e1.trans e2).trans e3) hd3 g3)
  by_cases c57 : o = 57
  · subst c57
    repeat (first | (refine CondX.tt ?_; conv => whnf) | (refine CondX.ff ?_; conv => whnf))
    refine CallX.fj hd (num_ok (by omega) (by omega) fun b1 n1 c1 hi1 e1 g1 hd1 => ?_); conv => whnf
    have hst1 := (hok.st.ext e1).ext (Ext.jl _ hm)
    refine arg_ok (join_hm hd1 hb) hst1 hsr 2 (by decide) ?_; conv => whnf
    have := aW 2
    have := (aok 2).val
    refine CallX.fj hd1 (ypCopyCost_ok ((aok 2).ext e1) (Int.lt_trans (aW 2) hW40) fun b2 n2 c2 hi2 e2 g2 hd2 => ?_); conv => whnf
    refine CallX.fj hd2 (addN (g1.ext e2) g2 (by omega) fun b3 n3 c3 hi3 e3 g3 hd3 => ?_); conv => whnf
    exact RetX.same (hk (b3, n3, c3) hi3 ((e1.trans e2).trans e3) hd3 g3)
  by_cases c62 : o = 62
  · subst c62
    repeat (first | (refine CondX.tt ?_; conv => whnf) | (refine CondX.ff ?_; conv => whnf))
    refine CallX.fj hd (num_ok (by omega) (by omega) fun b1 n1 c1 hi1 e1 g1 hd1 => ?_); conv => whnf
    have hst1 := (hok.st.ext e1).ext (Ext.jl _ hm)
    refine arg_ok (join_hm hd1 hb) hst1 hsr 2 (by decide) ?_; conv => whnf
    have := aW 2
    have := (aok 2).val
    refine CallX.fj hd1 (ypCopyCost_ok ((aok 2).ext e1) (Int.lt_trans (aW 2) hW40) fun b2 n2 c2 hi2 e2 g2 hd2 => ?_); conv => whnf
    refine CallX.fj hd2 (addN (g1.ext e2) g2 (by omega) fun b3 n3 c3 hi3 e3 g3 hd3 => ?_); conv => whnf
    exact RetX.same (hk (b3, n3, c3) hi3 ((e1.trans e2).trans e3) hd3 g3)
  by_cases c94 : o = 94
  · subst c94
    repeat (first | (refine CondX.tt ?_; conv => whnf) | (refine CondX.ff ?_; conv => whnf))
    refine CallX.fj hd (num_ok (by omega) (by omega) fun b1 n1 c1 hi1 e1 g1 hd1 => ?_); conv => whnf
    have hst1 := (hok.st.ext e1).ext (Ext.jl _ hm)
    refine arg_ok (join_hm hd1 hb) hst1 hsr 2 (by decide) ?_; conv => whnf
    have := aW 2
    have := (aok 2).val
    refine CallX.fj hd1 (ypCopyCost_ok ((aok 2).ext e1) (Int.lt_trans (aW 2) hW40) fun b2 n2 c2 hi2 e2 g2 hd2 => ?_); conv => whnf
    refine CallX.fj hd2 (addN (g1.ext e2) g2 (by omega) fun b3 n3 c3 hi3 e3 g3 hd3 => ?_); conv => whnf
    exact RetX.same (hk (b3, n3, c3) hi3 ((e1.trans e2).trans e3) hd3 g3)
  by_cases c49 : o = 49
  · subst c49
    repeat (first | (refine CondX.tt ?_; conv => whnf) | (refine CondX.ff ?_; conv => whnf))
    refine DrawX.go T_ok hM Hval.func206 (tb := dr206) rfl (by kernel_rfl) ?_; conv => whnf
    refine arg_ok (join_hm hd hb) hst hsr 0 (by decide) ?_; conv => whnf
    refine addrOf_ok ((aok 0).ext (Ext.jl _ hm)) ?_; conv => whnf
    refine accessJ_ok hd hc (hW 1 (by decide)) hw.wa (addrI_length _) (by have := hwr.wa; omega) fun s1 hi1 e1 hd1 g1 => ?_; conv => whnf
    exact RetX.same (hk s1 hi1 e1 hd1 g1)
  by_cases c59 : o = 59
  · subst c59
    repeat (first | (refine CondX.tt ?_; conv => whnf) | (refine CondX.ff ?_; conv => whnf))
    refine DrawX.go T_ok hM Hval.func206 (tb := dr206) rfl (by kernel_rfl) ?_; conv => whnf
    refine arg_ok (join_hm hd hb) hst hsr 0 (by decide) ?_; conv => whnf
    refine addrOf_ok ((aok 0).ext (Ext.jl _ hm)) ?_; conv => whnf
    refine accessJ_ok hd hc (hW 1 (by decide)) hw.wa (addrI_length _) (by have := hwr.wa; omega) fun s1 hi1 e1 hd1 g1 => ?_; conv => whnf
    exact RetX.same (hk s1 hi1 e1 hd1 g1)
  by_cases c63 : o = 63
  · subst c63
    repeat (first | (refine CondX.tt ?_; conv => whnf) | (refine CondX.ff ?_; conv => whnf))
    refine DrawX.go T_ok hM Hval.func206 (tb := dr206) rfl (by kernel_rfl) ?_; conv => whnf
    refine arg_ok (join_hm hd hb) hst hsr 0 (by decide) ?_; conv => whnf
    refine addrOf_ok ((aok 0).ext (Ext.jl _ hm)) ?_; conv => whnf
    refine accessJ_ok hd hc (hW 1 (by decide)) hw.wa (addrI_length _) (by have := hwr.wa; omega) fun s1 hi1 e1 hd1 g1 => ?_; conv => whnf
    exact RetX.same (hk s1 hi1 e1 hd1 g1)
  by_cases c60 : o = 60
  · subst c60
    repeat (first | (refine CondX.tt ?_; conv => whnf) | (refine CondX.ff ?_; conv => whnf))
    refine DrawX.go T_ok hM Hval.func206 (tb := dr206) rfl (by kernel_rfl) ?_; conv => whnf
    refine arg_ok (join_hm hd hb) hst hsr 0 (by decide) ?_; conv => whnf
    refine addrOf_ok ((aok 0).ext (Ext.jl _ hm)) ?_; conv => whnf
    refine accessJ_ok hd hc (hW 1 (by decide)) hw.wa (addrI_length _) (by have := hwr.wa; omega) fun s1 hi1 e1 hd1 g1 => ?_; conv => whnf
    have hst1 := (hok.st.ext e1).ext (Ext.jl _ hm)
    refine arg_ok (join_hm hd1 hb) hst1 hsr 3 (by decide) ?_; conv => whnf
    have := aW 3
    have := (aok 3).val
    have hac : 0 ≤ accI w.wa (addrI (argI f.st 0)) ∧ accI w.wa (addrI (argI f.st 0)) ≤ 2600 := by unfold accI; split <;> omega
    refine CallX.fj hd1 (ypCopyCost_ok ((aok 3).ext e1) (Int.lt_trans (aW 3) hW40) fun b2 n2 c2 hi2 e2 g2 hd2 => ?_); conv => whnf
    refine CallX.fj hd2 (addN (g1.ext e2) g2 (by omega) fun b3 n3 c3 hi3 e3 g3 hd3 => ?_); conv => whnf
    exact RetX.same (hk (b3, n3, c3) hi3 ((e1.trans e2).trans e3) hd3 g3)
  by_cases c84 : o = 84
  · subst c84
    repeat (first | (refine CondX.tt ?_; conv => whnf) | (refine CondX.ff ?_; conv => whnf))
    refine DrawX.go T_ok hM Hval.func206 (tb := dr206) rfl (by kernel_rfl) ?_; conv => whnf
    have hself := ldV_self (join_hm hd hb) hok.self hok.caller (o := pre.length + 12) rfl
    refine LoadX.of _ hself ?_; conv => whnf
    refine arg_ok (join_hm hd hb) hst hsr 0 (by decide) ?_; conv => whnf
    refine Ob.mk hself ?_; conv => whnf
    refine isWarmSlot_ok (xs := w.ws) (join_hm hd hc) (hW 2 (by decide)) (hw.ws.ext (Ext.jl _ _)) hok.self (by have := hwr.ws; omega) ((aok 0).ext (Ext.jl _ _)) ?_; conv => whnf
    refine CondX.mk (fun hq => ?_) (fun hq => ?_) <;> conv => whnf
    · refine CallX.fj hd (num_ok (by omega) (by omega) fun b1 n1 c1 hi1 e1 g1 hd1 => ?_); conv => whnf
      refine RetX.same (hk (b1, n1, c1) hi1 e1 hd1 ?_)
      have e : bareI w f.self 84 (argI f.st) = if hasM w.ws f.self (argI f.st 0) = true then 100 else 2100 := rfl
      rw [e, if_pos hq]; exact g1
    · refine CallX.fj hd (num_ok (by omega) (by omega) fun b1 n1 c1 hi1 e1 g1 hd1 => ?_); conv => whnf
      refine RetX.same (hk (b1, n1, c1) hi1 e1 hd1 ?_)
      have e : bareI w f.self 84 (argI f.st) = if hasM w.ws f.self (argI f.st 0) = true then 100 else 2100 := rfl
      have hq' : hasM w.ws f.self (argI f.st 0) = false := hq
      rw [e, if_neg (by simp [hq'])]; exact g1
  by_cases c85 : o = 85
  · subst c85
    repeat (first | (refine CondX.tt ?_; conv => whnf) | (refine CondX.ff ?_; conv => whnf))
    refine ysstore_ok hd hc hW hS hw hwr hb hok fun s1 s2 s3 hi1 e1 hd1 g1 g2 g3 => ?_; conv => whnf
    exact RetX.same (hk s1 hi1 e1 hd1 g1)
  by_cases c255 : o = 255
  · subst c255
    repeat (first | (refine CondX.tt ?_; conv => whnf) | (refine CondX.ff ?_; conv => whnf))
    refine destroyCost_ok hd hc hW hw hwr hb hok fun s1 hi1 e1 hd1 g1 => ?_; conv => whnf
    exact RetX.same (hk s1 hi1 e1 hd1 g1)
  by_cases c240 : o = 240
  · subst c240
    repeat (first | (refine CondX.tt ?_; conv => whnf) | (refine CondX.ff ?_; conv => whnf))
    refine family_ok ho0 ho1 ?_; conv => whnf
    repeat (first | (refine CondX.tt ?_; conv => whnf) | (refine CondX.ff ?_; conv => whnf))
    refine enterCost_ok hd hc hW hw hwr hb hok hsW fun s1 hi1 e1 hd1 g1 => ?_; conv => whnf
    exact RetX.same (hk s1 hi1 e1 hd1 g1)
  by_cases c241 : o = 241
  · subst c241
    repeat (first | (refine CondX.tt ?_; conv => whnf) | (refine CondX.ff ?_; conv => whnf))
    refine family_ok ho0 ho1 ?_; conv => whnf
    repeat (first | (refine CondX.tt ?_; conv => whnf) | (refine CondX.ff ?_; conv => whnf))
    refine enterCost_ok hd hc hW hw hwr hb hok hsW fun s1 hi1 e1 hd1 g1 => ?_; conv => whnf
    exact RetX.same (hk s1 hi1 e1 hd1 g1)
  by_cases c242 : o = 242
  · subst c242
    repeat (first | (refine CondX.tt ?_; conv => whnf) | (refine CondX.ff ?_; conv => whnf))
    refine family_ok ho0 ho1 ?_; conv => whnf
    repeat (first | (refine CondX.tt ?_; conv => whnf) | (refine CondX.ff ?_; conv => whnf))
    refine enterCost_ok hd hc hW hw hwr hb hok hsW fun s1 hi1 e1 hd1 g1 => ?_; conv => whnf
    exact RetX.same (hk s1 hi1 e1 hd1 g1)
  by_cases c244 : o = 244
  · subst c244
    repeat (first | (refine CondX.tt ?_; conv => whnf) | (refine CondX.ff ?_; conv => whnf))
    refine family_ok ho0 ho1 ?_; conv => whnf
    repeat (first | (refine CondX.tt ?_; conv => whnf) | (refine CondX.ff ?_; conv => whnf))
    refine enterCost_ok hd hc hW hw hwr hb hok hsW fun s1 hi1 e1 hd1 g1 => ?_; conv => whnf
    exact RetX.same (hk s1 hi1 e1 hd1 g1)
  by_cases c245 : o = 245
  · subst c245
    repeat (first | (refine CondX.tt ?_; conv => whnf) | (refine CondX.ff ?_; conv => whnf))
    refine family_ok ho0 ho1 ?_; conv => whnf
    repeat (first | (refine CondX.tt ?_; conv => whnf) | (refine CondX.ff ?_; conv => whnf))
    refine enterCost_ok hd hc hW hw hwr hb hok hsW fun s1 hi1 e1 hd1 g1 => ?_; conv => whnf
    exact RetX.same (hk s1 hi1 e1 hd1 g1)
  by_cases c250 : o = 250
  · subst c250
    repeat (first | (refine CondX.tt ?_; conv => whnf) | (refine CondX.ff ?_; conv => whnf))
    refine family_ok ho0 ho1 ?_; conv => whnf
    repeat (first | (refine CondX.tt ?_; conv => whnf) | (refine CondX.ff ?_; conv => whnf))
    refine enterCost_ok hd hc hW hw hwr hb hok hsW fun s1 hi1 e1 hd1 g1 => ?_; conv => whnf
    exact RetX.same (hk s1 hi1 e1 hd1 g1)
  have hfam : famI o ≠ 16 := by
    unfold famI
    repeat' split
    all_goals omega
  have hdef : bareI w f.self o (argI f.st) = 2 := by
    unfold bareI
    repeat (first | rw [if_neg (by omega)] | rw [if_neg hfam])
  by_cases i1 : o < 4
  · repeat (first | (refine CondX.tt ?_; conv => whnf) | (refine CondX.ff ?_; conv => whnf) | (refine CondX.eqF (by omega) ?_; conv => whnf) | (refine CondX.dF (by omega) ?_; conv => whnf) | (refine CondX.dT (by omega) ?_; conv => whnf))
    refine family_ok ho0 ho1 ?_; conv => whnf
    refine CondX.eqF hfam ?_; conv => whnf
    refine CallX.fj hd (num_ok (by omega) (by omega) fun b1 n1 c1 hi1 e1 g1 hd1 => ?_); conv => whnf
    refine RetX.same (hk (b1, n1, c1) hi1 e1 hd1 ?_)
    rw [hdef]; exact g1
  by_cases i2 : o < 16
  · repeat (first | (refine CondX.tt ?_; conv => whnf) | (refine CondX.ff ?_; conv => whnf) | (refine CondX.eqF (by omega) ?_; conv => whnf) | (refine CondX.dF (by omega) ?_; conv => whnf) | (refine CondX.dT (by omega) ?_; conv => whnf))
    refine family_ok ho0 ho1 ?_; conv => whnf
    refine CondX.eqF hfam ?_; conv => whnf
    refine CallX.fj hd (num_ok (by omega) (by omega) fun b1 n1 c1 hi1 e1 g1 hd1 => ?_); conv => whnf
    refine RetX.same (hk (b1, n1, c1) hi1 e1 hd1 ?_)
    rw [hdef]; exact g1
  by_cases i3 : o < 81
  · repeat (first | (refine CondX.tt ?_; conv => whnf) | (refine CondX.ff ?_; conv => whnf) | (refine CondX.eqF (by omega) ?_; conv => whnf) | (refine CondX.dF (by omega) ?_; conv => whnf) | (refine CondX.dT (by omega) ?_; conv => whnf))
    refine family_ok ho0 ho1 ?_; conv => whnf
    refine CondX.eqF hfam ?_; conv => whnf
    refine CallX.fj hd (num_ok (by omega) (by omega) fun b1 n1 c1 hi1 e1 g1 hd1 => ?_); conv => whnf
    refine RetX.same (hk (b1, n1, c1) hi1 e1 hd1 ?_)
    rw [hdef]; exact g1
  by_cases i4 : o < 96
  · repeat (first | (refine CondX.tt ?_; conv => whnf) | (refine CondX.ff ?_; conv => whnf) | (refine CondX.eqF (by omega) ?_; conv => whnf) | (refine CondX.dF (by omega) ?_; conv => whnf) | (refine CondX.dT (by omega) ?_; conv => whnf))
    refine family_ok ho0 ho1 ?_; conv => whnf
    refine CondX.eqF hfam ?_; conv => whnf
    refine CallX.fj hd (num_ok (by omega) (by omega) fun b1 n1 c1 hi1 e1 g1 hd1 => ?_); conv => whnf
    refine RetX.same (hk (b1, n1, c1) hi1 e1 hd1 ?_)
    rw [hdef]; exact g1
  by_cases i5 : o < 160
  · omega
  repeat (first | (refine CondX.tt ?_; conv => whnf) | (refine CondX.ff ?_; conv => whnf) | (refine CondX.eqF (by omega) ?_; conv => whnf) | (refine CondX.dF (by omega) ?_; conv => whnf) | (refine CondX.dT (by omega) ?_; conv => whnf))
  refine family_ok ho0 ho1 ?_; conv => whnf
  refine CondX.eqF hfam ?_; conv => whnf
  refine CallX.fj hd (num_ok (by omega) (by omega) fun b1 n1 c1 hi1 e1 g1 hd1 => ?_); conv => whnf
  refine RetX.same (hk (b1, n1, c1) hi1 e1 hd1 ?_)
  rw [hdef]; exact g1
end
end Go.Proofs.YgvalwGreat.X
