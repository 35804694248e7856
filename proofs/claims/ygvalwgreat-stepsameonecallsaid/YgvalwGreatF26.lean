import Derived.Test.YgvalwGreatF25
set_option linter.unusedVariables false
set_option linter.unusedSimpArgs false
namespace Go.Proofs.YgvalwGreat.X
open Go

section
variable {h : Hp} {K : Value → Hp → Prop} {ba bb bc : Option Addr} {na ca nb cb nc cc : Nat} {x y z : Int}

/-- The output of a natv contract. -/
def natOut (k : Int) (l : List Int) : List Int :=
  if k = 4 then l else be (lenI l 2).toNat (modexpI (bv (cutN l 96 (lenI l 0).toNat)) (bv (cutN l (96 + (lenI l 0).toNat) (lenI l 1).toNat)) (bv (cutN l (96 + (lenI l 0).toNat + (lenI l 1).toNat) (lenI l 2).toNat)))

theorem p256_mono {a b : Nat} (h : a ≤ b) : (256 : Int) ^ a ≤ 256 ^ b := by
  obtain ⟨j, rfl⟩ : ∃ j, b = a + j := ⟨b - a, by omega⟩
  rw [Int.pow_add]
  have h4 : (0 : Int) < 256 ^ j := Int.pow_pos (by decide)
  have h5 : (0 : Int) < 256 ^ a := Int.pow_pos (by decide)
  have := Int.mul_le_mul_of_nonneg_left (show (1 : Int) ≤ 256 ^ j by omega) (show (0 : Int) ≤ 256 ^ a by omega)
  omega
theorem bvcut_lt {l : List Int} (hb : isB l) {a n : Nat} (hn : n ≤ 64) : bv (cutN l a n) < 256 ^ 64 := by
  have h1 := bv_lt (isB_cutN hb a n)
  rw [cutN_length] at h1
  exact Int.lt_of_lt_of_le h1 (p256_mono hn)

set_option maxRecDepth 100000 in
set_option maxHeartbeats 4000000 in
theorem ypNativeRun_ok {k : Int} {l : List Int} (hs : Byt h bc nc cc l) (hc : ∃ y, natCost k l = some y)
    (hk : ∀ b n c h', Ext h h' → Byt h' b n c (natOut k l) → K (.slice b n c) h') : CallX Hval.prog 118 [.int .u8 k, .slice bc nc cc] h K := by
  refine CallX.of_xf T_ok Hval.func118 rfl (by kernel_rfl) (Nat.le_of_ble_eq_true rfl) ?_; conv => whnf
  have hl := hs.len
  have hr := hs.room
  refine CondX.eqI (fun h4 => ?_) (fun h4 => ?_) <;> conv => whnf
  · refine bytesOf_any hs fun b c h' he hb => ?_; conv => whnf
    refine RetX.same (hk _ _ _ _ he ?_)
    rw [natOut, if_pos h4]; exact hb
  · have h5 : k = 5 ∧ lensOk l = true := by
      obtain ⟨y, hy⟩ := hc
      rw [natCost, if_neg h4] at hy
      split at hy
      · assumption
      · cases hy
    obtain ⟨rfl, hok⟩ := h5
    refine ypLengths_ok hs (fun hf => by rw [hf] at hok; cases hok) (fun _ => ?_); conv => whnf
    repeat (first | (refine CondX.tt ?_; conv => whnf) | (refine CondX.ff ?_; conv => whnf))
    have hb0 := lenI_nonneg hs.isB 0
    have hb1 := lenI_nonneg hs.isB 1
    have hb2 := lenI_nonneg hs.isB 2
    have hb3 : lenI l 0 ≤ 64 ∧ lenI l 1 ≤ 64 ∧ lenI l 2 ≤ 64 := of_decide_eq_true hok
    refine part_ok hs (by omega) (by omega) (by omega) (by omega) fun b n c h1 he1 hn1 => ?_; conv => whnf
    refine fromBE_ok hn1 fun b n c h2 he2 hn2 => ?_; conv => whnf
    have e1 : IntKind.u64.wrap (96 + lenI l 0) = 96 + lenI l 0 := by rw [wrap_u64']; omega
    have e2 : IntKind.u64.wrap (96 + lenI l 0 + lenI l 1) = 96 + lenI l 0 + lenI l 1 := by rw [wrap_u64']; omega
    rw [e1]
    refine part_ok ((hs.ext he1).ext he2) (by omega) (by omega) (by omega) (by omega) fun b n c h3 he3 hn3 => ?_; conv => whnf
    refine fromBE_ok hn3 fun b n c h4' he4 hn4 => ?_; conv => whnf
    rw [e1, e2]
    refine part_ok ((((hs.ext he1).ext he2).ext he3).ext he4) (by omega) (by omega) (by omega) (by omega) fun b n c h5 he5 hn5 => ?_; conv => whnf
    refine fromBE_ok hn5 fun b n c h6 he6 hn6 => ?_; conv => whnf
    have x1 : Int.toNat 96 = 96 := rfl
    have x2 : (96 + lenI l 0).toNat = 96 + (lenI l 0).toNat := by omega
    have x3 : (96 + lenI l 0 + lenI l 1).toNat = 96 + (lenI l 0).toNat + (lenI l 1).toNat := by omega
    rw [x1] at hn2
    rw [x2] at hn4
    rw [x3] at hn6
    have y1 := bvcut_lt hs.isB (a := 96) (n := (lenI l 0).toNat) (by omega)
    have y2 := bvcut_lt hs.isB (a := 96 + (lenI l 0).toNat) (n := (lenI l 1).toNat) (by omega)
    have y3 := bvcut_lt hs.isB (a := 96 + (lenI l 0).toNat + (lenI l 1).toNat) (n := (lenI l 2).toNat) (by omega)
    have z3 := bv_lt (isB_cutN hs.isB (96 + (lenI l 0).toNat + (lenI l 1).toNat) (lenI l 2).toNat)
    rw [cutN_length] at z3
    have hout : natOut 5 l = be (lenI l 2).toNat (modexpI (bv (cutN l 96 (lenI l 0).toNat)) (bv (cutN l (96 + (lenI l 0).toNat) (lenI l 1).toNat)) (bv (cutN l (96 + (lenI l 0).toNat + (lenI l 1).toNat) (lenI l 2).toNat))) := rfl
    have w1 := hn2.val
    have w3 := hn6.val
    generalize bv (cutN l 96 (lenI l 0).toNat) = B at *
    generalize bv (cutN l (96 + (lenI l 0).toNat) (lenI l 1).toNat) = E at *
    generalize bv (cutN l (96 + (lenI l 0).toNat + (lenI l 1).toNat) (lenI l 2).toNat) = M at *
    refine ypModExp_ok ((((hn2.ext he3).ext he4).ext he5).ext he6) ((hn4.ext he5).ext he6) hn6 y1 y2 y3 fun b n c h7 he7 hn7 => ?_; conv => whnf
    have hp0 : 0 ≤ modexpI B E M ∧ modexpI B E M ≤ M := modI_lt (Int.pow_nonneg w1) w3
    generalize hmL : (lenI l 2).toNat = mL at *
    have hplen := hn7.len_le (k := mL) (by omega)
    obtain ⟨A, hA, hdA, -⟩ := hn7
    have hla := hA.len
    refine MakeX.bytes mL (by omega) (by omega) fun m hm => ?_; conv => whnf
    have heA := (((((he1.trans he2).trans he3).trans he4).trans he5).trans he6).trans he7
    refine LoopX.st T_ok Hval.func118 (σ := Nat × List Int) (fun s => [(7, .int .u64 (lenI l 2)), (11, .slice (some ⟨m, 0, none⟩) mL mL), (53, .slice b n c), (54, .int .i64 n), (55, .int .i64 s.1)])
      (fun s h' => s.1 ≤ n ∧ s.2.length = mL ∧ isB s.2 ∧ h' = hput h7 m (bcells s.2, 5) ∧ ∀ j, j < mL → s.2.getD (mL - 1 - j) 0 = if j < s.1 then A.getD j 0 else 0) (fun s => n - s.1) (0, List.replicate mL 0)
      ⟨rfl, ?_, rfl, rfl, rfl, trivial⟩ ⟨Nat.zero_le _, by simp, isB_zeros _, rfl, fun j hj => ?_⟩ ?_
    · subst hmL; rfl
    · rw [getD_zeros]; simp
    rintro ⟨i, o⟩ ρ h' ⟨hi, hol, hob, rfl, heq⟩ ih
    simp only at hi hol hob heq ⊢
    conv => whnf
    have hA' := hA.ext (Ext.bd (x := (bcells o, 5)) hm)
    refine CondX.decI (fun hc => ?_) (fun hc => ?_) <;> conv => whnf
    · refine IdxX.rd hA'.rd (by omega) (by omega) fun b2 o2 e2 _ => ?_; conv => whnf
      refine LoadX.byte hA' e2 i rfl (by omega) rfl ?_; conv => whnf
      have hw : IntKind.i64.wrap (IntKind.i64.wrap (IntKind.i64.wrap (lenI l 2) - 1) - (i : Int)) = ((mL - 1 - i : Nat) : Int) := by
        rw [wrap_i64 (x := lenI l 2) (by omega) (by omega), wrap_i64 (x := lenI l 2 - 1) (by omega) (by omega), wrap_i64 (by omega) (by omega)]; omega
      rw [hw]
      refine IdxX.at (by omega) (by omega) ?_; conv => whnf
      refine StoreX.bix (mL - 1 - i) rfl rfl (by omega) ?_; conv => whnf
      have gd := hA.isB.get i
      refine ih (i + 1, o.set (mL - 1 - i) (A.getD i 0)) _ _ ⟨by dsimp only; omega, by simp [hol], hob.set gd.1 gd.2, rfl, ?_⟩ (by dsimp only; omega) ⟨rfl, rfl, rfl, rfl, ?_, trivial⟩
      · intro j hj
        dsimp only
        by_cases hji : j = i
        · subst hji; rw [getD_set_same (by omega), if_pos (by omega)]
        · rw [getD_set_other (by omega), heq j hj]
          by_cases h1 : j < i
          · rw [if_pos h1, if_pos (by omega)]
          · rw [if_neg h1, if_neg (by omega)]
      · exact congrArg (Value.int .i64) (wsucc (by omega))
    · have hc : i = n := by omega
      subst hc
      have ho : o = natOut 5 l := by
        rw [hout]
        have h1 : dv o.reverse = dv A := by
          rw [← pd_dv o.reverse (i := mL) (by simp [hol]), ← pd_dv A (i := mL) (by omega)]
          refine pd_congr fun j hj => ?_
          rw [getD_rev (by omega), hol, heq j hj]
          by_cases h1 : j < i
          · rw [if_pos h1]
          · rw [if_neg h1, getD_nil (by omega)]
        have h2 := be_bv hob
        unfold bv at h2
        rw [h1, hdA, hol] at h2
        exact h2.symm
      subst ho
      refine RetX.same (hk _ _ _ _ (heA.trans (Ext.bd hm)) ?_)
      exact own_all hob hol.symm (by omega)
end
end Go.Proofs.YgvalwGreat.X
