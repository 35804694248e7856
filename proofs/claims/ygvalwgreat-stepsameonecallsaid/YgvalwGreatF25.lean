import Derived.Test.YgvalwGreatF24
set_option linter.unusedVariables false
set_option linter.unusedSimpArgs false
namespace Go.Proofs.YgvalwGreat.X
open Go

section
variable {h : Hp} {K : Value → Hp → Prop} {ba bb bc : Option Addr} {na ca nb cb nc cc : Nat} {x y z : Int}

/-- SSTORE where the slot was zero at the transaction's start: x now, y the new one. -/
def sstoreC (v n : Int) (cold : Bool) : Int := (if n = v ∨ v ≠ 0 then 100 else 20000) + (if cold then 2100 else 0)
def sstoreP (v n : Int) : Int := if n ≠ v ∧ v ≠ 0 ∧ n = 0 then 19900 else 0


set_option maxRecDepth 100000 in
set_option maxHeartbeats 4000000 in
theorem ypSstore_ok {cold : Bool} (hb : Nt h bb nb cb x) (hc : Nt h bc nc cc y)
    (hk : ∀ b n c b1 n1 c1 b2 n2 c2 h', Ext h h' → Nt h' b n c (sstoreC x y cold) → Nt h' b1 n1 c1 (sstoreP x y) → Nt h' b2 n2 c2 0 → K (.tuple #[.slice b n c, .slice b1 n1 c1, .slice b2 n2 c2]) h') :
    CallX Hval.prog 362 [.slice none 0 0, .slice bb nb cb, .slice bc nc cc, .bool cold] h K := by
  refine CallX.of_xf T_ok Hval.func362 rfl (by kernel_rfl) (Nat.le_of_ble_eq_true rfl) ?_; conv => whnf
  have hbg := big_lt
  refine cmpN hc hb ?_; conv => whnf
  rw [cmp_eq]
  refine cmpN hb (Nt_nil _) ?_; conv => whnf
  rw [cmp_eq]
  by_cases hsame : y = x
  · rw [decide_eq_true hsame]
    repeat (first | (refine CondX.tt ?_; conv => whnf) | (refine CondX.ff ?_; conv => whnf))
    refine num_ok (by omega) (by omega) fun b n c h1 he1 hn1 => ?_; conv => whnf
    refine CondX.mk (fun hcold => ?_) (fun hcold => ?_) <;> conv => whnf
    · subst hcold
      refine num_ok (by omega) (by omega) fun b n SAME h2 he2 hn2 => ?_; conv => whnf
      refine addN (hn1.ext he2) hn2 (by omega) fun b n SAME h3 he3 hn3 => ?_; conv => whnf
      have he := (he1.trans he2).trans he3
      replace hn1 := hn3
      clear hn3 hn2
      have hb2 := hb.ext he
      have hc2 := hc.ext he
      subst hsame
      repeat (first | (refine CondX.tt ?_; conv => whnf) | (refine CondX.ff ?_; conv => whnf))
      refine RetX.same (hk _ _ _ _ _ _ _ _ _ _ he ?_ ?_ (Nt_nil _))
      · simpa [sstoreC] using hn1
      · simpa [sstoreP] using Nt_nil _
    · subst hcold
      have he := he1
      have hb2 := hb.ext he
      have hc2 := hc.ext he
      subst hsame
      repeat (first | (refine CondX.tt ?_; conv => whnf) | (refine CondX.ff ?_; conv => whnf))
      refine RetX.same (hk _ _ _ _ _ _ _ _ _ _ he ?_ ?_ (Nt_nil _))
      · simpa [sstoreC] using hn1
      · simpa [sstoreP] using Nt_nil _
  · rw [decide_eq_false hsame]
    repeat (first | (refine CondX.tt ?_; conv => whnf) | (refine CondX.ff ?_; conv => whnf))
    by_cases hfirst : x = 0
    · rw [decide_eq_true hfirst]
      repeat (first | (refine CondX.tt ?_; conv => whnf) | (refine CondX.ff ?_; conv => whnf))
      refine isZero_ok (Nt_nil _) ?_; conv => whnf
      repeat (first | (refine CondX.tt ?_; conv => whnf) | (refine CondX.ff ?_; conv => whnf))
      refine num_ok (by omega) (by omega) fun b n c h1 he1 hn1 => ?_; conv => whnf
      refine CondX.mk (fun hcold => ?_) (fun hcold => ?_) <;> conv => whnf
      · subst hcold
        refine num_ok (by omega) (by omega) fun b n FIRST h2 he2 hn2 => ?_; conv => whnf
        refine addN (hn1.ext he2) hn2 (by omega) fun b n FIRST h3 he3 hn3 => ?_; conv => whnf
        have he := (he1.trans he2).trans he3
        replace hn1 := hn3
        clear hn3 hn2
        have hb2 := hb.ext he
        have hc2 := hc.ext he
        subst hfirst
        repeat (first | (refine CondX.tt ?_; conv => whnf) | (refine CondX.ff ?_; conv => whnf))
        refine isZero_ok (Nt_nil _) ?_; conv => whnf
        repeat (first | (refine CondX.tt ?_; conv => whnf) | (refine CondX.ff ?_; conv => whnf))
        refine RetX.same (hk _ _ _ _ _ _ _ _ _ _ he ?_ ?_ (Nt_nil _))
        · simpa [sstoreC, hsame] using hn1
        · simpa [sstoreP] using Nt_nil _
      · subst hcold
        have he := he1
        have hb2 := hb.ext he
        have hc2 := hc.ext he
        subst hfirst
        repeat (first | (refine CondX.tt ?_; conv => whnf) | (refine CondX.ff ?_; conv => whnf))
        refine isZero_ok (Nt_nil _) ?_; conv => whnf
        repeat (first | (refine CondX.tt ?_; conv => whnf) | (refine CondX.ff ?_; conv => whnf))
        refine RetX.same (hk _ _ _ _ _ _ _ _ _ _ he ?_ ?_ (Nt_nil _))
        · simpa [sstoreC, hsame] using hn1
        · simpa [sstoreP] using Nt_nil _
    · rw [decide_eq_false hfirst]
      repeat (first | (refine CondX.tt ?_; conv => whnf) | (refine CondX.ff ?_; conv => whnf))
      refine num_ok (by omega) (by omega) fun b n c h1 he1 hn1 => ?_; conv => whnf
      refine CondX.mk (fun hcold => ?_) (fun hcold => ?_) <;> conv => whnf
      · subst hcold
        refine num_ok (by omega) (by omega) fun b n LATER h2 he2 hn2 => ?_; conv => whnf
        refine addN (hn1.ext he2) hn2 (by omega) fun b n LATER h3 he3 hn3 => ?_; conv => whnf
        have he := (he1.trans he2).trans he3
        replace hn1 := hn3
        clear hn3 hn2
        have hb2 := hb.ext he
        have hc2 := hc.ext he
        repeat (first | (refine CondX.tt ?_; conv => whnf) | (refine CondX.ff ?_; conv => whnf))
        refine isZero_ok (Nt_nil _) ?_; conv => whnf
        repeat (first | (refine CondX.tt ?_; conv => whnf) | (refine CondX.ff ?_; conv => whnf))
        refine cmpN hc2 (Nt_nil _) ?_; conv => whnf
        rw [cmp_eq]
        refine CondX.decI (fun hz => ?_) (fun hz => ?_) <;> conv => whnf
        · subst hz
          refine num_ok (by omega) (by omega) fun b n c h4 he4 hn4 => ?_; conv => whnf
          refine isZero_ok (Nt_nil _) ?_; conv => whnf
          repeat (first | (refine CondX.tt ?_; conv => whnf) | (refine CondX.ff ?_; conv => whnf))
          refine addN (Nt_nil _) hn4 (by omega) fun b n c h5 he5 hn5 => ?_; conv => whnf
          refine RetX.same (hk _ _ _ _ _ _ _ _ _ _ ((he.trans he4).trans he5) ?_ ?_ (Nt_nil _))
          · have := (hn1.ext he4).ext he5
            simpa [sstoreC, hfirst] using this
          · simpa [sstoreP, hfirst, hsame] using hn5
        · refine RetX.same (hk _ _ _ _ _ _ _ _ _ _ he ?_ ?_ (Nt_nil _))
          · simpa [sstoreC, hfirst] using hn1
          · simpa [sstoreP, hz] using Nt_nil _
      · subst hcold
        have he := he1
        have hb2 := hb.ext he
        have hc2 := hc.ext he
        repeat (first | (refine CondX.tt ?_; conv => whnf) | (refine CondX.ff ?_; conv => whnf))
        refine isZero_ok (Nt_nil _) ?_; conv => whnf
        repeat (first | (refine CondX.tt ?_; conv => whnf) | (refine CondX.ff ?_; conv => whnf))
        refine cmpN hc2 (Nt_nil _) ?_; conv => whnf
        rw [cmp_eq]
        refine CondX.decI (fun hz => ?_) (fun hz => ?_) <;> conv => whnf
        · subst hz
          refine num_ok (by omega) (by omega) fun b n c h4 he4 hn4 => ?_; conv => whnf
          refine isZero_ok (Nt_nil _) ?_; conv => whnf
          repeat (first | (refine CondX.tt ?_; conv => whnf) | (refine CondX.ff ?_; conv => whnf))
          refine addN (Nt_nil _) hn4 (by omega) fun b n c h5 he5 hn5 => ?_; conv => whnf
          refine RetX.same (hk _ _ _ _ _ _ _ _ _ _ ((he.trans he4).trans he5) ?_ ?_ (Nt_nil _))
          · have := (hn1.ext he4).ext he5
            simpa [sstoreC, hfirst] using this
          · simpa [sstoreP, hfirst, hsame] using hn5
        · refine RetX.same (hk _ _ _ _ _ _ _ _ _ _ he ?_ ?_ (Nt_nil _))
          · simpa [sstoreC, hfirst] using hn1
          · simpa [sstoreP, hz] using Nt_nil _

theorem LoadX.blk {b o sz : Nat} {c : List Value} {t : TypeId} {KK : Value → Prop} (hb : h b = some (c, t)) (v : Value) (hv : c[o]? = some v) (hk : KK v) : LoadX false sz h b o KK := ⟨v, by simp [ldV, hb, hv], hk⟩

/-- The lengths of a modular exponentiation. -/
def lenI (l : List Int) (i : Nat) : Int := bv (cutN l (32 * i) 32)
def lensOk (l : List Int) : Bool := decide (lenI l 0 ≤ 64 ∧ lenI l 1 ≤ 64 ∧ lenI l 2 ≤ 64)

theorem bv_nonneg {l : List Int} (hb : isB l) : 0 ≤ bv l := dv_nonneg (isB_rev hb)
theorem bv_lt {l : List Int} (hb : isB l) : bv l < 256 ^ l.length := by
  have := dv_lt_pow (isB_rev hb)
  rwa [List.length_reverse] at this

def ulist (a b c : Int) : List Value := [.int .u64 a, .int .u64 b, .int .u64 c]

set_option maxRecDepth 100000 in
set_option maxHeartbeats 4000000 in
theorem ypLengths_ok {l : List Int} (hs : Byt h bc nc cc l) (hk0 : lensOk l = false → K (.tuple #[.int .u64 0, .int .u64 0, .int .u64 0, .bool false]) h)
    (hk : lensOk l = true → K (.tuple #[.int .u64 (lenI l 0), .int .u64 (lenI l 1), .int .u64 (lenI l 2), .bool true]) h) : CallX Hval.prog 202 [.slice bc nc cc] h K := by
  refine CallX.of_xf T_ok Hval.func202 rfl (by kernel_rfl) (Nat.le_of_ble_eq_true rfl) ?_; conv => whnf
  refine BoxX.mk fun m hm => ?_; conv => whnf
  have hmn : h m = none := hm.none (Nat.le_refl _)
  let v := fun (i j : Nat) => if j < i then lenI l j else 0
  refine LoopX.st T_ok Hval.func202 (σ := Nat) (fun i => [(0, .slice bc nc cc), (6, .pointer (some ⟨m, 0, none⟩)), (9, .int .i64 i)])
    (fun i h' => i ≤ 3 ∧ Ext h h' ∧ h' m = some (ulist (v i 0) (v i 1) (v i 2), 350) ∧ ∀ j, j < i → lenI l j ≤ 64) (fun i => 3 - i) 0
    ⟨rfl, rfl, rfl, trivial⟩ ⟨Nat.zero_le _, Ext.bd hm, hput_same .., fun j hj => by omega⟩ ?_
  rintro i ρ h' ⟨hi, he, hv, hle⟩ ih
  conv => whnf
  have hs' := hs.ext he
  refine CondX.mk (fun hp => ?_) (fun hp => ?_) <;> conv => whnf
  · have hp : i < 3 := by have := of_decide_eq_true hp; omega
    have e1 : IntKind.u64.wrap (IntKind.i64.wrap (32 * (i : Int))) = ((32 * i : Nat) : Int) := by
      rw [wrap_i64 (by omega) (by omega), wrap_u64']; omega
    rw [e1]
    refine part_ok hs' (by omega) (by omega) (by omega) (by omega) fun b n c h1 he1 hn1 => ?_; conv => whnf
    refine fromBE_ok hn1 fun b n c h2 he2 hn2 => ?_; conv => whnf
    have eL : bv (cutN l (Int.toNat ((32 * i : Nat) : Int)) (Int.toNat 32)) = lenI l i := by rw [Int.toNat_natCast]; rfl
    rw [eL] at hn2
    refine num_ok (by omega) (by omega) fun b n c h3 he3 hn3 => ?_; conv => whnf
    refine cmpN (hn2.ext he3) hn3 ?_; conv => whnf
    rw [cmp_gt]
    have heA := ((he.trans he1).trans he2).trans he3
    refine CondX.decI (fun hz => ?_) (fun hz => ?_) <;> conv => whnf
    · have : lensOk l = false := by
        rw [lensOk, decide_eq_false_iff_not]
        rintro ⟨h0, h1, h2⟩
        rcases (by omega : i = 0 ∨ i = 1 ∨ i = 2) with e | e | e <;> subst e <;> omega
      exact RetX.drop heA (hk0 this)
    · refine small_ok (hn2.ext he3) ?_; conv => whnf
      rw [if_pos (by omega)]
      refine Ob.mk (by first | decide | omega) ?_; conv => whnf
      refine StoreX.at (c := ulist (v i 0) (v i 1) (v i 2)) (t := 350) (he3 _ _ (he2 _ _ (he1 _ _ hv))) (by show 0 + (i : Int).toNat * 1 + 1 ≤ 3; omega) ?_; conv => whnf
      refine ih (i + 1) _ _ ⟨by omega, fun b x hb => ?_, ?_, fun j hj => ?_⟩ (by omega) ⟨rfl, rfl, ?_, trivial⟩
      · have : b ≠ m := by rintro rfl; rw [hmn] at hb; cases hb
        rw [hput_ne this]; exact heA _ _ hb
      · rw [hput_same]
        rcases (by omega : i = 0 ∨ i = 1 ∨ i = 2) with e | e | e <;> subst e <;> rfl
      · by_cases hji : j = i
        · subst hji; omega
        · exact hle j (by omega)
      · exact congrArg (Value.int .i64) (wsucc (by omega))
  · have hp : i = 3 := by have := of_decide_eq_false hp; omega
    subst hp
    have hok : lensOk l = true := decide_eq_true ⟨hle 0 (by omega), hle 1 (by omega), hle 2 (by omega)⟩
    refine DrawX.go T_ok hM Hval.func202 (tb := dr202) rfl (by kernel_rfl) ?_; conv => whnf
    have hv' : h' m = some (ulist (lenI l 0) (lenI l 1) (lenI l 2), 350) := hv
    refine Ob.mk (by first | decide | omega) ?_; conv => whnf
    refine LoadX.blk hv' (.int .u64 (lenI l 0)) rfl ?_; conv => whnf
    refine Ob.mk (by first | decide | omega) ?_; conv => whnf
    refine LoadX.blk hv' (.int .u64 (lenI l 1)) rfl ?_; conv => whnf
    refine Ob.mk (by first | decide | omega) ?_; conv => whnf
    refine LoadX.blk hv' (.int .u64 (lenI l 2)) rfl ?_; conv => whnf
    exact RetX.drop he (hk hok)

/-- What a natv contract costs. -/
def turnsI (l : List Int) : Int :=
  (if 1 < bitsI (bv (cutN l (96 + (lenI l 0).toNat) (min (lenI l 1) 32).toNat)) then (bitsI (bv (cutN l (96 + (lenI l 0).toNat) (min (lenI l 1) 32).toNat)) : Int) - 1 else 0) + (if 32 < lenI l 1 then 8 * (lenI l 1 - 32) else 0)
def wideI (l : List Int) : Int := (max (lenI l 0) (lenI l 2) + 7) / 8
def natCost (k : Int) (l : List Int) : Option Int :=
  if k = 4 then some (15 + 3 * (((l.length : Int) + 31) / 32)) else if k = 5 ∧ lensOk l = true then some (max 200 (wideI l * wideI l * max (turnsI l) 1 / 3)) else none

theorem lenI_nonneg {l : List Int} (hb : isB l) (i : Nat) : 0 ≤ lenI l i := bv_nonneg (isB_cutN hb _ _)


set_option maxRecDepth 100000 in
set_option maxHeartbeats 4000000 in
theorem ypNativeCost_ok {k : Int} {l : List Int} (hs : Byt h bc nc cc l) (hk0 : natCost k l = none → K (.tuple #[.slice none 0 0, .bool false]) h)
    (hk : ∀ y b n c h', natCost k l = some y → Ext h h' → Nt h' b n c y → K (.tuple #[.slice b n c, .bool true]) h') : CallX Hval.prog 117 [.int .u8 k, .slice bc nc cc] h K := by
  refine CallX.of_xf T_ok Hval.func117 rfl (by kernel_rfl) (Nat.le_of_ble_eq_true rfl) ?_; conv => whnf
  have hbg := big_lt
  have hl := hs.len
  have hr := hs.room
  refine CondX.eqI (fun h4 => ?_) (fun h4 => ?_) <;> conv => whnf
  · refine num_ok (by omega) (by omega) fun b n c h1 he1 hn1 => ?_; conv => whnf
    refine num_ok (by omega) (by omega) fun b n c h2 he2 hn2 => ?_; conv => whnf
    have e : IntKind.u64.wrap (nc : Int) = nc := by rw [wrap_u64']; omega
    rw [e]
    refine num_ok (by omega) (by omega) fun b n c h3 he3 hn3 => ?_; conv => whnf
    refine words_okN hn3 (by omega) fun b n c hh4 he4 hn4 => ?_; conv => whnf
    refine mulN ((hn2.ext he3).ext he4) hn4 (by omega) (by omega) fun b n c hh5 he5 hn5 => ?_; conv => whnf
    refine addN ((((hn1.ext he2).ext he3).ext he4).ext he5) hn5 (by omega) fun b n c h6 he6 hn6 => ?_; conv => whnf
    refine RetX.same (hk _ _ _ _ _ ?_ (((((he1.trans he2).trans he3).trans he4).trans he5).trans he6) hn6)
    rw [natCost, if_pos h4, hl]
  · refine CondX.eqI (fun h5 => ?_) (fun h5 => ?_) <;> conv => whnf
    · refine ypLengths_ok hs (fun hok => ?_) (fun hok => ?_) <;> conv => whnf
      · repeat (first | (refine CondX.tt ?_; conv => whnf) | (refine CondX.ff ?_; conv => whnf))
        exact RetX.same (hk0 (by rw [natCost, if_neg h4, if_neg (by simp [hok])]))
      · repeat (first | (refine CondX.tt ?_; conv => whnf) | (refine CondX.ff ?_; conv => whnf))
        have hb0 := lenI_nonneg hs.isB 0
        have hb1 := lenI_nonneg hs.isB 1
        have hb2 := lenI_nonneg hs.isB 2
        have hb3 : lenI l 0 ≤ 64 ∧ lenI l 1 ≤ 64 ∧ lenI l 2 ≤ 64 := of_decide_eq_true hok
        refine num_ok (by omega) (by omega) fun b n c h1 he1 hn1 => ?_; conv => whnf
        refine num_ok (by omega) (by omega) fun b n c h2 he2 hn2 => ?_; conv => whnf
        refine maxNat_ok (hn1.ext he2) hn2 fun b n c hn3 => ?_; conv => whnf
        refine num_ok (by omega) (by omega) fun b n c h3 he3 hn4 => ?_; conv => whnf
        refine addN (hn3.ext he3) hn4 (by omega) fun b n c h4' he4 hn5 => ?_; conv => whnf
        refine divided_ok hn5 (by omega) (by omega) (by omega) fun bw nw cw h5' he5 hw => ?_; conv => whnf
        have hwide : 0 ≤ wideI l ∧ wideI l ≤ 9 := by unfold wideI; omega
        have hww := mul_bd hwide.1 hwide.2 hwide.1 hwide.2
        have heW := (((he1.trans he2).trans he3).trans he4).trans he5
        have e1 : IntKind.u64.wrap (96 + lenI l 0) = 96 + lenI l 0 := by rw [wrap_u64']; omega
        have e2 : (if (32 : Int) < lenI l 1 then (32 : Int) else lenI l 1) = min (lenI l 1) 32 := by split <;> omega
        rw [e1, e2]
        refine part_ok (hs.ext heW) (by omega) (by omega) (by omega) (by omega) fun b n c h6 he6 hn6 => ?_; conv => whnf
        refine fromBE_ok hn6 fun b n c h6' he6' hn6' => ?_; conv => whnf
        have e3 : (96 + lenI l 0).toNat = 96 + (lenI l 0).toNat := by omega
        rw [e3] at hn6'
        generalize hE : bv (cutN l (96 + (lenI l 0).toNat) (min (lenI l 1) 32).toNat) = E at hn6'
        have hEb : E < 256 ^ 32 := by
          rw [← hE]
          have h1 := bv_lt (isB_cutN hs.isB (96 + (lenI l 0).toNat) (min (lenI l 1) 32).toNat)
          rw [cutN_length] at h1
          have h2 : (256 : Int) ^ (min (lenI l 1) 32).toNat ≤ 256 ^ 32 := by
            have := Nat.pow_le_pow_right (n := 256) (by decide) (show (min (lenI l 1) 32).toNat ≤ 32 by omega)
            exact_mod_cast this
          omega
        have hElen := hn6'.len_le hEb
        have hE0 := hn6'.val
        have hEbits : bitsI E ≤ 256 := bitsI_le hE0 (by
          have e8 : (256 : Int) ^ 32 = 2 ^ 256 := by decide
          rwa [e8] at hEb)
        refine bits_ok hn6' (by omega) ?_; conv => whnf
        have hwA := (hw.ext he6).ext he6'
        have heA := (heW.trans he6).trans he6'
        refine CondX.decI (fun hg => ?_) (fun hg => ?_) <;> conv => whnf
        · have e4 : IntKind.u64.wrap ((bitsI E : Int) - 1) = (bitsI E : Int) - 1 := by rw [wrap_u64']; omega
          rw [e4]
          refine num_ok (by omega) (by omega) fun b n c hA heB hnA => ?_; conv => whnf
          refine CondX.decI (fun hg2 => ?_) (fun hg2 => ?_) <;> conv => whnf
          · have e5 : IntKind.u64.wrap (8 * IntKind.u64.wrap (lenI l 1 - 32)) = 8 * (lenI l 1 - 32) := by rw [wrap_u64', wrap_u64']; omega
            rw [e5]
            refine num_ok (by omega) (by omega) fun b n c hB heC hnB => ?_; conv => whnf
            refine addN (hnA.ext heC) hnB (by omega) fun b n c hC heD hnC => ?_; conv => whnf
            have hT : turnsI l = (bitsI E : Int) - 1 + 8 * (lenI l 1 - 32) := by unfold turnsI; rw [hE, if_pos (by omega), if_pos (by omega)]
            have hturn := hnC
            rw [← hT] at hturn
            have hw5 := ((hwA.ext heB).ext heC).ext heD
            have heT := ((heA.trans heB).trans heC).trans heD
            have hw5 : Nt hC bw nw cw (wideI l) := hw5
            refine mulN hw5 hw5 (by omega) (by omega) fun b n c h7 he7 hn7 => ?_; conv => whnf
            refine num_ok (by omega) (by omega) fun b n c h8 he8 hn8 => ?_; conv => whnf
            refine maxNat_ok ((hturn.ext he7).ext he8) hn8 fun b n c hn9 => ?_; conv => whnf
            refine mulN (hn7.ext he8) hn9 (by omega) (by omega) fun b n c h9 he9 hn10 => ?_; conv => whnf
            refine num_ok (by omega) (by omega) fun b n c h10 he10 hn11 => ?_; conv => whnf
            have hwork := (mul_bd hww.1 hww.2 (show (0 : Int) ≤ max (turnsI l) 1 by omega) (show max (turnsI l) 1 ≤ 1000 by omega))
            refine divided_ok (hn10.ext he10) (by omega) (by omega) (by omega) fun b n c h11 he11 hn12 => ?_; conv => whnf
            refine maxNat_ok (hn11.ext he11) hn12 fun b n c hn13 => ?_; conv => whnf
            refine RetX.same (hk _ _ _ _ _ ?_ (((((heT.trans he7).trans he8).trans he9).trans he10).trans he11) hn13)
            rw [natCost, if_neg h4, if_pos ⟨h5, hok⟩]
          · have hT : turnsI l = (bitsI E : Int) - 1 := by unfold turnsI; rw [hE, if_pos (by omega), if_neg (by omega)]; omega
            have hturn := hnA
            rw [← hT] at hturn
            have heT := heA.trans heB
            have hw5 : Nt hA bw nw cw (wideI l) := hwA.ext heB
            refine mulN hw5 hw5 (by omega) (by omega) fun b n c h7 he7 hn7 => ?_; conv => whnf
            refine num_ok (by omega) (by omega) fun b n c h8 he8 hn8 => ?_; conv => whnf
            refine maxNat_ok ((hturn.ext he7).ext he8) hn8 fun b n c hn9 => ?_; conv => whnf
            refine mulN (hn7.ext he8) hn9 (by omega) (by omega) fun b n c h9 he9 hn10 => ?_; conv => whnf
            refine num_ok (by omega) (by omega) fun b n c h10 he10 hn11 => ?_; conv => whnf
            have hwork := (mul_bd hww.1 hww.2 (show (0 : Int) ≤ max (turnsI l) 1 by omega) (show max (turnsI l) 1 ≤ 1000 by omega))
            refine divided_ok (hn10.ext he10) (by omega) (by omega) (by omega) fun b n c h11 he11 hn12 => ?_; conv => whnf
            refine maxNat_ok (hn11.ext he11) hn12 fun b n c hn13 => ?_; conv => whnf
            refine RetX.same (hk _ _ _ _ _ ?_ (((((heT.trans he7).trans he8).trans he9).trans he10).trans he11) hn13)
            rw [natCost, if_neg h4, if_pos ⟨h5, hok⟩]
        · refine CondX.decI (fun hg2 => ?_) (fun hg2 => ?_) <;> conv => whnf
          · have e5 : IntKind.u64.wrap (8 * IntKind.u64.wrap (lenI l 1 - 32)) = 8 * (lenI l 1 - 32) := by rw [wrap_u64', wrap_u64']; omega
            rw [e5]
            refine num_ok (by omega) (by omega) fun b n c hB heC hnB => ?_; conv => whnf
            refine addN (Nt_nil _) hnB (by omega) fun b n c hC heD hnC => ?_; conv => whnf
            have hT : turnsI l = 0 + 8 * (lenI l 1 - 32) := by unfold turnsI; rw [hE, if_neg (by omega), if_pos (by omega)]
            have hturn := hnC
            rw [← hT] at hturn
            have heT := (heA.trans heC).trans heD
            have hw5 : Nt hC bw nw cw (wideI l) := (hwA.ext heC).ext heD
            refine mulN hw5 hw5 (by omega) (by omega) fun b n c h7 he7 hn7 => ?_; conv => whnf
            refine num_ok (by omega) (by omega) fun b n c h8 he8 hn8 => ?_; conv => whnf
            refine maxNat_ok ((hturn.ext he7).ext he8) hn8 fun b n c hn9 => ?_; conv => whnf
            refine mulN (hn7.ext he8) hn9 (by omega) (by omega) fun b n c h9 he9 hn10 => ?_; conv => whnf
            refine num_ok (by omega) (by omega) fun b n c h10 he10 hn11 => ?_; conv => whnf
            have hwork := (mul_bd hww.1 hww.2 (show (0 : Int) ≤ max (turnsI l) 1 by omega) (show max (turnsI l) 1 ≤ 1000 by omega))
            refine divided_ok (hn10.ext he10) (by omega) (by omega) (by omega) fun b n c h11 he11 hn12 => ?_; conv => whnf
            refine maxNat_ok (hn11.ext he11) hn12 fun b n c hn13 => ?_; conv => whnf
            refine RetX.same (hk _ _ _ _ _ ?_ (((((heT.trans he7).trans he8).trans he9).trans he10).trans he11) hn13)
            rw [natCost, if_neg h4, if_pos ⟨h5, hok⟩]
          · have hT : turnsI l = 0 := by unfold turnsI; rw [hE, if_neg (by omega), if_neg (by omega)]; rfl
            have hturn := Nt_nil h6'
            rw [← hT] at hturn
            have heT := heA
            have hw5 : Nt h6' bw nw cw (wideI l) := hwA
            refine mulN hw5 hw5 (by omega) (by omega) fun b n c h7 he7 hn7 => ?_; conv => whnf
            refine num_ok (by omega) (by omega) fun b n c h8 he8 hn8 => ?_; conv => whnf
            refine maxNat_ok ((hturn.ext he7).ext he8) hn8 fun b n c hn9 => ?_; conv => whnf
            refine mulN (hn7.ext he8) hn9 (by omega) (by omega) fun b n c h9 he9 hn10 => ?_; conv => whnf
            refine num_ok (by omega) (by omega) fun b n c h10 he10 hn11 => ?_; conv => whnf
            have hwork := (mul_bd hww.1 hww.2 (show (0 : Int) ≤ max (turnsI l) 1 by omega) (show max (turnsI l) 1 ≤ 1000 by omega))
            refine divided_ok (hn10.ext he10) (by omega) (by omega) (by omega) fun b n c h11 he11 hn12 => ?_; conv => whnf
            refine maxNat_ok (hn11.ext he11) hn12 fun b n c hn13 => ?_; conv => whnf
            refine RetX.same (hk _ _ _ _ _ ?_ (((((heT.trans he7).trans he8).trans he9).trans he10).trans he11) hn13)
            rw [natCost, if_neg h4, if_pos ⟨h5, hok⟩]
    · exact RetX.same (hk0 (by rw [natCost, if_neg h4, if_neg (by simp [h5])]))
end
end Go.Proofs.YgvalwGreat.X
