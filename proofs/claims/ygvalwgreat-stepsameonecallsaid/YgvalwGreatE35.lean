import Derived.Test.YgvalwGreatE34
set_option linter.unusedVariables false
set_option linter.unusedSimpArgs false
namespace Go.Proofs.YgvalwGreat.X
open Go

/-- How keys are mixed. -/
def foldN (a b : Nat) : Nat := (a ^^^ b) * 11400714819323198485 / 18446744073709551616 ^^^ (a ^^^ b) * 11400714819323198485 % 18446744073709551616
def homeA (l : List Int) : Nat := foldN (foldN (foldN (foldN 2611923443488327891 (bv ((l.drop 0).take 8)).toNat) (bv ((l.drop 8).take 8)).toNat) (bv ((l.drop 12).take 8)).toNat) 1376283091369227076 % 4096
def mixI (acct k : Nat) : Nat → Nat
  | 0 => foldN 2611923443488327891 acct
  | i + 1 => foldN (mixI acct k i) (lmN k i)
def mixS (acct k : Nat) : Nat := foldN (mixI acct k 4) 1376283091369227076
theorem foldN_lt {a b : Nat} (ha : a < 18446744073709551616) (hb : b < 18446744073709551616) : foldN a b < 18446744073709551616 := by
  have hx : a ^^^ b < 18446744073709551616 := Nat.xor_lt_two_pow (n := 64) ha hb
  exact Nat.xor_lt_two_pow (n := 64) (by omega) (by omega)
theorem mixI_lt {acct k : Nat} (h : acct < 18446744073709551616) : ∀ i, mixI acct k i < 18446744073709551616
  | 0 => foldN_lt (by decide) h
  | i + 1 => foldN_lt (mixI_lt h i) (lmN_lt k i)
section
variable {h : Hp} {K : Value → Hp → Prop} {x y z : Int} {a b : Nat} {f : Bool}

set_option maxRecDepth 100000 in
set_option maxHeartbeats 4000000 in
theorem fold_ok (ha : a < 18446744073709551616) (hb : b < 18446744073709551616) (hk : foldN a b < 18446744073709551616 → K (.int .u64 (foldN a b)) h) : CallX Hval.prog 327 [.int .u64 a, .int .u64 b] h K := by
  refine CallX.of_xf T_ok Hval.func327 rfl (by kernel_rfl) (Nat.le_of_ble_eq_true rfl) ?_; conv => whnf
  rw [xor64 ha hb]
  have hx : a ^^^ b < 18446744073709551616 := Nat.xor_lt_two_pow (n := 64) ha hb
  refine nMul64_ok (b := 11400714819323198485) hx (by decide) ?_; conv => whnf
  have hh : (a ^^^ b) * 11400714819323198485 / 18446744073709551616 < 18446744073709551616 := by omega
  have hl : (a ^^^ b) * 11400714819323198485 % 18446744073709551616 < 18446744073709551616 := by omega
  rw [xor64 hh hl]
  exact RetX.same (hk (Nat.xor_lt_two_pow (n := 64) hh hl))
set_option maxRecDepth 100000 in
set_option maxHeartbeats 4000000 in
theorem acctHome_ok {l : List Int} (hl : l.length = 20) (hB : isB l) (hk : K (.int .u32 (homeA l)) h) : CallX Hval.prog 227 [.agg (bcells l).toArray] h K := by
  refine CallX.of_xf T_ok Hval.func227 rfl (by kernel_rfl) (Nat.le_of_ble_eq_true rfl) ?_; conv => whnf
  refine BoxX.mk fun n1 hn1 => ?_; conv => whnf
  have hb1 : Byt (hput h n1 ((bcells l).toArray.toList, 31)) (some ⟨n1, 0, none⟩) 20 20 l := own_all hB hl.symm (by omega)
  refine be64_ok (base := some ⟨n1, 0, none⟩) (n := 20) (cap := 20) (o := 0) hb1 (by omega) ?_; conv => whnf
  refine be64_ok (base := some ⟨n1, 0, none⟩) (n := 20) (cap := 20) (o := 8) hb1 (by omega) ?_; conv => whnf
  refine be64_ok (base := some ⟨n1, 0, none⟩) (n := 20) (cap := 20) (o := 12) hb1 (by omega) ?_; conv => whnf
  have u0 := bvU hB 0; have u1 := bvU hB 8; have u2 := bvU hB 12
  unfold homeA at hk
  obtain ⟨c0, e0⟩ := Int.eq_ofNat_of_zero_le u0.1; obtain ⟨c1, e1⟩ := Int.eq_ofNat_of_zero_le u1.1; obtain ⟨c2, e2⟩ := Int.eq_ofNat_of_zero_le u2.1
  rw [e0, e1, e2] at hk ⊢
  rw [e0] at u0; rw [e1] at u1; rw [e2] at u2
  unfold U at u0 u1 u2
  simp only [Int.toNat_natCast] at hk
  refine fold_ok (a := 2611923443488327891) (b := c0) (by decide) (by omega) fun f0 => ?_; conv => whnf
  refine fold_ok (b := c1) f0 (by omega) fun f1 => ?_; conv => whnf
  refine fold_ok (b := c2) f1 (by omega) fun f2 => ?_; conv => whnf
  refine fold_ok (b := 1376283091369227076) f2 (by decide) fun f3 => ?_; conv => whnf
  repeat (refine Ob.mk (by first | decide | omega) ?_; conv => whnf)
  generalize foldN (foldN (foldN (foldN 2611923443488327891 c0) c1) c2) 1376283091369227076 = g at *
  refine RetX.drop (h' := h) (fun b z hbz => ?_) ?_
  · have := hn1 b z hbz
    rw [hput_ne (by omega)]; exact hbz
  refine cast (congrArg (fun v : Int => K (.int .u32 v) h) ?_) hk
  rw [show ((g : Int).tmod 4096) = _ from tmod_nat g 4096, wrap_u32]; omega
set_option maxRecDepth 100000 in
set_option maxHeartbeats 4000000 in
theorem mixSlot_ok (ha : a < 2 ^ 31) (hb : (b : Int) < W) (hk : K (.int .u64 (mixS a b)) h) : CallX Hval.prog 365 [.int .i32 a, .agg (wc b).toArray] h K := by
  refine CallX.of_xf T_ok Hval.func365 rfl (by kernel_rfl) (Nat.le_of_ble_eq_true rfl) ?_; conv => whnf
  refine BoxX.mk fun n1 hn1 => ?_; conv => whnf
  have ec : IntKind.u64.wrap (IntKind.u32.wrap (a : Int)) = (a : Int) := by rw [wrap_u32, wrap_u64']; omega
  rw [ec]
  refine fold_ok (a := 2611923443488327891) (b := a) (by decide) (by omega) fun f0 => ?_; conv => whnf
  repeat' (first
    | (refine Ob.mk (by first | decide | exact ⟨rfl, rfl⟩ | ((repeat (refine (ldV_ne (by omega)).trans ?_)); exact (ldV_same _ _ _ _ _ _ _).trans rfl)) ?_; conv => whnf)
    | (refine BoxX.on fun n hn hbd => ?_; conv => whnf)
    | (refine LoadX.of _ (by (repeat (refine (ldV_ne (by omega)).trans ?_)); exact (ldV_same _ _ _ _ _ _ _).trans rfl) ?_; conv => whnf)
    | (fail; conv => whnf)
    | (refine StoreX.same (Nat.le_of_ble_eq_true rfl) ?_; conv => whnf)
    | (refine StoreX.at (by (repeat (refine (hput_ne (by omega)).trans ?_)); exact hput_same ..) (Nat.le_of_ble_eq_true rfl) ?_; conv => whnf))
  have hm := mixI_lt (acct := a) (k := b) (by omega)
  refine LoopX.st T_ok Hval.func365 (σ := Nat) (fun i => [(5, .int .u64 (mixI a b i)), (12, .agg (wc b).toArray), (13, .int .i64 i)])
    (fun i h' => i ≤ 4 ∧ h' = hput h n1 (wc b, 75)) (fun i => 4 - i) 0
    ⟨rfl, rfl, rfl, trivial⟩ ⟨by omega, rfl⟩ ?_
  rintro i ρ h' ⟨hi, rfl⟩ ih
  conv => whnf
  refine CondX.decI (fun hlt => ?_) (fun hlt => ?_) <;> conv => whnf
  · have hlt : i < 4 := by omega
    refine Ob.mk ⟨by omega, by omega, rfl, rfl⟩ fun v hv => ?_; conv => whnf
    have ev : v = (lmN b i : Int) := by
      rw [Int.toNat_natCast] at hv
      rw [wcN b] at hv
      match i, hlt with
      | 0, _ => injection hv with hv; injection hv with _ hv; exact hv.symm
      | 1, _ => injection hv with hv; injection hv with _ hv; exact hv.symm
      | 2, _ => injection hv with hv; injection hv with _ hv; exact hv.symm
      | 3, _ => injection hv with hv; injection hv with _ hv; exact hv.symm
    subst ev
    refine fold_ok (hm i) (lmN_lt b i) fun f1 => ?_; conv => whnf
    exact ih (i + 1) _ _ ⟨by omega, rfl⟩ (by omega) ⟨rfl, rfl, congrArg (Value.int .i64) (wsucc (by omega)), trivial⟩
  · have hi : i = 4 := by omega
    subst hi
    refine fold_ok (b := 1376283091369227076) (hm 4) (by decide) fun f3 => ?_; conv => whnf
    refine RetX.drop (h' := h) (by intro b x hb; have hlt := hn1 b x hb; (repeat (rw [hput_ne (by omega)])); exact hb) ?_
    exact hk
set_option maxRecDepth 100000 in
set_option maxHeartbeats 4000000 in
theorem slotHome_ok (ha : a < 2 ^ 31) (hb : (b : Int) < W) (hk : K (.int .u32 ((mixS a b % 4096 : Nat) : Int)) h) : CallX Hval.prog 323 [.int .i32 a, .agg (wc b).toArray] h K := by
  refine CallX.of_xf T_ok Hval.func323 rfl (by kernel_rfl) (Nat.le_of_ble_eq_true rfl) ?_; conv => whnf
  refine BoxX.mk fun n1 hn1 => ?_; conv => whnf
  repeat' (first
    | (refine Ob.mk (by first | decide | exact ⟨rfl, rfl⟩ | ((repeat (refine (ldV_ne (by omega)).trans ?_)); exact (ldV_same _ _ _ _ _ _ _).trans rfl)) ?_; conv => whnf)
    | (refine BoxX.on fun n hn hbd => ?_; conv => whnf)
    | (refine LoadX.of _ (by (repeat (refine (ldV_ne (by omega)).trans ?_)); exact (ldV_same _ _ _ _ _ _ _).trans rfl) ?_; conv => whnf)
    | (refine mixSlot_ok (a := a) (b := b) ha hb ?_; conv => whnf)
    | (refine StoreX.same (Nat.le_of_ble_eq_true rfl) ?_; conv => whnf)
    | (refine StoreX.at (by (repeat (refine (hput_ne (by omega)).trans ?_)); exact hput_same ..) (Nat.le_of_ble_eq_true rfl) ?_; conv => whnf))
  refine RetX.drop (h' := h) (by intro b x hb; have hlt := hn1 b x hb; (repeat (rw [hput_ne (by omega)])); exact hb) ?_
  refine cast (congrArg (fun v : Int => K (.int .u32 v) h) ?_) hk
  rw [show ((mixS a b : Int).tmod 4096) = _ from tmod_nat _ 4096, wrap_u32]; omega
end
end Go.Proofs.YgvalwGreat.X
