import Derived.Test.YgvalwGreatE18
set_option linter.unusedVariables false
set_option linter.unusedSimpArgs false
namespace Go.Proofs.YgvalwGreat.X
open Go

section
variable {h : Hp} {K : Value → Hp → Prop} {preU postU preV postV : List Value} {lu lV : List Int} {mu mv n j Nu Nv capu capv : Nat} {tu tv : TypeId}
set_option maxRecDepth 100000 in
set_option maxHeartbeats 4000000 in
theorem midHolds_ok (hu : h mu = some (preU ++ (ul lu ++ postU), tu)) (hv : h mv = some (preV ++ (ul lV ++ postV), tv)) (hLu : isL lu) (hLv : isL lV) (hnu : lu.length = Nu) (hnv : lV.length = Nv) (hn1 : 1 ≤ n) (hn2 : n ≤ Nv) (hjn : j + n < Nu) (hN : Nu < 100) (htop : 9223372036854775808 ≤ lV.getD (n - 1) 0) (hz : ∀ i, j + n + 1 ≤ i → i < Nu → lu.getD i 0 = 0)
    (hlt : lv ((lu.drop (j + 1)).take n) < lv (lV.take n)) (hk : K (.bool true) h) :
    CallX Hval.prog 390 [.slice (some ⟨mu, preU.length, none⟩) Nu capu, .slice (some ⟨mv, preV.length, none⟩) Nv capv, .int .u8 n, .int .u8 j] h K := by
  refine CallX.of_xf T_ok Hval.func390 rfl (by kernel_rfl) (Nat.le_of_ble_eq_true rfl) ?_; conv => whnf
  have e1 : IntKind.u8.wrap (((n : Nat) : Int) - 1) = ((n - 1 : Nat) : Int) := by rw [wrap_u8]; omega
  rw [e1]
  refine IdxX.at (by omega) (by omega) ?_; conv => whnf
  refine LoadX.lim hv (n - 1) (by rw [Int.toNat_natCast, show (24, y24).snd.size = 1 from rfl, Nat.mul_one]) (by omega) ?_; conv => whnf
  repeat (refine Ob.mk (by first | decide | omega) ?_; conv => whnf)
  have b1 := hLv.get (n - 1)
  have s63 : (lV.getD (n - 1) 0).fdiv (2 ^ min (Int.toNat 63) IntKind.u64.bits) = lV.getD (n - 1) 0 / 9223372036854775808 := shr63 b1.1
  rw [s63]
  refine CondX.eqF (by omega) ?_; conv => whnf
  have e2 : IntKind.i64.wrap (IntKind.i64.wrap (IntKind.i64.wrap ((j : Nat) : Int) + IntKind.i64.wrap ((n : Nat) : Int)) + 1) = ((j + n + 1 : Nat) : Int) := by rw [wrap_i64 (x := ((j : Nat) : Int)) (by omega) (by omega), wrap_i64 (x := ((n : Nat) : Int)) (by omega) (by omega), wrap_i64 (x := ((j : Nat) : Int) + ((n : Nat) : Int)) (by omega) (by omega), wrap_i64 (by omega) (by omega)]; omega
  rw [e2]
  refine LoopX.st T_ok Hval.func390 (σ := Nat) (fun i => [(0, .slice (some ⟨mu, preU.length, none⟩) Nu capu), (1, .slice (some ⟨mv, preV.length, none⟩) Nv capv), (2, .int .u8 n), (3, .int .u8 j), (9, .int .i64 i)]) (fun i h' => h' = h ∧ j + n + 1 ≤ i ∧ i ≤ Nu) (fun i => Nu - i) (j + n + 1) ⟨rfl, rfl, rfl, rfl, rfl, trivial⟩ ⟨rfl, Nat.le_refl _, by omega⟩ ?_
  rintro i ρ h' ⟨rfl, hi1, hi2⟩ ih
  conv => whnf
  refine CondX.decI (fun hc => ?_) (fun hc => ?_) <;> conv => whnf
  · refine IdxX.at (by omega) (by omega) ?_; conv => whnf
    refine LoadX.lim hu i (by rw [Int.toNat_natCast, show (24, y24).snd.size = 1 from rfl, Nat.mul_one]) (by omega) ?_; conv => whnf
    rw [hz i hi1 (by omega)]
    conv => whnf
    repeat (first | (refine CondX.tt ?_; conv => whnf) | (refine CondX.ff ?_; conv => whnf))
    exact ih (i + 1) _ _ ⟨rfl, by omega, by omega⟩ (by omega) ⟨rfl, rfl, rfl, rfl, congrArg (Value.int .i64) (wsucc (by omega)), trivial⟩
  · clear ih
    refine LoopX.st T_ok Hval.func390 (σ := Nat) (fun i => [(0, .slice (some ⟨mu, preU.length, none⟩) Nu capu), (1, .slice (some ⟨mv, preV.length, none⟩) Nv capv), (3, .int .u8 j), (10, .int .u8 i)]) (fun i h'' => h'' = h' ∧ i ≤ n ∧ lv ((lu.drop (j + 1)).take i) < lv (lV.take i)) (fun i => i) n ⟨rfl, rfl, rfl, rfl, trivial⟩ ⟨rfl, Nat.le_refl _, hlt⟩ ?_
    rintro i ρ2 h2 ⟨rfl, hi3, hl3⟩ ih
    conv => whnf
    refine CondX.decI (fun hc2 => ?_) (fun hc2 => ?_) <;> conv => whnf
    · have e3 : IntKind.u8.wrap (((j : Nat) : Int) + ((i : Nat) : Int)) = ((j + i : Nat) : Int) := by rw [wrap_u8]; omega
      have e4 : IntKind.u8.wrap (((i : Nat) : Int) - 1) = ((i - 1 : Nat) : Int) := by rw [wrap_u8]; omega
      have hgu : (lu.drop (j + 1)).getD (i - 1) 0 = lu.getD (j + i) 0 := by
        rw [List.getD_eq_getElem?_getD, List.getElem?_drop, ← List.getD_eq_getElem?_getD]
        congr 1; omega
      have hd1 : lv ((lu.drop (j + 1)).take i) = lv ((lu.drop (j + 1)).take (i - 1)) + 18446744073709551616 ^ (i - 1) * lu.getD (j + i) 0 := by
        rw [← hgu, ← lv_take_succ (by simp; omega), show i - 1 + 1 = i by omega]
      have hd2 : lv (lV.take i) = lv (lV.take (i - 1)) + 18446744073709551616 ^ (i - 1) * lV.getD (i - 1) 0 := by
        rw [← lv_take_succ (by omega), show i - 1 + 1 = i by omega]
      have t1 := lv_bd (l := (lu.drop (j + 1)).take (i - 1)) fun x hx => hLu x (List.mem_of_mem_drop (List.mem_of_mem_take hx))
      have t2 := lv_bd (l := lV.take (i - 1)) fun x hx => hLv x (List.mem_of_mem_take hx)
      rw [List.length_take, List.length_drop, Nat.min_eq_left (by omega)] at t1
      rw [List.length_take, Nat.min_eq_left (by omega)] at t2
      have hU := hLu.get (j + i)
      have hV := hLv.get (i - 1)
      rw [hd1, hd2] at hl3
      have hle : lu.getD (j + i) 0 ≤ lV.getD (i - 1) 0 := by
        refine Int.not_lt.1 fun hgt => ?_
        have := Int.mul_le_mul_of_nonneg_left (show lV.getD (i - 1) 0 + 1 ≤ lu.getD (j + i) 0 by omega) (show (0 : Int) ≤ 18446744073709551616 ^ (i - 1) from Int.le_of_lt (Int.pow_pos (by decide)))
        rw [Int.mul_add, Int.mul_one] at this
        generalize (18446744073709551616 : Int) ^ (i - 1) * lu.getD (j + i) 0 = p1 at *
        generalize (18446744073709551616 : Int) ^ (i - 1) * lV.getD (i - 1) 0 = p2 at *
        generalize (18446744073709551616 : Int) ^ (i - 1) = p3 at *
        omega
      refine DrawX.go T_ok hM Hval.func390 (tb := dr390) rfl (by kernel_rfl) ?_; conv => whnf
      rw [e3]
      refine IdxX.at (by omega) (by omega) ?_; conv => whnf
      refine LoadX.lim hu (j + i) (by rw [Int.toNat_natCast, show (24, y24).snd.size = 1 from rfl, Nat.mul_one]) (by omega) ?_; conv => whnf
      rw [e4]
      refine IdxX.at (by omega) (by omega) ?_; conv => whnf
      refine LoadX.lim hv (i - 1) (by rw [Int.toNat_natCast, show (24, y24).snd.size = 1 from rfl, Nat.mul_one]) (by omega) ?_; conv => whnf
      refine CondX.neI (fun hne => ?_) (fun heq => ?_) <;> conv => whnf
      · refine DrawX.go T_ok hM Hval.func390 (tb := dr390) rfl (by kernel_rfl) ?_; conv => whnf
        rw [e3]
        refine IdxX.at (by omega) (by omega) ?_; conv => whnf
        refine LoadX.lim hu (j + i) (by rw [Int.toNat_natCast, show (24, y24).snd.size = 1 from rfl, Nat.mul_one]) (by omega) ?_; conv => whnf
        rw [e4]
        refine IdxX.at (by omega) (by omega) ?_; conv => whnf
        refine LoadX.lim hv (i - 1) (by rw [Int.toNat_natCast, show (24, y24).snd.size = 1 from rfl, Nat.mul_one]) (by omega) ?_; conv => whnf
        rw [decide_eq_true (show lu.getD (j + i) 0 < lV.getD (i - 1) 0 by omega)]
        exact RetX.same hk
      · refine ih (i - 1) _ _ ⟨rfl, by omega, ?_⟩ (by omega) ⟨rfl, rfl, rfl, congrArg (Value.int .u8) e4, trivial⟩
        rw [heq] at hl3
        omega
    · have hi0 : i = 0 := by omega
      subst hi0
      simp [lv] at hl3
end
end Go.Proofs.YgvalwGreat.X
