import Derived.Test.YgvalwGreatE28
set_option linter.unusedVariables false
set_option linter.unusedSimpArgs false
namespace Go.Proofs.YgvalwGreat.X
open Go

theorem upto_zero {f : Nat → Nat} {z q : Nat} (hz : ∀ k, k < q → f k = z) : upto f z q = [(z : Int), z, z, z] := by
  unfold upto
  have e : ∀ k, (if k < q then f k else z) = z := fun k => by split; exact hz k ‹_›; rfl
  rw [e, e, e, e]
theorem upto_all {f : Nat → Nat} {z : Nat} : upto f z 4 = [(f 0 : Int), f 1, f 2, f 3] := rfl
section
variable {h : Hp} {K : Value → Hp → Prop} {x y z : Int} {a b : Nat}

set_option maxRecDepth 100000 in
set_option maxHeartbeats 4000000 in
theorem eShl_ok (ha : (a : Int) < W) (hb : (b : Int) < W) (hk : K (.agg (wc (shiftI 27 a b)).toArray) h) : CallX Hval.prog 272 [.agg (wc a).toArray, .agg (wc b).toArray] h K := by
  rw [wcL b]
  refine CallX.of_xf T_ok Hval.func272 rfl (by kernel_rfl) (Nat.le_of_ble_eq_true rfl) ?_; conv => whnf
  refine BoxX.mk fun n1 hn1 => ?_; conv => whnf
  refine BoxX.on fun n2 hn2 hbd2 => ?_; conv => whnf
  refine BoxX.on fun n3 hn3 hbd3 => ?_; conv => whnf
  repeat' (first
    | (refine Ob.mk (by first | decide | exact ⟨rfl, rfl⟩ | ((repeat (refine (ldV_ne (by omega)).trans ?_)); exact (ldV_same _ _ _ _ _ _ _).trans rfl)) ?_; conv => whnf)
    | (refine BoxX.on fun n hn hbd => ?_; conv => whnf)
    | (refine LoadX.of _ (by (repeat (refine (ldV_ne (by omega)).trans ?_)); exact (ldV_same _ _ _ _ _ _ _).trans rfl) ?_; conv => whnf)
    | (refine eBelow_ok (a := a) ha (by omega) (by omega) ?_; conv => whnf)
    | (refine StoreX.same (Nat.le_of_ble_eq_true rfl) ?_; conv => whnf)
    | (refine StoreX.at (by (repeat (refine (hput_ne (by omega)).trans ?_)); exact hput_same ..) (Nat.le_of_ble_eq_true rfl) ?_; conv => whnf))
  by_cases hc : (a : Int) < 256
  · rw [decide_eq_true hc, if_pos (by omega)]
    repeat (first | (refine CondX.tt ?_; conv => whnf) | (refine CondX.ff ?_; conv => whnf))
    refine BoxX.on fun n4 hn4 hbd4 => ?_; conv => whnf
    refine Ob.mk (by first | decide | omega) ?_; conv => whnf
    have e1 : IntKind.u64.wrap ((a : Int).tdiv 64) = ((a / 64 : Nat) : Int) := by
      rw [wrap_u64', show (64 : Int) = ((64 : Nat) : Int) from rfl, tdiv_nat]; omega
    have e2 : (a : Int).tmod 64 = ((a % 64 : Nat) : Int) := tmod_nat a 64
    rw [e1]
    obtain ⟨h1, hh1⟩ : ∃ h1 : Hp, h1 = hput (hput (hput h n1 ((wc a).toArray.toList, 75)) n2 ((ul [(lmN b 0 : Int), lmN b 1, lmN b 2, lmN b 3]).toArray.toList, 75)) n3 ((75, y75).snd.zero, 75) := ⟨_, rfl⟩
    erw [← hh1]
    have p2 : h1 n2 = some (ul [(lmN b 0 : Int), lmN b 1, lmN b 2, lmN b 3], 75) := by rw [hh1, hput_ne (by omega), hput_same]
    have p3 : h1 n3 = some (ul [0, 0, 0, 0], 75) := by rw [hh1, hput_same]; rfl
    have hold : ∀ b z, h b = some z → h1 b = some z ∧ b < n1 := fun b z hbz => by
      have := hn1 b z hbz
      rw [hh1, hput_ne (by omega), hput_ne (by omega), hput_ne (by omega)]; exact ⟨hbz, this⟩
    clear hh1
    refine LoopX.st T_ok Hval.func272 (σ := Nat) (fun i => [(3, .pointer (some ⟨n2, 0, none⟩)), (4, .pointer (some ⟨n3, 0, none⟩)), (5, .int .u64 a), (7, .pointer (some ⟨n4, 0, none⟩)), (8, .int .u64 i)])
      (fun i h' => (a / 64 ≤ i ∧ i ≤ 4) ∧ h' = hput h1 n4 (ul (upto (lmN (b <<< a)) 0 i), 75)) (fun i => 4 - i) (a / 64)
      ⟨rfl, rfl, rfl, rfl, rfl, trivial⟩ ⟨⟨by omega, by omega⟩, ?_⟩ ?_
    · rw [upto_zero fun k hk => lmN_shl0 (q := a / 64) (r := a % 64) (by omega) hk]; rfl
    · rintro i ρ h' ⟨⟨hi0, hi4⟩, rfl⟩ ih
      conv => whnf
      refine CondX.decI (fun hlt => ?_) (fun hlt => ?_) <;> conv => whnf
      · have hlt : i < 4 := by omega
        repeat (refine Ob.mk (by first | decide | omega) ?_; conv => whnf)
        have e4 : IntKind.u64.wrap ((i : Int) - ((a / 64 : Nat) : Int)) = ((i - a / 64 : Nat) : Int) := by rw [wrap_u64']; omega
        rw [e1, e4]
        repeat (refine Ob.mk (by first | decide | omega) ?_; conv => whnf)
        have p2' : hput h1 n4 (ul (upto (lmN (b <<< a)) 0 i), 75) n2 = some (ul [(lmN b 0 : Int), lmN b 1, lmN b 2, lmN b 3], 75) := by rw [hput_ne (by omega)]; exact p2
        refine LoadX.lim0 p2' (i - a / 64) (by simp [show y24.size = 1 from rfl]) (by show i - a / 64 < 4; omega) ?_; conv => whnf
        rw [limbsN_get b (by omega)]
        repeat (refine Ob.mk (by first | decide | omega) ?_; conv => whnf)
        rw [e2]
        repeat (refine Ob.mk (by first | decide | omega) ?_; conv => whnf)
        rw [shlM (by omega)]
        repeat (refine Ob.mk (by first | decide | omega) ?_; conv => whnf)
        refine StoreX.lim0 (hput_same ..) i (by simp [show y24.size = 1 from rfl]) hlt ?_; conv => whnf
        rw [hput_hput]
        repeat (refine Ob.mk (by first | decide | omega) ?_; conv => whnf)
        rw [e1]
        have st := lmN_shl (b := b) (s := a) (q := a / 64) (r := a % 64) (i := i) (by omega) (by omega) hi0
        have hm : lmN b (i - a / 64) * 2 ^ (a % 64) % 18446744073709551616 < 2 ^ 64 := Nat.mod_lt _ (by decide)
        refine CondX.decI (fun hq => ?_) (fun hq => ?_) <;> conv => whnf
        · have hq : a / 64 < i := by omega
          rw [if_pos hq] at st
          refine DrawX.go T_ok hM Hval.func272 (tb := dr272) rfl (by kernel_rfl) ?_; conv => whnf
          repeat (refine Ob.mk (by first | decide | omega) ?_; conv => whnf)
          refine LoadX.lim0 (hput_same ..) i (by simp [show y24.size = 1 from rfl]) (by simp [upto]; exact hlt) ?_; conv => whnf
          rw [List.getD_eq_getElem?_getD, List.getElem?_set_self (by simp [upto]; exact hlt), Option.getD_some]
          repeat (refine Ob.mk (by first | decide | omega) ?_; conv => whnf)
          rw [e1, e4]
          have e5 : IntKind.u64.wrap (((i - a / 64 : Nat) : Int) - 1) = ((i - a / 64 - 1 : Nat) : Int) := by rw [wrap_u64']; omega
          rw [e5]
          repeat (refine Ob.mk (by first | decide | omega) ?_; conv => whnf)
          have p2'' : ∀ z, hput h1 n4 z n2 = some (ul [(lmN b 0 : Int), lmN b 1, lmN b 2, lmN b 3], 75) := fun z => by rw [hput_ne (by omega)]; exact p2
          refine LoadX.lim0 (p2'' _) (i - a / 64 - 1) (by simp [show y24.size = 1 from rfl]) (by show i - a / 64 - 1 < 4; omega) ?_; conv => whnf
          rw [limbsN_get b (by omega)]
          repeat (refine Ob.mk (by first | decide | omega) ?_; conv => whnf)
          rw [e2]
          have e6 : IntKind.u64.wrap (64 - ((a % 64 : Nat) : Int)) = ((64 - a % 64 : Nat) : Int) := by rw [wrap_u64']; omega
          rw [e6]
          repeat (refine Ob.mk (by first | decide | omega) ?_; conv => whnf)
          have hl := lmN_lt b (i - a / 64 - 1)
          have hd := Nat.div_le_self (lmN b (i - a / 64 - 1)) (2 ^ (64 - a % 64))
          rw [shrN (by omega), or64 hm (by omega), ← st]
          repeat (refine Ob.mk (by first | decide | omega) ?_; conv => whnf)
          refine StoreX.lim0 (hput_same ..) i (by simp [show y24.size = 1 from rfl]) (by simp [upto]; exact hlt) ?_; conv => whnf
          rw [hput_hput, List.set_set, upto_set hlt rfl]
          refine ih (i + 1) _ _ ⟨⟨by omega, by omega⟩, rfl⟩ (by omega) ⟨rfl, rfl, rfl, rfl, congrArg (Value.int .u64) (by rw [wrap_u64']; omega), trivial⟩
        · have hq : ¬ a / 64 < i := by omega
          rw [if_neg hq, Nat.or_zero] at st
          rw [← st, upto_set hlt rfl]
          refine ih (i + 1) _ _ ⟨⟨by omega, by omega⟩, rfl⟩ (by omega) ⟨rfl, rfl, rfl, rfl, congrArg (Value.int .u64) (by rw [wrap_u64']; omega), trivial⟩
      · have hi : i = 4 := by omega
        subst hi
        refine LoadX.all (c := ul (upto (lmN (b <<< a)) 0 4)) (hput_same ..) rfl ?_; conv => whnf
        refine Ob.mk ⟨rfl, rfl⟩ ?_; conv => whnf
        refine StoreX.at (c := ul [0, 0, 0, 0]) (t := 75) (by rw [hput_ne (by omega)]; exact p3) (Nat.le_of_ble_eq_true rfl) ?_; conv => whnf
        refine LoadX.of _ ((ldV_same _ _ _ _ _ _ _).trans rfl) ?_; conv => whnf
        refine RetX.drop (h' := h) (fun b z hbz => ?_) ?_
        · have := hold b z hbz
          rw [hput_ne (by omega), hput_ne (by omega)]; exact this.1
        have e : shiftI 27 a b = ((b <<< a % 2 ^ 256 : Nat) : Int) := by
          unfold shiftI; rw [if_pos rfl, show (min (a : Int) 256).toNat = a by omega, W_pow, Nat.shiftLeft_eq]; simp
        rw [e, wcL, lmN_W _ _ (by omega), lmN_W _ _ (by omega), lmN_W _ _ (by omega), lmN_W _ _ (by omega)] at hk
        exact hk
  · rw [decide_eq_false hc]
    repeat (first | (refine CondX.tt ?_; conv => whnf) | (refine CondX.ff ?_; conv => whnf))
    repeat' (first
      | (refine Ob.mk (by first | decide | exact ⟨rfl, rfl⟩ | ((repeat (refine (ldV_ne (by omega)).trans ?_)); exact (ldV_same _ _ _ _ _ _ _).trans rfl)) ?_; conv => whnf)
      | (refine BoxX.on fun n hn hbd => ?_; conv => whnf)
      | (refine LoadX.of _ (by (repeat (refine (ldV_ne (by omega)).trans ?_)); exact (ldV_same _ _ _ _ _ _ _).trans rfl) ?_; conv => whnf)
      | (fail; conv => whnf)
      | (refine StoreX.same (Nat.le_of_ble_eq_true rfl) ?_; conv => whnf)
      | (refine StoreX.at (by (repeat (refine (hput_ne (by omega)).trans ?_)); exact hput_same ..) (Nat.le_of_ble_eq_true rfl) ?_; conv => whnf))
    refine RetX.drop (h' := h) (by intro b x hb; have hlt := hn1 b x hb; (repeat (rw [hput_ne (by omega)])); exact hb) ?_
    have e : shiftI 27 a b = 0 := by unfold shiftI; rw [if_pos rfl, show (min (a : Int) 256).toNat = 256 by omega, ← W_pow, Int.mul_emod_left]
    rw [e] at hk
    exact hk
end
end Go.Proofs.YgvalwGreat.X
