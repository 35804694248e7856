import Derived.Test.YgvalwGreatN2
set_option linter.unusedVariables false
set_option linter.unusedSimpArgs false
namespace Go.Proofs.YgvalwGreat.X
open Go

theorem pd_top {l : List Int} {i : Nat} : pd l (i + 1) = pd l i + l.getD i 0 * 256 ^ i := rfl

/-- The value of the digits from i on. -/
def hd (l : List Int) (i : Nat) : Int := dv (l.drop i)
theorem hd_step {l : List Int} {i : Nat} (h : 0 < i) : hd l (i - 1) = l.getD (i - 1) 0 + 256 * hd l i := by
  unfold hd
  by_cases hi : i - 1 < l.length
  · rw [List.drop_eq_getElem_cons hi, dv]
    have : i - 1 + 1 = i := by omega
    rw [this]; simp [hi]
  · rw [List.drop_eq_nil_of_le (by omega), List.drop_eq_nil_of_le (by omega)]
    simp [dv, List.getElem?_eq_none (show l.length ≤ i - 1 by omega)]

set_option maxRecDepth 100000 in
theorem u64_ok {h : Hp} {K : Value → Hp → Prop} {base : Option Addr} {len cap : Nat} {l : List Int} (hb : Byt h base len cap l)
    (hk0 : 18446744073709551616 ≤ dv l → K (.tuple #[.int .u64 0, .bool false]) h)
    (hk : dv l < 18446744073709551616 → K (.tuple #[.int .u64 (dv l), .bool true]) h) : CallX Hval.prog 110 [.slice base len cap] h K := by
  refine CallX.of_xf T_ok Hval.func110 rfl (by kernel_rfl) (Nat.le_of_ble_eq_true rfl) ?_; conv => whnf
  refine trim_ok hb fun k A _ _ hA hda hta => ?_; conv => whnf
  have hla := hA.len
  have hra := hA.room
  rw [← hda] at hk0 hk
  refine CondX.mk (fun hc => ?_) (fun hc => ?_) <;> conv => whnf
  · have hc : 8 < k := by have := of_decide_eq_true hc; omega
    refine RetX.same (hk0 ?_)
    have h1 := pow_le_dv hA.isB hta (by rintro rfl; simp at hla; omega)
    obtain ⟨j, hj⟩ : ∃ j, A.length - 1 = 8 + j := ⟨A.length - 1 - 8, by omega⟩
    rw [hj, Int.pow_add] at h1
    have h4 : (0 : Int) < 256 ^ j := Int.pow_pos (by decide)
    have h6 : (256 : Int) ^ 8 = 18446744073709551616 := by decide
    rw [h6] at h1
    omega
  have hc : k ≤ 8 := by have := of_decide_eq_false hc; omega
  have hlt : dv A < 18446744073709551616 := by
    have h1 := dv_lt_pow hA.isB
    obtain ⟨j, hj⟩ : ∃ j, 8 = A.length + j := ⟨8 - A.length, by omega⟩
    have h6 : (256 : Int) ^ 8 = 18446744073709551616 := by decide
    rw [← h6, hj, Int.pow_add]
    have h4 : (0 : Int) < 256 ^ j := Int.pow_pos (by decide)
    have h5 : (0 : Int) < 256 ^ A.length := Int.pow_pos (by decide)
    have := Int.mul_le_mul_of_nonneg_left (show (1 : Int) ≤ 256 ^ j by omega) (show (0 : Int) ≤ 256 ^ A.length by omega)
    omega
  have hhd : ∀ i, hd A i ≤ dv A ∧ 0 ≤ hd A i := by
    intro i
    have nn : 0 ≤ hd A i := dv_nonneg (hA.isB.drop i)
    refine ⟨?_, nn⟩
    induction i with
    | zero => exact Int.le_refl _
    | succ i ihi =>
      have h1 := hd_step (l := A) (i := i + 1) (by omega)
      have h2 := hA.isB.get i
      have h3 : 0 ≤ hd A i := dv_nonneg (hA.isB.drop i)
      simp only [Nat.add_sub_cancel] at h1
      have := ihi h3
      omega
  refine LoopX.st T_ok Hval.func110 (σ := Nat) (fun i => [(0, .slice base k k), (4, .int .u64 (hd A i)), (5, .int .i64 i)]) (fun i h' => h' = h ∧ i ≤ k) (fun i => i) k
    ⟨rfl, ?_, rfl, trivial⟩ ⟨rfl, Nat.le_refl _⟩ ?_
  · have : hd A k = 0 := by unfold hd; rw [List.drop_eq_nil_of_le (by omega)]; rfl
    rw [this]; rfl
  rintro i ρ h' ⟨rfl, hi⟩ ih
  conv => whnf
  refine CondX.mk (fun hp => ?_) (fun hp => ?_) <;> conv => whnf
  · have hp : 0 < i := by have := of_decide_eq_true hp; omega
    refine Ob.mk (by first | decide | omega) ?_; conv => whnf
    rw [wpred (by omega) hp]
    refine IdxX.rd hA.rd (by omega) (by omega) fun b1 o1 e1 _ => ?_; conv => whnf
    refine LoadX.byte hA e1 (i - 1) rfl (by omega) rfl ?_; conv => whnf
    have ga := hA.isB.get (i - 1)
    have h1 := hd_step (l := A) hp
    have h2 := hhd (i - 1)
    have h3 := hhd i
    refine ih (i - 1) _ _ ⟨rfl, by omega⟩ (by omega) ⟨rfl, ?_, ?_, trivial⟩
    · show Value.int .u64 (IntKind.u64.wrap (BitVec.ofInt 64 (IntKind.u64.wrap (hd A i * 2 ^ (min (Int.toNat 8) 64))) ||| BitVec.ofInt 64 (IntKind.u64.wrap (A.getD (i - 1) 0))).toNat) = _
      have e1 : (2 : Int) ^ (min (Int.toNat 8) 64) = 256 := by decide
      rw [e1, wrap_u64' (hd A i * 256), wrap_u64' (A.getD (i - 1) 0), Int.emod_eq_of_lt (by omega) (by omega), Int.emod_eq_of_lt ga.1 (by omega), or_u64 (by omega) (by omega) ga.1 (by omega), or_add8 h3.2 ga.1 ga.2, h1]
      congr 1; omega
    · exact congrArg (Value.int .i64) (wpred (by omega) hp)
  · have hp : i = 0 := by have := of_decide_eq_false hp; omega
    subst hp
    exact RetX.same (hk hlt)

end Go.Proofs.YgvalwGreat.X
