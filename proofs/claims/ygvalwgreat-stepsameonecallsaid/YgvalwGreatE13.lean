import Derived.Test.YgvalwGreatE12
set_option linter.unusedVariables false
set_option linter.unusedSimpArgs false
namespace Go.Proofs.YgvalwGreat.X
open Go

section
variable {h : Hp} {K : Value → Hp → Prop} {pre post : List Value} {l : List Int} {m n cap s : Nat} {t : TypeId}
theorem u8_sub {s : Nat} (hs : s < 64) : IntKind.u8.wrap (64 - ((s : Nat) : Int)) = ((64 - s : Nat) : Int) := by rw [wrap_u8]; omega
set_option maxRecDepth 100000 in
set_option maxHeartbeats 4000000 in
theorem shiftUp_ok (hb : h m = some (pre ++ (ul l ++ post), t)) (hl : isL l) (hs : s < 64) (hn : l.length = n) (hn30 : n < 2 ^ 30) (hk : K (.tuple #[]) (hput h m (pre ++ (ul (shU s 0 l) ++ post), t))) : CallX Hval.prog 374 [.slice (some ⟨m, pre.length, none⟩) n cap, .int .u8 s] h K := by
  refine CallX.of_xf T_ok Hval.func374 rfl (by kernel_rfl) (Nat.le_of_ble_eq_true rfl) ?_; conv => whnf
  refine CondX.dF (by omega) ?_; conv => whnf
  refine LoopX.st T_ok Hval.func374 (σ := Nat × List Int × Nat) (fun q => [(0, .slice (some ⟨m, pre.length, none⟩) n cap), (1, .int .u8 s), (4, .int .u64 q.2.2), (9, .slice (some ⟨m, pre.length, none⟩) n cap), (10, .int .i64 n), (11, .int .i64 q.1)])
    (fun q h' => q.1 ≤ n ∧ h' = hput h m (pre ++ (ul (q.2.1 ++ l.drop q.1) ++ post), t) ∧ q.2.1.length = q.1 ∧ shU s 0 l = q.2.1 ++ shU s q.2.2 (l.drop q.1) ∧ q.2.2 < 2 ^ s) (fun q => n - q.1) (0, [], 0)
    ⟨rfl, rfl, rfl, rfl, rfl, rfl, trivial⟩ ⟨Nat.zero_le _, (hput_id hb).symm, rfl, rfl, Nat.pow_pos (by decide)⟩ ?_
  rintro ⟨k, A, c⟩ ρ h' ⟨hk1, rfl, hA, hsh, hc⟩ ih
  dsimp only at hk1 hA hsh hc ⊢
  conv => whnf
  refine CondX.decI (fun hlt => ?_) (fun hlt => ?_) <;> conv => whnf
  · have hlt : k < n := by omega
    have hb1 := hput_same h m (pre ++ (ul (A ++ l.drop k) ++ post), t)
    have hd := hl.get k
    have hg : (A ++ l.drop k).getD k 0 = l.getD k 0 := by
      rw [List.getD_eq_getElem?_getD, List.getElem?_append_right (by omega), hA, Nat.sub_self, List.getElem?_drop, Nat.add_zero, ← List.getD_eq_getElem?_getD]
    obtain ⟨d, hde⟩ := Int.eq_ofNat_of_zero_le hd.1
    have hd64 : d < 18446744073709551616 := by have := hd.2; omega
    have hdrop : l.drop k = (d : Int) :: l.drop (k + 1) := by
      rw [List.drop_eq_getElem_cons (by omega)]
      congr 1
      rw [← hde, List.getD_eq_getElem?_getD, List.getElem?_eq_getElem (by omega)]; rfl
    have st := shU_step hs hd64 hc
    refine IdxX.at (by omega) (by omega) ?_; conv => whnf
    refine LoadX.lim hb1 k (by simp [show y24.size = 1 from rfl]) (by simp; omega) ?_; conv => whnf
    rw [hg, hde]
    repeat (refine Ob.mk (by first | decide | omega) ?_; conv => whnf)
    rw [shlM hs, or64 (Nat.mod_lt _ (by decide)) (by have : 2 ^ s ≤ 2 ^ 64 := Nat.pow_le_pow_right (by decide) (by omega); omega), st.2.2.2]
    refine IdxX.at (by omega) (by omega) ?_; conv => whnf
    refine StoreX.lim hb1 k (by simp [show y24.size = 1 from rfl]) (by simp; omega) ?_; conv => whnf
    rw [hput_hput]
    rw [u8_sub hs]
    repeat (refine Ob.mk (by first | decide | omega) ?_; conv => whnf)
    rw [shrN (by omega)]
    refine ih (k + 1, A ++ [((d * 2 ^ s % 18446744073709551616 + c : Nat) : Int)], d / 2 ^ (64 - s)) _ _ ⟨by dsimp only; omega, ?_, by simp [hA], ?_, st.2.1⟩ (by dsimp only; omega) ⟨rfl, rfl, rfl, rfl, rfl, congrArg (Value.int .i64) (wsucc (by omega)), trivial⟩
    · dsimp only
      congr 4
      rw [hdrop, List.set_append_right _ _ (by omega), hA, Nat.sub_self]
      simp
    · dsimp only
      rw [hsh, hdrop]
      simp [shU]
  · have hkn : k = n := by omega
    rw [List.drop_of_length_le (by omega)] at hsh ⊢
    simp only [shU, List.append_nil] at hsh
    rw [List.append_nil, ← hsh]
    exact RetX.same hk
end
end Go.Proofs.YgvalwGreat.X
