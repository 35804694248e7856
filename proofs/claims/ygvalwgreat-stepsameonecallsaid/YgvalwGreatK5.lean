import Derived.Test.YgvalwGreatK4
import Derived.Test.YgvalwGreatE33
set_option linter.unusedVariables false
set_option linter.unusedSimpArgs false
namespace Go.Proofs.YgvalwGreat.X
open Go

section
variable {h : Hp} {K : Value → Hp → Prop}
def lnC (L : Nat → Nat) : List Value := fnv 25 fun i => .int .u64 (L i)
theorem u8succ {s : Nat} (h : s < 255) : IntKind.u8.wrap ((s : Int) + 1) = ((s + 1 : Nat) : Int) := by rw [wrap_u8]; omega
set_option maxRecDepth 100000 in
set_option maxHeartbeats 4000000 in
theorem keccakF_ok {m : Nat} {L : Nat → Nat} {t : TypeId} (hb : h m = some (lnC L, t)) (hL : Ln L) (hk : K (.tuple #[]) (hput h m (lnC (prL 24 L), t))) : CallX Hval.prog 325 [.pointer (some ⟨m, 0, none⟩)] h K := by
  refine CallX.of_xf T_ok Hval.func325 rfl (by kernel_rfl) (Nat.le_of_ble_eq_true rfl) ?_; conv => whnf
  repeat (first | (refine CondX.tt ?_; conv => whnf) | (refine CondX.ff ?_; conv => whnf))
  refine LoopX.st T_ok Hval.func325 (σ := Nat) (fun s => [(0, .pointer (some ⟨m, 0, none⟩)), (2, .int .u8 s)]) (fun s h' => s ≤ 24 ∧ h' = hput h m (lnC (prL s L), t)) (fun s => 24 - s) 0 ⟨rfl, rfl, trivial⟩ ⟨by omega, (hput_id hb).symm⟩ ?_
  rintro n ρ h' ⟨hn, rfl⟩ ih
  conv => whnf
  refine CondX.decI (fun hc => ?_) (fun hc => ?_) <;> conv => whnf
  · refine kround_ok (hput_same ..) (prL_ln hL n) ?_
    rw [hput_hput]; conv => whnf
    refine DrawX.go T_ok hM Hval.func325 (tb := dr325) rfl (by kernel_rfl) ?_; conv => whnf
    repeat (refine Ob.mk (by first | decide | omega) ?_; conv => whnf)
    refine LoadX.fn (hput_same ..) 0 rfl (by decide) ?_; conv => whnf
    refine rc_ok (by omega) ?_; conv => whnf
    refine Ob.mk (ldV_fn (hput_same ..) 0 rfl (by decide)) ?_; conv => whnf
    repeat (refine Ob.mk (by first | decide | omega) ?_; conv => whnf)
    rw [xor64 (chL_ln (piL_ln (rhL_ln _)) 0 (by decide)) (constN_lt n)]
    refine StoreX.fn (hput_same ..) 0 rfl (by decide) ?_
    rw [hput_hput]; conv => whnf
    refine ih (n + 1) _ _ ⟨by omega, ?_⟩ (by omega) ⟨rfl, congrArg (Value.int .u8) (u8succ (by omega)), trivial⟩
    congr 2
  · have : n = 24 := by omega
    subst this
    exact RetX.same hk
set_option maxRecDepth 100000 in
set_option maxHeartbeats 4000000 in
theorem absorb_ok {m b off : Nat} {L : Nat → Nat} {t : TypeId} {l : List Int} (hb : h m = some (lnC L, t)) (hL : Ln L) (hB : ∀ x, Byt (hput h m x) (some ⟨b, off, none⟩) 136 136 l) (hk : K (.tuple #[]) (hput h m (lnC (prL 24 (xorL L l)), t))) : CallX Hval.prog 222 [.pointer (some ⟨m, 0, none⟩), .pointer (some ⟨b, off, none⟩)] h K := by
  have hl : l.length = 136 := (hB (lnC L, t)).len
  have hbb : isB l := (hB (lnC L, t)).isB
  refine CallX.of_xf T_ok Hval.func222 rfl (by kernel_rfl) (Nat.le_of_ble_eq_true rfl) ?_; conv => whnf
  refine LoopX.st T_ok Hval.func222 (σ := Nat) (fun s => [(0, .pointer (some ⟨m, 0, none⟩)), (1, .pointer (some ⟨b, off, none⟩)), (4, .int .i64 s)]) (fun s h' => s ≤ 17 ∧ h' = hput h m (lnC fun i => if i < s then L i ^^^ laneI ((l.drop (8 * i)).take 8) else L i, t)) (fun s => 17 - s) 0 ⟨rfl, rfl, rfl, trivial⟩ ⟨by omega, (hput_id hb).symm⟩ ?_
  rintro n ρ h' ⟨hn, rfl⟩ ih
  conv => whnf
  refine CondX.decI (fun hc => ?_) (fun hc => ?_) <;> conv => whnf
  · repeat (refine Ob.mk (by first | decide | omega) ?_; conv => whnf)
    have h8 : ((l.drop (8 * n)).take 8).length = 8 := part8 hl (by omega)
    obtain ⟨y, hy⟩ : ∃ y : Nat, bv ((l.drop (8 * n)).take 8) = y := ⟨_, (Int.toNat_of_nonneg (bv_lt8 (isB_part hbb _ _) h8).1).symm⟩
    have hyl : y < 2 ^ 64 := by have := (bv_lt8 (isB_part hbb (8 * n) 8) h8).2; rw [hy] at this; exact this
    have hln : laneI ((l.drop (8 * n)).take 8) = tuN y := by unfold laneI; rw [hy]; rfl
    rw [show soff off 0 136 (5, y5).snd.size = off from rfl, show IntKind.i64.wrap (8 * (n : Int)) = ((8 * n : Nat) : Int) by rw [wrap_i64 (by omega) (by omega)]; omega]
    refine be64_ok (hB _) (by omega) ?_
    rw [hy]; conv => whnf
    refine DrawX.go T_ok hM Hval.func222 (tb := dr222) rfl (by kernel_rfl) ?_; conv => whnf
    repeat (refine Ob.mk (by first | decide | omega) ?_; conv => whnf)
    have ld : ldV false 1 (hput h m (lnC fun i => if i < n then L i ^^^ laneI ((l.drop (8 * i)).take 8) else L i, t)) m (0 + n * 1) = some (.int .u64 (L n)) := by
      refine (ldV_fn (hput_same ..) n (by omega) (by omega)).trans ?_
      dsimp only
      rw [if_neg (Nat.lt_irrefl n)]
    refine LoadX.of _ ld ?_; conv => whnf
    refine turned_ok hyl ?_; conv => whnf
    refine Ob.mk ld ?_; conv => whnf
    repeat (refine Ob.mk (by first | decide | omega) ?_; conv => whnf)
    rw [xor64 (hL n (by omega)) (tuN_lt hyl)]
    refine StoreX.fn (hput_same ..) n (by show 0 + n * 1 = n; omega) (by omega) ?_
    rw [hput_hput]; conv => whnf
    refine ih (n + 1) _ _ ⟨by omega, ?_⟩ (by omega) ⟨rfl, rfl, congrArg (Value.int .i64) (wsucc (by omega)), trivial⟩
    congr 2
    refine fnv_ext fun i hi => ?_
    unfold updV
    dsimp only
    by_cases h1 : i = n
    · subst h1; rw [if_pos rfl, if_pos (by omega), hln]
    · rw [if_neg h1]
      by_cases h2 : i < n
      · rw [if_pos h2, if_pos (by omega)]
      · rw [if_neg h2, if_neg (by omega)]
  · have : n = 17 := by omega
    subst this
    refine keccakF_ok (hput_same ..) (fun i hi => xorL_ln hL hbb hl i hi) ?_
    rw [hput_hput]; conv => whnf
    exact RetX.same hk
end
end Go.Proofs.YgvalwGreat.X
