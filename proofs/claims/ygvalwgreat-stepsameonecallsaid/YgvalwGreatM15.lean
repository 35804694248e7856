import Derived.Test.YgvalwGreatM14
set_option linter.unusedVariables false
set_option linter.unusedSimpArgs false
namespace Go.Proofs.YgvalwGreat.X
open Go

section
variable {h : Hp} {K : Value → Hp → Prop}
theorem walkD_ge (f : Nat) (l : List Int) (i : Nat) (a : Int) (h : walkD f l i a = true) : (i : Int) ≤ a := by
  induction f generalizing i with
  | zero => unfold walkD at h; cases h
  | succ f ih =>
    unfold walkD at h
    split at h
    · split at h
      · omega
      · have := ih _ h; omega
    · cases h
theorem walkD_end (f : Nat) {l : List Int} {i : Nat} (a : Int) (h : l.length ≤ i) : walkD f l i a = false := by
  cases f with
  | zero => rfl
  | succ f => unfold walkD; rw [if_neg (by omega)]
def dstC (D : Nat → Nat) : List Value := fnv 8 fun i => .int .u64 (D i)
set_option maxRecDepth 100000 in
set_option maxHeartbeats 4000000 in
theorem isDest_okM {b n o at_ : Nat} {g : Nat → Value} {ty : TypeId} {D : Nat → Nat} (hb : h b = some (fnv n g, ty)) (ho : o + 8 ≤ n) (hg : ∀ i, i < 8 → g (o + i) = .int .u64 (D i)) (hD : ∀ i, D i < 2 ^ 64) (ha : at_ < 512) (hk : K (.bool ((D (at_ / 64)).testBit (at_ % 64))) h) : CallX Hval.prog 349 [.pointer (some ⟨b, o, none⟩), .int .u16 at_] h K := by
  refine CallX.of_xf T_ok Hval.func349 rfl (by kernel_rfl) (Nat.le_of_ble_eq_true rfl) ?_; conv => whnf
  refine CondX.tt ?_; conv => whnf
  repeat (first | ((with_reducible refine CondX.tt ?_); conv => whnf) | ((with_reducible refine CondX.ff ?_); conv => whnf) | ((with_reducible refine CondX.nT ?_); conv => whnf) | ((with_reducible refine CondX.nF ?_); conv => whnf) | (with_reducible refine CondX.bF ?_) | (with_reducible refine CondX.bT ?_))
  refine CondX.dT (by omega) ?_; conv => whnf
  repeat (first | ((with_reducible refine CondX.tt ?_); conv => whnf) | ((with_reducible refine CondX.ff ?_); conv => whnf) | ((with_reducible refine CondX.nT ?_); conv => whnf) | ((with_reducible refine CondX.nF ?_); conv => whnf) | (with_reducible refine CondX.bF ?_) | (with_reducible refine CondX.bT ?_))
  repeat (first | (refine Ob.mk (by first | decide | omega) ?_; conv => whnf) | ((with_reducible refine CondX.tt ?_); conv => whnf))
  rw [td64, show IntKind.u16.wrap ((at_ / 64 : Nat) : Int) = ((at_ / 64 : Nat) : Int) by rw [wrap_u16]; omega]
  repeat (first | ((with_reducible refine CondX.tt ?_); conv => whnf) | ((with_reducible refine CondX.ff ?_); conv => whnf) | ((with_reducible refine CondX.nT ?_); conv => whnf) | ((with_reducible refine CondX.nF ?_); conv => whnf) | (with_reducible refine CondX.bF ?_) | (with_reducible refine CondX.bT ?_))
  refine Ob.mk ⟨by omega, by omega⟩ ?_; conv => whnf
  repeat (first | ((with_reducible refine CondX.tt ?_); conv => whnf) | ((with_reducible refine CondX.ff ?_); conv => whnf) | ((with_reducible refine CondX.nT ?_); conv => whnf) | ((with_reducible refine CondX.nF ?_); conv => whnf) | (with_reducible refine CondX.bF ?_) | (with_reducible refine CondX.bT ?_))
  refine LoadX.fn hb (o + at_ / 64) (by rw [Int.toNat_natCast, show (24, y24).snd.size = 1 from rfl]; omega) (by omega) ?_
  rw [hg _ (by omega)]; conv => whnf
  repeat (first | (refine Ob.mk (by first | decide | omega) ?_; conv => whnf) | ((with_reducible refine CondX.tt ?_); conv => whnf))
  rw [tm64]
  repeat (first | (refine Ob.mk (by first | decide | omega) ?_; conv => whnf) | ((with_reducible refine CondX.tt ?_); conv => whnf))
  refine RetX.same ?_
  rw [show ∀ x : Bool, (bif true then x else false) = x from fun x => rfl]
  refine cast (congrArg (fun y => K (.bool y) h) ?_) hk
  have := bit64 (a := D (at_ / 64)) (s := at_ % 64) (by omega) (hD _)
  rw [this]
end
end Go.Proofs.YgvalwGreat.X
