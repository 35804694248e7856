import Derived.Test.YgvalwGreatXm
import Derived.Test.YgvalwGreatDr
set_option linter.unusedVariables false
set_option linter.unusedSimpArgs false
namespace Go.Proofs.YgvalwGreat.X
open Go

/-- The value of a number's digits, the least first. -/
def dv : List Int → Int
  | [] => 0
  | d :: l => d + 256 * dv l

/-- No zero digit at the top. -/
def Tr (l : List Int) : Prop := l.getD (l.length - 1) 1 ≠ 0

theorem dv_nonneg {l : List Int} (hb : isB l) : 0 ≤ dv l := by
  induction l with
  | nil => simp [dv]
  | cons d l ih =>
    have h1 := hb d (List.mem_cons_self ..)
    have h2 := ih (fun x hx => hb x (List.mem_cons_of_mem _ hx))
    simp only [dv]; omega

theorem dv_zeros {l : List Int} (hz : ∀ j, l.getD j 0 = 0) : dv l = 0 := by
  induction l with
  | nil => rfl
  | cons d l ih =>
    have h1 := hz 0
    simp at h1
    have h2 := ih (fun j => by have := hz (j + 1); simpa using this)
    simp [dv, h1, h2]

theorem dv_take {l : List Int} {k : Nat} (hz : ∀ j, k ≤ j → l.getD j 0 = 0) : dv (l.take k) = dv l := by
  induction l generalizing k with
  | nil => simp
  | cons d l ih =>
    cases k with
    | zero => rw [dv_zeros (fun j => hz j (Nat.zero_le _))]; rfl
    | succ k =>
      simp only [List.take_succ_cons, dv]
      rw [ih (fun j hj => by have := hz (j + 1) (by omega); simpa using this)]

theorem wrap_i64 {x : Int} (h0 : -9223372036854775808 ≤ x) (h1 : x < 9223372036854775808) : IntKind.i64.wrap x = x := by
  simp [IntKind.wrap, IntKind.signed, IntKind.bits]
  omega

set_option maxRecDepth 100000 in
theorem trim_ok {h : Hp} {K : Value → Hp → Prop} {base : Option Addr} {len cap : Nat} {l : List Int} (hb : Byt h base len cap l)
    (hk : ∀ k l', k ≤ len → l' = l.take k → Byt h base k k l' → dv l' = dv l → Tr l' → K (.slice base k k) h) :
    CallX Hval.prog 95 [.slice base len cap] h K := by
  have hlen := hb.len
  have hroom := hb.room
  have fin : ∀ k, k ≤ len → (∀ j, k ≤ j → l.getD j 0 = 0) → (0 < k → l.getD (k - 1) 0 ≠ 0) → K (.slice base k k) h := by
    intro k hkl hz hn
    refine hk k _ hkl rfl (hb.pre hkl (Nat.le_refl _) (Nat.le_trans hkl hb.le)) (dv_take hz) ?_
    unfold Tr
    simp only [List.length_take]
    rw [Nat.min_eq_left (by omega)]
    cases k with
    | zero => simp
    | succ k =>
      have := hn (by omega)
      simp only [Nat.add_sub_cancel] at this ⊢
      simp [List.getElem?_eq_getElem (show k < l.length by omega)] at this ⊢
      exact this
  refine CallX.of_xf T_ok Hval.func95 rfl (by kernel_rfl) (Nat.le_of_ble_eq_true rfl) ?_
  conv => whnf
  refine LoopX.st T_ok Hval.func95 (σ := Nat) (fun k => [(0, .slice base len cap), (3, .int .i64 k)]) (fun k h' => h' = h ∧ k ≤ len ∧ (∀ j, k ≤ j → l.getD j 0 = 0)) (fun k => k) len ⟨rfl, rfl, trivial⟩ ⟨rfl, Nat.le_refl _, ?_⟩ ?_
  · intro j hj
    simp [List.getElem?_eq_none (by omega : l.length ≤ j)]
  rintro k ρ h' ⟨rfl, hkl, hz⟩ ih
  conv => whnf
  refine CondX.mk (fun hp => ?_) (fun hp => ?_) <;> conv => whnf
  · -- k > 0
    have hp : 0 < k := by simpa using hp
    have hw : IntKind.i64.wrap ((k : Int) - 1) = ((k - 1 : Nat) : Int) := by rw [wrap_i64 (by omega) (by omega)]; omega
    refine CondX.tt ?_; conv => whnf
    refine CondX.tt ?_; conv => whnf
    refine CondX.tt ?_; conv => whnf
    refine IdxX.rd hb.rd (by rw [hw]; omega) (by rw [hw]; omega) fun b off he hr => ?_; conv => whnf
    refine CondX.tt ?_; conv => whnf
    refine LoadX.byte hb he (k - 1) hw (by omega) rfl ?_; conv => whnf
    refine CondX.tt ?_; conv => whnf
    refine CondX.mk (fun hq => ?_) (fun hq => ?_) <;> conv => whnf
    · have hq : l.getD (k - 1) 0 = 0 := by simpa using hq
      refine ih (k - 1) _ _ ⟨rfl, by omega, fun j hj => ?_⟩ (by omega) ⟨rfl, by rw [← hw]; rfl, trivial⟩
      by_cases hjk : j = k - 1
      · subst hjk; exact hq
      · exact hz j (by omega)
    · have hq : l.getD (k - 1) 0 ≠ 0 := by simpa using hq
      refine SlcX.gen hb.rd hb.nil hb.le 0 k k rfl rfl rfl (Nat.zero_le _) (Nat.le_refl _) (Nat.le_trans hkl hb.le) (.inr (by simp)) ?_; conv => whnf
      rw [bsh_zero]
      exact RetX.same (fin k hkl hz (fun _ => hq))
  · have hp : k = 0 := by simpa using hp
    repeat (first | (refine CondX.ff ?_; conv => whnf))
    refine SlcX.gen hb.rd hb.nil hb.le 0 k k rfl rfl rfl (Nat.zero_le _) (Nat.le_refl _) (Nat.le_trans hkl hb.le) (.inr (by simp)) ?_; conv => whnf
    rw [bsh_zero]
    exact RetX.same (fin k hkl hz (fun _ => by omega))

end Go.Proofs.YgvalwGreat.X
