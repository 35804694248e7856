import Derived.Test.YgvalwGreatM52b
import Derived.Test.YgvalwGreatM52c
import Derived.Test.YgvalwGreatM52d
import Derived.Test.YgvalwGreatM51b
import Derived.Test.YgvalwGreatM53
import Derived.Test.YgvalwGreatM54
set_option linter.unusedVariables false
set_option linter.unusedSimpArgs false
namespace Go.Proofs.YgvalwGreat.X
open Go

def execA (a : AS) (base : List AF) (f : AF) (orig : List Int) (o : Int) : AS :=
  if o = 0 then leaveA a base f 0 []
  else if o = 243 then leaveA a base f 0 (cutN f.mem (argA f.st 0).toNat (argA f.st 1).toNat)
  else if o = 253 then leaveA a base f 1 (cutN f.mem (argA f.st 0).toNat (argA f.st 1).toNat)
  else if o = 255 then destroyA a base f (argA f.st 0)
  else if famI o = 16 then entersA a base f o
  else plainA a base f orig o
set_option maxRecDepth 100000 in
theorem exec_ops {o : Int} (h0 : 0 ≤ o) (h1 : o < 256) (hv : (arI o).2.2 = true) : o ∈ [0, 243, 253, 255, 240, 245, 241, 242, 244, 250, 1, 2, 3, 4, 5, 6, 7, 8, 9, 10, 11, 16, 17, 18, 19, 20, 21, 22, 23, 24, 25, 26, 27, 28, 29, 32, 48, 49, 50, 51, 52, 53, 54, 55, 56, 57, 58, 59, 60, 61, 62, 63, 64, 65, 66, 67, 68, 69, 70, 71, 72, 80, 81, 82, 83, 84, 85, 86, 87, 88, 89, 90, 91, 92, 93, 94] ∨ (95 ≤ o ∧ o ≤ 127) ∨ (128 ≤ o ∧ o ≤ 143) ∨ (144 ≤ o ∧ o ≤ 159) ∨ (160 ≤ o ∧ o ≤ 164) := by
  have key : ∀ k : Fin 256, (arI (k.val : Int)).2.2 = true → (k.val : Int) ∈ [0, 243, 253, 255, 240, 245, 241, 242, 244, 250, 1, 2, 3, 4, 5, 6, 7, 8, 9, 10, 11, 16, 17, 18, 19, 20, 21, 22, 23, 24, 25, 26, 27, 28, 29, 32, 48, 49, 50, 51, 52, 53, 54, 55, 56, 57, 58, 59, 60, 61, 62, 63, 64, 65, 66, 67, 68, 69, 70, 71, 72, 80, 81, 82, 83, 84, 85, 86, 87, 88, 89, 90, 91, 92, 93, 94] ∨ (95 ≤ (k.val : Int) ∧ (k.val : Int) ≤ 127) ∨ (128 ≤ (k.val : Int) ∧ (k.val : Int) ≤ 143) ∨ (144 ≤ (k.val : Int) ∧ (k.val : Int) ≤ 159) ∨ (160 ≤ (k.val : Int) ∧ (k.val : Int) ≤ 164) := by decide +kernel
  have := key ⟨o.toNat, by omega⟩
  rw [show ((⟨o.toNat, by omega⟩ : Fin 256).val : Int) = o from Int.toNat_of_nonneg h0] at this
  exact this hv
section
variable {hi hi' hm hm' hb hb' h : Hp} {K : Value → Hp → Prop} {KK : Hp → Prop} {v v' : VS} {eb : Nat} {m m' : MS} {t : Nat} {mems : Nat → List Int} {stale stale' mem' orig : List Int} {w w' : AW} {sn : List AW} {s0 l0 S S' x o : Int} {A : Nat → Nat} {a : AS} {f f' : AF} {base : List AF}
theorem gsum_plain : gsum (plainA a base f orig o).frs = gsum (base ++ [f]) := by
  unfold plainA
  dsimp only
  repeat' split
  all_goals (dsimp only; rw [gsum_app, gsum_app])
/-- What the instruction's continuation asks. -/
def ExK (hi : Hp) (eb : Nat) (m : MS) (t : Nat) (w : AW) (sn : List AW) (mems : Nat → List Int) (orig : List Int) (o s0 l0 : Int) (K : Value → Hp → Prop) : Prop :=
  EnK hi eb m (spn (execA (absM m t w sn mems s0 l0) (frsM m t sn mems) (frM m sn mems t) orig o)) (execA (absM m t w sn mems s0 l0) (frsM m t sn mems) (frM m sn mems t) orig o) s0 l0 (K (.tuple #[]))
def sM (m : MS) (t : Nat) (sn : List AW) (mems : Nat → List Int) : Int := 1048576 - gsum (frsM m t sn mems ++ [frM m sn mems t])
theorem EnK.tk (hk : EnK hi eb m S a s0 l0 (K (.tuple #[]))) : EnK hi eb m S a s0 l0 (TK K (.tuple #[])) := fun hi1 hm' hb' m2 w' sn' v' h1 h2 h3 h4 => ⟨rfl, hk hi1 hm' hb' m2 w' sn' v' h1 h2 h3 h4⟩
theorem ExK.plain (hk : ExK hi eb m t w sn mems orig o s0 l0 K) (h0 : o ≠ 0) (h1 : o ≠ 243) (h2 : o ≠ 253) (h3 : o ≠ 255) (h4 : famI o ≠ 16) : PlK hi eb m t w sn mems orig o (sM m t sn mems) s0 l0 (TK K) := by
  have e : execA (absM m t w sn mems s0 l0) (frsM m t sn mems) (frM m sn mems t) orig o = plainA (absM m t w sn mems s0 l0) (frsM m t sn mems) (frM m sn mems t) orig o := by
    unfold execA
    rw [if_neg h0, if_neg h1, if_neg h2, if_neg h3, if_neg h4]
  unfold ExK at hk
  rw [e] at hk
  unfold PlK
  refine EnK.tk (hk.mono ?_)
  unfold spn sM
  rw [gsum_plain]
  exact Int.le_refl _
theorem ExK.leave {st : Int} {l : List Int} (hk : ExK hi eb m t w sn mems orig o s0 l0 K) (hg : 0 ≤ (m.fr t).gas) (e : execA (absM m t w sn mems s0 l0) (frsM m t sn mems) (frM m sn mems t) orig o = leaveA (absM m t w' sn mems s0 l0) (frsM m t sn mems) (frM m sn mems t) st l) : LvK hi eb m t w' sn mems st l (sM m t sn mems) s0 l0 (TK K) := by
  unfold ExK at hk
  rw [e] at hk
  unfold LvK
  exact EnK.tk (hk.mono (spn_leave hg))
/-- What a step's instruction may lean on. -/
structure XP (m : MS) (t : Nat) (w : AW) (mems : Nat → List Int) (orig : List Int) (o : Int) (A : Nat → Nat) : Prop where
  E : EnvM m orig
  bal : o ≠ 0 → (w.acct (m.fr t).self).bal = 0
  val : (m.fr t).val = 0
  gs : ∀ i, i ≤ t → (m.fr i).gas ≤ 1048576
  cl : ∀ b, (w.acct b).code.length ≤ 512
  nn : (w.acct (m.fr t).self).nonce < 100
  nw : ∀ b, 0 ≤ (w.acct b).nonce
  a2 : o = 240 ∨ o = 245 → A 2 ≤ 512
  ds : o = 86 ∨ (o = 87 ∧ A 1 ≠ 0) → isDestI (m.fr t).code (A 0) = true
  ref : w.ref ≤ 208666624
  mem : (mems t).length ≤ 717280
  log : w.nlogs < 2800
theorem argF (hA : ∀ i, argM m t i = A i) (i : Nat) : argA (frM m sn mems t).st i = A i := (stM_arg i).trans (hA i)
theorem gsum_call2 (h : ¬ (6 ≤ base.length ∨ (a.w.acct f.self).bal < (if o = 241 ∨ o = 242 then argA f.st 2 else 0))) : gsum (callA a base f o).frs = gsum (base ++ [f]) + (if (if o = 241 ∨ o = 242 then argA f.st 2 else 0) = 0 then 0 else 2300) := by
  unfold callA
  dsimp only
  rw [if_neg h]
  unfold enterA
  dsimp only
  rw [gsum_app, gsum_app, gsum_app]
  dsimp only
  omega
theorem gsum_call1 (h : 6 ≤ base.length ∨ (a.w.acct f.self).bal < (if o = 241 ∨ o = 242 then argA f.st 2 else 0)) : gsum (callA a base f o).frs = gsum (base ++ [f]) + (if (if o = 241 ∨ o = 242 then argA f.st 2 else 0) = 0 then 0 else 2300) := by
  unfold callA
  dsimp only
  rw [if_pos h, gsum_app, gsum_app]
  dsimp only
  omega
theorem gsum_callA : gsum (callA a base f o).frs = gsum (base ++ [f]) + (if (if o = 241 ∨ o = 242 then argA f.st 2 else 0) = 0 then 0 else 2300) := by
  by_cases h : 6 ≤ base.length ∨ (a.w.acct f.self).bal < (if o = 241 ∨ o = 242 then argA f.st 2 else 0)
  · exact gsum_call1 h
  · exact gsum_call2 h
theorem gsum_createA (hg : 0 ≤ f.gas) : gsum (createA a base f o).frs ≤ gsum (base ++ [f]) := by
  have hsent : 0 ≤ min f.gas (f.gas - f.gas / 64) ∧ min f.gas (f.gas - f.gas / 64) ≤ f.gas := by omega
  unfold createA
  dsimp only
  generalize min f.gas (f.gas - f.gas / 64) = sent at *
  split
  · dsimp only; rw [gsum_app, gsum_app]; exact Int.le_refl _
  · generalize (if o = 245 then create2I f.self (argA f.st 3) (cutN f.mem (argA f.st 1).toNat (argA f.st 2).toNat) else createI f.self (a.w.acct f.self).nonce) = self'
    split
    · dsimp only; rw [gsum_app, gsum_app]; dsimp only; omega
    · unfold enterA; dsimp only; rw [gsum_app, gsum_app, gsum_app]; dsimp only; omega
theorem ExK.create (hk : ExK hi eb m t w sn mems orig o s0 l0 K) (hg : 0 ≤ (m.fr t).gas) (ho : o = 240 ∨ o = 245) : EnK hi eb m (sM m t sn mems) (createA { absM m t w sn mems s0 l0 with ret := [] } (frsM m t sn mems) (frM m sn mems t) o) s0 l0 (TK K (.tuple #[])) := by
  have e : execA (absM m t w sn mems s0 l0) (frsM m t sn mems) (frM m sn mems t) orig o = createA { absM m t w sn mems s0 l0 with ret := [] } (frsM m t sn mems) (frM m sn mems t) o := by
    unfold execA
    rw [if_neg (by omega), if_neg (by omega), if_neg (by omega), if_neg (by omega), if_pos (by rcases ho with h | h <;> (subst h; rfl))]
    unfold entersA
    rw [if_pos ho]
  unfold ExK at hk
  rw [e] at hk
  refine EnK.tk (hk.mono ?_)
  unfold spn sM
  have := gsum_createA (a := { absM m t w sn mems s0 l0 with ret := [] }) (base := frsM m t sn mems) (f := frM m sn mems t) (o := o) hg
  omega
theorem ExK.call (hk : ExK hi eb m t w sn mems orig o s0 l0 K) (ho : o = 241 ∨ o = 242 ∨ o = 244 ∨ o = 250) (hA : ∀ i, argM m t i = A i) : EnK hi eb m (sM m t sn mems - (if (if o = 241 ∨ o = 242 then (A 2 : Int) else 0) = 0 then 0 else 2300)) (callA { absM m t w sn mems s0 l0 with ret := [] } (frsM m t sn mems) (frM m sn mems t) o) s0 l0 (TK K (.tuple #[])) := by
  have e : execA (absM m t w sn mems s0 l0) (frsM m t sn mems) (frM m sn mems t) orig o = callA { absM m t w sn mems s0 l0 with ret := [] } (frsM m t sn mems) (frM m sn mems t) o := by
    unfold execA
    rw [if_neg (by omega), if_neg (by omega), if_neg (by omega), if_neg (by omega), if_pos (by rcases ho with h | h | h | h <;> (subst h; rfl))]
    unfold entersA
    rw [if_neg (by omega)]
  unfold ExK at hk
  rw [e] at hk
  refine EnK.tk (hk.mono ?_)
  unfold spn sM
  rw [gsum_callA, argF hA]
  omega
theorem exec_ok (h0 : 0 ≤ o) (h1 : o < 256) (hv : (arI o).2.2 = true) (P : OpS hi hm hb eb m t w sn v mems stale o A S (sM m t sn mems)) (Q : XP m t w mems orig o A) (hk : ExK hi eb m t w sn mems orig o s0 l0 K) : CallX Hval.prog 116 [.pointer (some ⟨eb, 0, none⟩), .int .u8 o] (join (join hi hm) hb) K := by
  have hg := P.X.M.f.gas.1
  have hA := P.hA
  rcases exec_ops h0 h1 hv with hm | hm | hm | hm | hm
  · simp only [List.mem_cons, List.not_mem_nil, or_false] at hm
    rcases hm with rfl | rfl | rfl | rfl | rfl | rfl | rfl | rfl | rfl | rfl | rfl | rfl | rfl | rfl | rfl | rfl | rfl | rfl | rfl | rfl | rfl | rfl | rfl | rfl | rfl | rfl | rfl | rfl | rfl | rfl | rfl | rfl | rfl | rfl | rfl | rfl | rfl | rfl | rfl | rfl | rfl | rfl | rfl | rfl | rfl | rfl | rfl | rfl | rfl | rfl | rfl | rfl | rfl | rfl | rfl | rfl | rfl | rfl | rfl | rfl | rfl | rfl | rfl | rfl | rfl | rfl | rfl | rfl | rfl | rfl | rfl | rfl | rfl | rfl | rfl | rfl
    · exact e_0 (x_0 (s0 := s0) (l0 := l0) Q.gs P (hk.leave hg rfl))
    · exact e_243 (x_243 (s0 := s0) (l0 := l0) Q.gs P (hk.leave hg (by show leaveA _ _ _ 0 (cutN (mems t) (argA (frM m sn mems t).st 0).toNat (argA (frM m sn mems t).st 1).toNat) = _; rw [argF hA, argF hA, Int.toNat_natCast, Int.toNat_natCast])))
    · exact e_253 (x_253 (s0 := s0) (l0 := l0) Q.gs P (hk.leave hg (by show leaveA _ _ _ 1 (cutN (mems t) (argA (frM m sn mems t).st 0).toNat (argA (frM m sn mems t).st 1).toNat) = _; rw [argF hA, argF hA, Int.toNat_natCast, Int.toNat_natCast])))
    · exact e_255 (x_255 (s0 := s0) (l0 := l0) (Q.bal (by decide)) Q.gs P (hk.leave hg (by show destroyA _ _ _ (argA (frM m sn mems t).st 0) = _; rw [argF hA]; rfl)))
    · exact e_240 (x_240 (s0 := s0) (l0 := l0) (Q.bal (by decide)) ⟨Q.nw _, Q.nn⟩ Q.nw (Q.a2 (.inl rfl)) P (hk.create hg (.inl rfl)))
    · exact e_245 (x_245 (s0 := s0) (l0 := l0) (Q.bal (by decide)) ⟨Q.nw _, Q.nn⟩ Q.nw (Q.a2 (.inr rfl)) P (hk.create hg (.inr rfl)))
    · exact e_241 (x_241 (s0 := s0) (l0 := l0) (Q.bal (by decide)) Q.val (Q.gs t (Nat.le_refl _)) rfl Q.cl P (hk.call (.inl rfl) hA))
    · exact e_242 (x_242 (s0 := s0) (l0 := l0) (Q.bal (by decide)) Q.val (Q.gs t (Nat.le_refl _)) rfl Q.cl P (hk.call (.inr (.inl rfl)) hA))
    · exact e_244 (x_244 (s0 := s0) (l0 := l0) (Q.bal (by decide)) Q.val (Q.gs t (Nat.le_refl _)) Q.cl P ((hk.call (.inr (.inr (.inl rfl))) hA).mono (Int.le_of_eq (Int.sub_zero _).symm)))
    · exact e_250 (x_250 (s0 := s0) (l0 := l0) (Q.bal (by decide)) Q.val (Q.gs t (Nat.le_refl _)) Q.cl P ((hk.call (.inr (.inr (.inr rfl))) hA).mono (Int.le_of_eq (Int.sub_zero _).symm)))
    · exact e_1 (x_1 (s0 := s0) (l0 := l0) P (hk.plain (by decide) (by decide) (by decide) (by decide) (by decide)))
    · exact e_2 (x_2 (s0 := s0) (l0 := l0) P (hk.plain (by decide) (by decide) (by decide) (by decide) (by decide)))
    · exact e_3 (x_3 (s0 := s0) (l0 := l0) P (hk.plain (by decide) (by decide) (by decide) (by decide) (by decide)))
    · exact e_4 (x_4 (s0 := s0) (l0 := l0) P (hk.plain (by decide) (by decide) (by decide) (by decide) (by decide)))
    · exact e_5 (x_5 (s0 := s0) (l0 := l0) P (hk.plain (by decide) (by decide) (by decide) (by decide) (by decide)))
    · exact e_6 (x_6 (s0 := s0) (l0 := l0) P (hk.plain (by decide) (by decide) (by decide) (by decide) (by decide)))
    · exact e_7 (x_7 (s0 := s0) (l0 := l0) P (hk.plain (by decide) (by decide) (by decide) (by decide) (by decide)))
    · exact e_8 (x_8 (s0 := s0) (l0 := l0) P (hk.plain (by decide) (by decide) (by decide) (by decide) (by decide)))
    · exact e_9 (x_9 (s0 := s0) (l0 := l0) P (hk.plain (by decide) (by decide) (by decide) (by decide) (by decide)))
    · exact e_10 (x_10 (s0 := s0) (l0 := l0) P (hk.plain (by decide) (by decide) (by decide) (by decide) (by decide)))
    · exact e_11 (x_11 (s0 := s0) (l0 := l0) P (hk.plain (by decide) (by decide) (by decide) (by decide) (by decide)))
    · exact e_16 (x_16 (s0 := s0) (l0 := l0) P (hk.plain (by decide) (by decide) (by decide) (by decide) (by decide)))
    · exact e_17 (x_17 (s0 := s0) (l0 := l0) P (hk.plain (by decide) (by decide) (by decide) (by decide) (by decide)))
    · exact e_18 (x_18 (s0 := s0) (l0 := l0) P (hk.plain (by decide) (by decide) (by decide) (by decide) (by decide)))
    · exact e_19 (x_19 (s0 := s0) (l0 := l0) P (hk.plain (by decide) (by decide) (by decide) (by decide) (by decide)))
    · exact e_20 (x_20 (s0 := s0) (l0 := l0) P (hk.plain (by decide) (by decide) (by decide) (by decide) (by decide)))
    · exact e_21 (x_21 (s0 := s0) (l0 := l0) P (hk.plain (by decide) (by decide) (by decide) (by decide) (by decide)))
    · exact e_22 (x_22 (s0 := s0) (l0 := l0) P (hk.plain (by decide) (by decide) (by decide) (by decide) (by decide)))
    · exact e_23 (x_23 (s0 := s0) (l0 := l0) P (hk.plain (by decide) (by decide) (by decide) (by decide) (by decide)))
    · exact e_24 (x_24 (s0 := s0) (l0 := l0) P (hk.plain (by decide) (by decide) (by decide) (by decide) (by decide)))
    · exact e_25 (x_25 (s0 := s0) (l0 := l0) P (hk.plain (by decide) (by decide) (by decide) (by decide) (by decide)))
    · exact e_26 (x_26 (s0 := s0) (l0 := l0) P (hk.plain (by decide) (by decide) (by decide) (by decide) (by decide)))
    · exact e_27 (x_27 (s0 := s0) (l0 := l0) P (hk.plain (by decide) (by decide) (by decide) (by decide) (by decide)))
    · exact e_28 (x_28 (s0 := s0) (l0 := l0) P (hk.plain (by decide) (by decide) (by decide) (by decide) (by decide)))
    · exact e_29 (x_29 (s0 := s0) (l0 := l0) P (hk.plain (by decide) (by decide) (by decide) (by decide) (by decide)))
    · exact e_32 (x_32 (s0 := s0) (l0 := l0) P (hk.plain (by decide) (by decide) (by decide) (by decide) (by decide)))
    · exact e_48 (x_48 (s0 := s0) (l0 := l0) P (hk.plain (by decide) (by decide) (by decide) (by decide) (by decide)))
    · exact e_49 (x_49 (s0 := s0) (l0 := l0) rfl P (hk.plain (by decide) (by decide) (by decide) (by decide) (by decide)))
    · exact e_50 (x_50 (s0 := s0) (l0 := l0) Q.E P (hk.plain (by decide) (by decide) (by decide) (by decide) (by decide)))
    · exact e_51 (x_51 (s0 := s0) (l0 := l0) P (hk.plain (by decide) (by decide) (by decide) (by decide) (by decide)))
    · exact e_52 (x_52 (s0 := s0) (l0 := l0) P (hk.plain (by decide) (by decide) (by decide) (by decide) (by decide)))
    · exact e_53 (x_53 (s0 := s0) (l0 := l0) P (hk.plain (by decide) (by decide) (by decide) (by decide) (by decide)))
    · exact e_54 (x_54 (s0 := s0) (l0 := l0) P (hk.plain (by decide) (by decide) (by decide) (by decide) (by decide)))
    · exact e_55 (x_55 (s0 := s0) (l0 := l0) P (hk.plain (by decide) (by decide) (by decide) (by decide) (by decide)))
    · exact e_56 (x_56 (s0 := s0) (l0 := l0) P (hk.plain (by decide) (by decide) (by decide) (by decide) (by decide)))
    · exact e_57 (x_57 (s0 := s0) (l0 := l0) P (hk.plain (by decide) (by decide) (by decide) (by decide) (by decide)))
    · exact e_58 (x_58 (s0 := s0) (l0 := l0) Q.E P (hk.plain (by decide) (by decide) (by decide) (by decide) (by decide)))
    · exact e_59 (x_59 (s0 := s0) (l0 := l0) rfl P (hk.plain (by decide) (by decide) (by decide) (by decide) (by decide)))
    · exact e_60 (x_60 (s0 := s0) (l0 := l0) P (hk.plain (by decide) (by decide) (by decide) (by decide) (by decide)))
    · exact e_61 (x_61 (s0 := s0) (l0 := l0) P (hk.plain (by decide) (by decide) (by decide) (by decide) (by decide)))
    · exact e_62 (x_62 (s0 := s0) (l0 := l0) P (hk.plain (by decide) (by decide) (by decide) (by decide) (by decide)))
    · exact e_63 (x_63 (s0 := s0) (l0 := l0) rfl P (hk.plain (by decide) (by decide) (by decide) (by decide) (by decide)))
    · exact e_64 (x_64 (s0 := s0) (l0 := l0) Q.E P (hk.plain (by decide) (by decide) (by decide) (by decide) (by decide)))
    · exact e_65 (x_65 (s0 := s0) (l0 := l0) Q.E P (hk.plain (by decide) (by decide) (by decide) (by decide) (by decide)))
    · exact e_66 (x_66 (s0 := s0) (l0 := l0) Q.E P (hk.plain (by decide) (by decide) (by decide) (by decide) (by decide)))
    · exact e_67 (x_67 (s0 := s0) (l0 := l0) Q.E P (hk.plain (by decide) (by decide) (by decide) (by decide) (by decide)))
    · exact e_68 (x_68 (s0 := s0) (l0 := l0) Q.E P (hk.plain (by decide) (by decide) (by decide) (by decide) (by decide)))
    · exact e_69 (x_69 (s0 := s0) (l0 := l0) Q.E P (hk.plain (by decide) (by decide) (by decide) (by decide) (by decide)))
    · exact e_70 (x_70 (s0 := s0) (l0 := l0) Q.E P (hk.plain (by decide) (by decide) (by decide) (by decide) (by decide)))
    · exact e_71 (x_71 (s0 := s0) (l0 := l0) P (hk.plain (by decide) (by decide) (by decide) (by decide) (by decide)))
    · exact e_72 (x_72 (s0 := s0) (l0 := l0) Q.E P (hk.plain (by decide) (by decide) (by decide) (by decide) (by decide)))
    · exact e_80 (x_80 (s0 := s0) (l0 := l0) P (hk.plain (by decide) (by decide) (by decide) (by decide) (by decide)))
    · exact e_81 (x_81 (s0 := s0) (l0 := l0) P (hk.plain (by decide) (by decide) (by decide) (by decide) (by decide)))
    · exact e_82 (x_82 (s0 := s0) (l0 := l0) P (hk.plain (by decide) (by decide) (by decide) (by decide) (by decide)))
    · exact e_83 (x_83 (s0 := s0) (l0 := l0) P (hk.plain (by decide) (by decide) (by decide) (by decide) (by decide)))
    · exact e_84 (x_84 (s0 := s0) (l0 := l0) rfl P (hk.plain (by decide) (by decide) (by decide) (by decide) (by decide)))
    · exact e_85 (x_85 (s0 := s0) (l0 := l0) Q.ref rfl P (hk.plain (by decide) (by decide) (by decide) (by decide) (by decide)))
    · exact e_86 (x_86 (s0 := s0) (l0 := l0) (Q.ds (.inl rfl)) P (hk.plain (by decide) (by decide) (by decide) (by decide) (by decide)))
    · exact e_87 (x_87 (s0 := s0) (l0 := l0) (fun h => Q.ds (.inr ⟨rfl, h⟩)) P (hk.plain (by decide) (by decide) (by decide) (by decide) (by decide)))
    · exact e_88 (x_88 (s0 := s0) (l0 := l0) P (hk.plain (by decide) (by decide) (by decide) (by decide) (by decide)))
    · exact e_89 (x_89 (s0 := s0) (l0 := l0) P (hk.plain (by decide) (by decide) (by decide) (by decide) (by decide)))
    · exact e_90 (x_90 (s0 := s0) (l0 := l0) P (hk.plain (by decide) (by decide) (by decide) (by decide) (by decide)))
    · exact e_91 (x_91 (s0 := s0) (l0 := l0) P (hk.plain (by decide) (by decide) (by decide) (by decide) (by decide)))
    · exact e_92 (x_92 (s0 := s0) (l0 := l0) rfl P (hk.plain (by decide) (by decide) (by decide) (by decide) (by decide)))
    · exact e_93 (x_93 (s0 := s0) (l0 := l0) rfl P (hk.plain (by decide) (by decide) (by decide) (by decide) (by decide)))
    · exact e_94 (x_94 (s0 := s0) (l0 := l0) P (hk.plain (by decide) (by decide) (by decide) (by decide) (by decide)))
  · obtain ⟨n, hn⟩ : ∃ n : Nat, o = ((95 + n : Nat) : Int) := ⟨(o - 95).toNat, by omega⟩
    have hf : famI o ≠ 16 := by
      unfold famI
      repeat' split
      all_goals omega
    have hp := hk.plain (by omega) (by omega) (by omega) (by omega) hf
    refine e_299 (by omega) (by omega) ?_
    subst hn
    exact x_push (s0 := s0) (l0 := l0) (by omega) P hp
  · obtain ⟨n, hn⟩ : ∃ n : Nat, o = ((128 + n : Nat) : Int) := ⟨(o - 128).toNat, by omega⟩
    have hf : famI o ≠ 16 := by
      unfold famI
      repeat' split
      all_goals omega
    have hp := hk.plain (by omega) (by omega) (by omega) (by omega) hf
    refine e_300 (by omega) (by omega) ?_
    subst hn
    exact x_dup (s0 := s0) (l0 := l0) (by omega) P hp
  · obtain ⟨n, hn⟩ : ∃ n : Nat, o = ((144 + n : Nat) : Int) := ⟨(o - 144).toNat, by omega⟩
    have hf : famI o ≠ 16 := by
      unfold famI
      repeat' split
      all_goals omega
    have hp := hk.plain (by omega) (by omega) (by omega) (by omega) hf
    refine e_301 (by omega) (by omega) ?_
    subst hn
    exact x_swap (s0 := s0) (l0 := l0) (by omega) P hp
  · obtain ⟨n, hn⟩ : ∃ n : Nat, o = ((160 + n : Nat) : Int) := ⟨(o - 160).toNat, by omega⟩
    have hf : famI o ≠ 16 := by
      unfold famI
      repeat' split
      all_goals omega
    have hp := hk.plain (by omega) (by omega) (by omega) (by omega) hf
    refine e_302 (by omega) (by omega) ?_
    subst hn
    exact x_log (s0 := s0) (l0 := l0) Q.mem (by omega) Q.log P hp
end
end Go.Proofs.YgvalwGreat.X
