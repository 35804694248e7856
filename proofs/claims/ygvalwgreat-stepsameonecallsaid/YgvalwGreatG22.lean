import Derived.Test.YgvalwGreatG21
set_option linter.unusedVariables false
set_option linter.unusedSimpArgs false
namespace Go.Proofs.YgvalwGreat.X
open Go

/-- Costs by the abstract world. -/
def accA (w : AW) (a : List Int) : Int := if w.warmA a = true then 100 else 2600
def emptyAA (x : AA) : Bool := decide (x.nonce = 0 ∧ x.bal = 0 ∧ x.code = [])
def destroyCA (w : AW) (self : List Int) (a0 : Int) : Int :=
  5000 + (if w.warmA (addrI a0) = true then 0 else 2600) + (if emptyAA (w.acct (addrI a0)) = true ∧ (w.acct self).bal ≠ 0 then 25000 else 0)
def enterCA (w : AW) (o : Int) (A : Nat → Int) : Int :=
  if o = 240 then 32000 + 2 * ((A 2 + 31) / 32) else if o = 245 then 32000 + 8 * ((A 2 + 31) / 32)
  else accA w (addrI (A 1)) + (if (o = 241 ∨ o = 242) ∧ A 2 ≠ 0 then 9000 + (if o = 241 ∧ emptyAA (w.acct (addrI (A 1))) = true then 25000 else 0) else 0)
def bareA (w : AW) (self : List Int) (o : Int) (A : Nat → Int) : Int :=
  if (96 ≤ o ∧ o ≤ 159) ∨ (16 ≤ o ∧ o ≤ 29) ∨ o = 1 ∨ o = 3 ∨ o = 53 ∨ (81 ≤ o ∧ o ≤ 83) then 3
  else if o = 2 ∨ (4 ≤ o ∧ o ≤ 7) ∨ o = 11 ∨ o = 71 then 5
  else if o = 8 ∨ o = 9 ∨ o = 86 then 8
  else if o = 87 then 10 else if o = 91 then 1 else if o = 64 then 20 else if o = 0 ∨ o = 243 ∨ o = 253 then 0
  else if o = 10 then 10 + 50 * nbI (A 1)
  else if o = 32 then 30 + 6 * ((A 1 + 31) / 32)
  else if o = 55 ∨ o = 57 ∨ o = 62 ∨ o = 94 then 3 + 3 * ((A 2 + 31) / 32)
  else if o = 49 ∨ o = 59 ∨ o = 63 then accA w (addrI (A 0))
  else if o = 60 then accA w (addrI (A 0)) + 3 * ((A 3 + 31) / 32)
  else if 160 ≤ o ∧ o ≤ 164 then 375 + 375 * (o - 160) + 8 * A 1
  else if o = 84 then (if w.warmS self (A 0) = true then 100 else 2100)
  else if o = 85 then sstoreC ((w.acct self).slot (A 0)) (A 1) (!w.warmS self (A 0))
  else if o = 92 ∨ o = 93 then 100
  else if o = 255 then destroyCA w self (A 0)
  else if famI o = 16 then enterCA w o A
  else 2
def costA (w : AW) (self : List Int) (o : Int) (A : Nat → Int) (words : Int) : Int :=
  bareA w self o A + (if needI o A ≤ words then 0 else lessI (memCost (needI o A)) (memCost words))
theorem accI_abs (w : YW) (a : List Int) : accI w.wa a = accA (absW w) a := by
  unfold accI accA absW; simp
theorem bareI_abs (w : YW) (self : List Int) (o : Int) (A : Nat → Int) : bareI w self o A = bareA (absW w) self o A := by
  have h1 : destroyI w self (A 0) = destroyCA (absW w) self (A 0) := by
    unfold destroyI destroyCA absW emptyA emptyAA absA; simp
  have h2 : enterI w o A = enterCA (absW w) o A := by
    unfold enterI enterCA
    rw [accI_abs]
    rfl
  unfold bareI bareA
  rw [accI_abs, h1, h2]
  rfl
theorem costI_abs (w : YW) (self : List Int) (o : Int) (A : Nat → Int) (words : Int) : costI w self o A words = costA (absW w) self o A words := by
  unfold costI costA; rw [bareI_abs]
/-- ONE STEP of the machine, abstractly; the top frame is 'f', above 'base'. -/
def stepF (a : AS) (base : List AF) (f : AF) (orig : List Int) : AS :=
  if f.natv ≠ 0 then natvA a base f
  else
    let o := opI f.code f.pc
    let A := argA f.st
    let r := refA o (costA a.w f.self o A (f.mem.length / 32 : Nat)) f.gas f.st.length A f.static f.code a.ret.length
    if r.1 ≠ 0 then leaveA a base f r.1 []
    else
      let f1 := { f with gas := f.gas - r.2, mem := growI f.mem (needI o A).toNat }
      let a1 := { a with frs := base ++ [f1] }
      if o = 0 then leaveA a1 base f1 0 []
      else if o = 243 then leaveA a1 base f1 0 (cutN f1.mem (A 0).toNat (A 1).toNat)
      else if o = 253 then leaveA a1 base f1 1 (cutN f1.mem (A 0).toNat (A 1).toNat)
      else if o = 255 then destroyA a1 base f1 (A 0)
      else if famI o = 16 then entersA a1 base f1 o
      else plainA a1 base f1 orig o
end Go.Proofs.YgvalwGreat.X
