/-
  No cell of these rows narrows 'for every input' (looked for: loops, veiled, ifaces, maps, wideKeys, modest, calm, conditions, laid).
  DERIVED. THE GIVEN ROWS OF THIS SEAT. 1 by the template 'for every input the law returns true; each argument reads behind the call as it read before'; 0 by the template 'total and deterministic' (their statements: YgvakwGreatTotals.lean).
  GIVEN WITH THE SEED: the statements are not yours to turn. If you find one false, say at which input.
  Laid BY PROGRAM, IN A SANDBOX (cutbox-rows.mjs): the forced cells as the released guide's own fill.sh prints them over the translation 3118d2207d1d54b0… (all of the seat's roots in one cut). By AI agents, Wed Nov 11 2026. No macro, syntax, notation, axiom, sorry.
-/
import Derived.Test.YgvakwGreatChecked
import GoSem.Claim
import GoSem.ClaimJoined
import GoSem.ClaimMapViews
import Derived.JoinedTies
import Derived.KernelRfl
namespace Go.Proofs.YgvakwGreat
/- THE CELL 'sum', in the pinned program and in every row, IS THE sha256 OF THE DUMP (.gsa) THAT YgvakwGreatProg.lean LOADS. Nothing in Lean hashes anything: it is a label: what it is worth is what the hold of that sum in a sandbox is worth. -/
noncomputable def Hvak.pinned : Pinned := { name := "ygvakwgreat", sum := "3118d2207d1d54b0b477b9bfef332c0aaaf5880754f738d93c8d15b8ee50bf30", checked := Hvak.checked }
namespace Rows
def none {H : Type} : Left H := { results := [], args := [] }

/-- 'law.StepSameIn': WHATEVER THE INPUT: true; the input reads as it did. -/
def stepSameInSpec : ChangeSpec := { name := "stepSameIn", fn := fun _ => fun
  | [d1, d2, d3, d4] => { results := [.lit (.bool true)], args := [d1, d2, d3, d4] }
  | _ => none }
def stepSameInRow : OpenClaim := { program := "ygvakwgreat", sum := "3118d2207d1d54b0b477b9bfef332c0aaaf5880754f738d93c8d15b8ee50bf30", func := "yellow/law.StepSameIn", spec := "stepSameIn", inPlace := ["math/bits.Add64", "math/bits.Sub64"], named := ["math/bits.divideError", "math/bits.overflowError"], apart := false }
def StepSameInSaid : Prop := stepSameInRow.holds Hvak.pinned (OpenSpec.ofChange stepSameInSpec)

/-- ITS FALSE NEIGHBOUR: 'it returns false'. Refute it at one input. -/
def stepSameInWrong : ChangeSpec := { name := "stepSameIn", fn := fun _ => fun
  | [d1, d2, d3, d4] => { results := [.lit (.bool false)], args := [d1, d2, d3, d4] }
  | _ => none }
def StepSameInWrongFalsely : Prop := stepSameInRow.holds Hvak.pinned (OpenSpec.ofChange stepSameInWrong)

end Rows
end Go.Proofs.YgvakwGreat
