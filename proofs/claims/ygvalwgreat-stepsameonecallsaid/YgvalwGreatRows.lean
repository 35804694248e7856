/-
  No cell of these rows narrows 'for every input' (looked for: loops, veiled, ifaces, maps, wideKeys, modest, calm, conditions, laid).
  DERIVED. THE GIVEN ROWS OF THIS SEAT. 1 by the template 'for every input the law returns true; each argument reads behind the call as it read before'; 0 by the template 'total and deterministic' (their statements: YgvalwGreatTotals.lean).
  GIVEN WITH THE SEED: the statements are not yours to turn. If you find one false, say at which input.
  Laid BY PROGRAM, IN A SANDBOX (cutbox-rows.mjs): the forced cells as the released guide's own fill.sh prints them over the translation 2bad65622d5986ee… (all of the seat's roots in one cut). By AI agents, Wed Nov 11 2026. No macro, syntax, notation, axiom, sorry.
-/
import Derived.Test.YgvalwGreatChecked
import GoSem.Claim
import GoSem.ClaimJoined
import GoSem.ClaimMapViews
import Derived.JoinedTies
import Derived.KernelRfl
namespace Go.Proofs.YgvalwGreat
/- THE CELL 'sum', in the pinned program and in every row, IS THE sha256 OF THE DUMP (.gsa) THAT YgvalwGreatProg.lean LOADS. Nothing in Lean hashes anything: it is a label: what it is worth is what the hold of that sum in a sandbox is worth. -/
noncomputable def Hval.pinned : Pinned := { name := "ygvalwgreat", sum := "2bad65622d5986ee8c8a4fb3fbc168af4046cb7f57863c3d75ea9dac52d4377d", checked := Hval.checked }
namespace Rows
def none {H : Type} : Left H := { results := [], args := [] }

/-- 'law.StepSameOneCall': WHATEVER THE INPUT: true; the input reads as it did. -/
def stepSameOneCallSpec : ChangeSpec := { name := "stepSameOneCall", fn := fun _ => fun
  | [d1, d2, d3] => { results := [.lit (.bool true)], args := [d1, d2, d3] }
  | _ => none }
def stepSameOneCallRow : OpenClaim := { program := "ygvalwgreat", sum := "2bad65622d5986ee8c8a4fb3fbc168af4046cb7f57863c3d75ea9dac52d4377d", func := "yellow/law.StepSameOneCall", spec := "stepSameOneCall", inPlace := ["math/bits.Add64", "math/bits.Sub64"], named := ["math/bits.divideError", "math/bits.overflowError"], apart := false }
def StepSameOneCallSaid : Prop := stepSameOneCallRow.holds Hval.pinned (OpenSpec.ofChange stepSameOneCallSpec)

/-- ITS FALSE NEIGHBOUR: 'it returns false'. Refute it at one input. -/
def stepSameOneCallWrong : ChangeSpec := { name := "stepSameOneCall", fn := fun _ => fun
  | [d1, d2, d3] => { results := [.lit (.bool false)], args := [d1, d2, d3] }
  | _ => none }
def StepSameOneCallWrongFalsely : Prop := stepSameOneCallRow.holds Hval.pinned (OpenSpec.ofChange stepSameOneCallWrong)

end Rows
end Go.Proofs.YgvalwGreat
