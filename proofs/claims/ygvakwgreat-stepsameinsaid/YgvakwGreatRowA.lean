import Derived.Test.YgvakwGreatRows
import Derived.ProofKit
set_option linter.unusedVariables false
set_option linter.unusedSimpArgs false
namespace Go.Proofs.YgvakwGreat
open Go.ChangeShapes Go.WideShapes Go.ChangeAt Go.RowKit

theorem fact_place : (Rows.stepSameInRow.inPlace == Hvak.prog.inPlace 3) = true := by kernel_rfl
end Go.Proofs.YgvakwGreat
