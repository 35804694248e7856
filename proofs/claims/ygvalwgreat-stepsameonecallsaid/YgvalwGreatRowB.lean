import Derived.Test.YgvalwGreatRows
import Derived.ProofKit
set_option linter.unusedVariables false
set_option linter.unusedSimpArgs false
namespace Go.Proofs.YgvalwGreat
open Go.ChangeShapes Go.WideShapes Go.ChangeAt Go.RowKit

theorem fact_unfol : (Rows.stepSameOneCallRow.unfollowed == Hval.prog.unfollowed 3) = true := by kernel_rfl
end Go.Proofs.YgvalwGreat
