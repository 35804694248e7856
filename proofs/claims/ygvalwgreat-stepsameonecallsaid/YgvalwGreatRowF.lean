import Derived.Test.YgvalwGreatRowA
import Derived.Test.YgvalwGreatRowB
import Derived.Test.YgvalwGreatRowC
import Derived.Test.YgvalwGreatRowD
import Derived.Test.YgvalwGreatRowE
set_option linter.unusedVariables false
set_option linter.unusedSimpArgs false
namespace Go.Proofs.YgvalwGreat
open Go.ChangeShapes Go.WideShapes Go.ChangeAt Go.RowKit

theorem both_true {a b : Bool} (ha : a = true) (hb : b = true) : (a && b) = true := by rw [ha, hb]; rfl
theorem facts : joinedFacts Hval.prog 3 Hval.f3 Rows.stepSameOneCallSpec Rows.stepSameOneCallRow = true := by
  unfold joinedFacts
  exact both_true (both_true (both_true (both_true (both_true (both_true (both_true (both_true (both_true (both_true (both_true (both_true (both_true (both_true (both_true (both_true (both_true (both_true (both_true (both_true (both_true (both_true (both_true (both_true (both_true (both_true (both_true (both_true (both_true (both_true (both_true (fact_wf) fact_laid) fact_rowed) fact_params) fact_tie) fact_cstops) fact_pstops) fact_cknobs) fact_pknobs) fact_place) fact_unfol) fact_recur) fact_named) fact_maps) fact_ifaces) fact_mapsOut) fact_loops) fact_wide) fact_vars) fact_results) fact_ifacesOut) fact_loopsOut) fact_plain) fact_short) fact_heard) fact_enter) fact_lifted) fact_make) (by kernel_rfl)) fact_pinned) fact_veiled) fact_veils
end Go.Proofs.YgvalwGreat
