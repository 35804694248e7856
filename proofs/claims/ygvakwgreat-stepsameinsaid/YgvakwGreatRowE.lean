import Derived.Test.YgvakwGreatRows
import Derived.ProofKit
set_option linter.unusedVariables false
set_option linter.unusedSimpArgs false
namespace Go.Proofs.YgvakwGreat
open Go.ChangeShapes Go.WideShapes Go.ChangeAt Go.RowKit

theorem fact_wf : Rows.stepSameInRow.wf (OpenSpec.ofChange Rows.stepSameInSpec) = true := by kernel_rfl
theorem fact_laid : laidOutB Hvak.prog = true := by kernel_rfl
theorem fact_rowed : mapsRowed Hvak.prog = true := by kernel_rfl
theorem fact_params : Hvak.f3.params.all (Hvak.prog.readableRec ·) = true := by kernel_rfl
theorem fact_tie : namedTie Hvak.prog Rows.stepSameInRow.named Rows.stepSameInSpec.vars = true := by kernel_rfl
theorem fact_cstops : (Rows.stepSameInRow.stops == []) = true := by kernel_rfl
theorem fact_pstops : (Hvak.prog.stops == []) = true := by kernel_rfl
theorem fact_cknobs : (Rows.stepSameInRow.knobs == []) = true := by kernel_rfl
theorem fact_pknobs : (Hvak.prog.stopKnobs == []) = true := by kernel_rfl
theorem fact_maps : (Rows.stepSameInRow.maps == (Hvak.f3.params.toList ++ Rows.stepSameInSpec.plain.varTypes Hvak.prog).any (Hvak.prog.mapsRec ·)) = true := by kernel_rfl
theorem fact_ifaces : (Rows.stepSameInRow.ifaces == (Hvak.f3.params.toList ++ Rows.stepSameInSpec.plain.varTypes Hvak.prog).any (Hvak.prog.ifacesRec ·)) = true := by kernel_rfl
theorem fact_mapsOut : (Rows.stepSameInRow.mapsOut == Hvak.prog.mapsAmong Hvak.f3.resultTypes.toList) = true := by kernel_rfl
theorem fact_loops : (Rows.stepSameInRow.loops == (Hvak.f3.params.toList ++ Rows.stepSameInSpec.plain.varTypes Hvak.prog).any (Hvak.prog.loopsFrom ·)) = true := by kernel_rfl
theorem fact_wide : (Rows.stepSameInRow.wideKeys == (Hvak.f3.params.toList ++ Rows.stepSameInSpec.plain.varTypes Hvak.prog ++ Hvak.f3.resultTypes.toList).any (Hvak.prog.wideKeysFrom ·)) = true := by kernel_rfl
theorem fact_vars : Rows.stepSameInSpec.vars.all (Hvak.prog.varReadable ·) = true := by kernel_rfl
theorem fact_results : Hvak.f3.resultTypes.all (fun t => Hvak.prog.readableRec t && decide (t < Hvak.prog.types.size)) = true := by kernel_rfl
theorem fact_ifacesOut : (Rows.stepSameInRow.ifacesOut == Hvak.f3.resultTypes.toList.any (Hvak.prog.ifacesRec ·)) = true := by kernel_rfl
theorem fact_loopsOut : (Rows.stepSameInRow.loopsOut == Hvak.f3.resultTypes.toList.any (Hvak.prog.loopsFrom ·)) = true := by kernel_rfl
theorem fact_plain : (Rows.stepSameInRow.plainKeys == Hvak.prog.plainKeys) = true := by kernel_rfl
theorem fact_short : Rows.stepSameInRow.shortTexts.isNone = true := by kernel_rfl
theorem fact_heard : Hvak.prog.stopsHeard = true := by kernel_rfl
theorem fact_enter : Hvak.prog.mayEnter = true := by kernel_rfl
theorem fact_lifted : (Rows.stepSameInRow.lifted == Hvak.prog.liftsFinal) = true := by kernel_rfl
theorem fact_make : (Hvak.prog.make == some Rows.stepSameInRow.make) = true := by kernel_rfl
theorem fact_kinds : (Rows.stepSameInRow.kinds == (if Rows.stepSameInRow.domain.isEmpty then [] else Hvak.f3.params.toList.map fun t => match Hvak.prog.underlying t with | some (.int k) => some k | _ => none)) = true := by kernel_rfl
theorem fact_pinned : (Rows.stepSameInRow.pinned == Rows.stepSameInRow.pinnedBy) = true := by kernel_rfl
theorem fact_veiled : (Rows.stepSameInRow.veiled == (Hvak.f3.params.toList ++ Rows.stepSameInSpec.plain.varTypes Hvak.prog ++ Hvak.f3.resultTypes.toList).any (Hvak.prog.veiledRec ·)) = true := by kernel_rfl
theorem fact_veils : Rows.stepSameInRow.veiledFits Hvak.prog Hvak.f3.params.toList (Hvak.f3.params.toList ++ Rows.stepSameInSpec.plain.varTypes Hvak.prog ++ Hvak.f3.resultTypes.toList) = true := by kernel_rfl
theorem fact_name : Hvak.prog.funcNamed Rows.stepSameInRow.func = some 3 := by kernel_rfl
theorem fact_inst : Hvak.f3.isInstance Hvak.prog Rows.stepSameInRow.origin Rows.stepSameInRow.targs := of_decide_eq_true (by kernel_rfl)
theorem fact_wrap : Hvak.f3.isWrapper Hvak.prog Rows.stepSameInRow.wrapper Rows.stepSameInRow.mainSum := by unfold Func.isWrapper; first | (rw [if_pos (by decide +kernel)]; kernel_rfl) | (rw [if_neg (by decide +kernel)]; exact ⟨rfl, rfl⟩)
end Go.Proofs.YgvakwGreat
