import Derived.Test.YgvalwGreatRows
import Derived.ProofKit
set_option linter.unusedVariables false
set_option linter.unusedSimpArgs false
namespace Go.Proofs.YgvalwGreat
open Go.ChangeShapes Go.WideShapes Go.ChangeAt Go.RowKit

theorem fact_wf : Rows.stepSameOneCallRow.wf (OpenSpec.ofChange Rows.stepSameOneCallSpec) = true := by kernel_rfl
theorem fact_laid : laidOutB Hval.prog = true := by kernel_rfl
theorem fact_rowed : mapsRowed Hval.prog = true := by kernel_rfl
theorem fact_params : Hval.f3.params.all (Hval.prog.readableRec ·) = true := by kernel_rfl
theorem fact_tie : namedTie Hval.prog Rows.stepSameOneCallRow.named Rows.stepSameOneCallSpec.vars = true := by kernel_rfl
theorem fact_cstops : (Rows.stepSameOneCallRow.stops == []) = true := by kernel_rfl
theorem fact_pstops : (Hval.prog.stops == []) = true := by kernel_rfl
theorem fact_cknobs : (Rows.stepSameOneCallRow.knobs == []) = true := by kernel_rfl
theorem fact_pknobs : (Hval.prog.stopKnobs == []) = true := by kernel_rfl
theorem fact_maps : (Rows.stepSameOneCallRow.maps == (Hval.f3.params.toList ++ Rows.stepSameOneCallSpec.plain.varTypes Hval.prog).any (Hval.prog.mapsRec ·)) = true := by kernel_rfl
theorem fact_ifaces : (Rows.stepSameOneCallRow.ifaces == (Hval.f3.params.toList ++ Rows.stepSameOneCallSpec.plain.varTypes Hval.prog).any (Hval.prog.ifacesRec ·)) = true := by kernel_rfl
theorem fact_mapsOut : (Rows.stepSameOneCallRow.mapsOut == Hval.prog.mapsAmong Hval.f3.resultTypes.toList) = true := by kernel_rfl
theorem fact_loops : (Rows.stepSameOneCallRow.loops == (Hval.f3.params.toList ++ Rows.stepSameOneCallSpec.plain.varTypes Hval.prog).any (Hval.prog.loopsFrom ·)) = true := by kernel_rfl
theorem fact_wide : (Rows.stepSameOneCallRow.wideKeys == (Hval.f3.params.toList ++ Rows.stepSameOneCallSpec.plain.varTypes Hval.prog ++ Hval.f3.resultTypes.toList).any (Hval.prog.wideKeysFrom ·)) = true := by kernel_rfl
theorem fact_vars : Rows.stepSameOneCallSpec.vars.all (Hval.prog.varReadable ·) = true := by kernel_rfl
theorem fact_results : Hval.f3.resultTypes.all (fun t => Hval.prog.readableRec t && decide (t < Hval.prog.types.size)) = true := by kernel_rfl
theorem fact_ifacesOut : (Rows.stepSameOneCallRow.ifacesOut == Hval.f3.resultTypes.toList.any (Hval.prog.ifacesRec ·)) = true := by kernel_rfl
theorem fact_loopsOut : (Rows.stepSameOneCallRow.loopsOut == Hval.f3.resultTypes.toList.any (Hval.prog.loopsFrom ·)) = true := by kernel_rfl
theorem fact_plain : (Rows.stepSameOneCallRow.plainKeys == Hval.prog.plainKeys) = true := by kernel_rfl
theorem fact_short : Rows.stepSameOneCallRow.shortTexts.isNone = true := by kernel_rfl
theorem fact_heard : Hval.prog.stopsHeard = true := by kernel_rfl
theorem fact_enter : Hval.prog.mayEnter = true := by kernel_rfl
theorem fact_lifted : (Rows.stepSameOneCallRow.lifted == Hval.prog.liftsFinal) = true := by kernel_rfl
theorem fact_make : (Hval.prog.make == some Rows.stepSameOneCallRow.make) = true := by kernel_rfl
theorem fact_kinds : (Rows.stepSameOneCallRow.kinds == (if Rows.stepSameOneCallRow.domain.isEmpty then [] else Hval.f3.params.toList.map fun t => match Hval.prog.underlying t with | some (.int k) => some k | _ => none)) = true := by kernel_rfl
theorem fact_pinned : (Rows.stepSameOneCallRow.pinned == Rows.stepSameOneCallRow.pinnedBy) = true := by kernel_rfl
theorem fact_veiled : (Rows.stepSameOneCallRow.veiled == (Hval.f3.params.toList ++ Rows.stepSameOneCallSpec.plain.varTypes Hval.prog ++ Hval.f3.resultTypes.toList).any (Hval.prog.veiledRec ·)) = true := by kernel_rfl
theorem fact_veils : Rows.stepSameOneCallRow.veiledFits Hval.prog Hval.f3.params.toList (Hval.f3.params.toList ++ Rows.stepSameOneCallSpec.plain.varTypes Hval.prog ++ Hval.f3.resultTypes.toList) = true := by kernel_rfl
theorem fact_name : Hval.prog.funcNamed Rows.stepSameOneCallRow.func = some 3 := by kernel_rfl
theorem fact_inst : Hval.f3.isInstance Hval.prog Rows.stepSameOneCallRow.origin Rows.stepSameOneCallRow.targs := of_decide_eq_true (by kernel_rfl)
theorem fact_wrap : Hval.f3.isWrapper Hval.prog Rows.stepSameOneCallRow.wrapper Rows.stepSameOneCallRow.mainSum := by unfold Func.isWrapper; first | (rw [if_pos (by decide +kernel)]; kernel_rfl) | (rw [if_neg (by decide +kernel)]; exact ⟨rfl, rfl⟩)
end Go.Proofs.YgvalwGreat
