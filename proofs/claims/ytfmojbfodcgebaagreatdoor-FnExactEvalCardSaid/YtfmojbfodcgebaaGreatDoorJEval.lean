/- The closed facts of the row of FnExactEval, one by one. -/
import Derived.Test.YtfmojbfodcgebaaGreatDoorCards
import Derived.Test.YtfmojbfodcgebaaGreatDoorTie
import Derived.SevenTiedAt
import Derived.JoinedOf
import Derived.WalkKit
namespace Go.Proofs.YtfmojbfodcgebaaGreatDoor.fnExactEval
set_option linter.unusedVariables false
set_option linter.unusedSimpArgs false
open Go.ChangeShapes Go.WideShapes Go.RowKit

theorem jf0 : (Rows.fnExactEvalRow.wf (OpenSpec.ofChange Rows.fnExactEvalSpec)) = true := by kernel_rfl
theorem jf1 : (laidOutB Tryz.prog) = true := by kernel_rfl
theorem jf2 : (mapsRowed Tryz.prog) = true := by kernel_rfl
theorem jf3 : (Tryz.f10.params.all (Tryz.prog.readableRec ·)) = true := by kernel_rfl
theorem jf4 : (namedTie Tryz.prog Rows.fnExactEvalRow.named Rows.fnExactEvalSpec.vars) = true := by kernel_rfl
theorem jf5 : (Rows.fnExactEvalRow.stops == []) = true := by kernel_rfl
theorem jf6 : (Tryz.prog.stops == []) = true := by kernel_rfl
theorem jf7 : (Rows.fnExactEvalRow.knobs == []) = true := by kernel_rfl
theorem jf8 : (Tryz.prog.stopKnobs == []) = true := by kernel_rfl
theorem jf9 : (Rows.fnExactEvalRow.inPlace == Tryz.prog.inPlace 10) = true := by kernel_rfl
theorem jf10 : (Rows.fnExactEvalRow.unfollowed == Tryz.prog.unfollowed 10) = true := by kernel_rfl
theorem jf11 : (Rows.fnExactEvalRow.recurses == Tryz.prog.recurses 10) = true := by kernel_rfl
theorem jf12 : (Rows.fnExactEvalRow.named == Tryz.prog.varsNamed 10) = true := by kernel_rfl
theorem jf13 : (Rows.fnExactEvalRow.maps == (Tryz.f10.params.toList ++ Rows.fnExactEvalSpec.plain.varTypes Tryz.prog).any (Tryz.prog.mapsRec ·)) = true := by kernel_rfl
theorem jf14 : (Rows.fnExactEvalRow.ifaces == (Tryz.f10.params.toList ++ Rows.fnExactEvalSpec.plain.varTypes Tryz.prog).any (Tryz.prog.ifacesRec ·)) = true := by kernel_rfl
theorem jf15 : (Rows.fnExactEvalRow.mapsOut == Tryz.prog.mapsAmong Tryz.f10.resultTypes.toList) = true := by kernel_rfl
theorem jf16 : (Rows.fnExactEvalRow.loops == (Tryz.f10.params.toList ++ Rows.fnExactEvalSpec.plain.varTypes Tryz.prog).any (Tryz.prog.loopsFrom ·)) = true := by kernel_rfl
theorem jf17 : (Rows.fnExactEvalRow.wideKeys == (Tryz.f10.params.toList ++ Rows.fnExactEvalSpec.plain.varTypes Tryz.prog ++ Tryz.f10.resultTypes.toList).any (Tryz.prog.wideKeysFrom ·)) = true := by kernel_rfl
theorem jf18 : (Rows.fnExactEvalSpec.vars.all (Tryz.prog.varReadable ·)) = true := by kernel_rfl
theorem jf19 : (Tryz.f10.resultTypes.all (fun t => Tryz.prog.readableRec t && decide (t < Tryz.prog.types.size))) = true := by kernel_rfl
theorem jf20 : (Rows.fnExactEvalRow.ifacesOut == Tryz.f10.resultTypes.toList.any (Tryz.prog.ifacesRec ·)) = true := by kernel_rfl
theorem jf21 : (Rows.fnExactEvalRow.loopsOut == Tryz.f10.resultTypes.toList.any (Tryz.prog.loopsFrom ·)) = true := by kernel_rfl
theorem jf22 : (Rows.fnExactEvalRow.plainKeys == Tryz.prog.plainKeys) = true := by kernel_rfl
theorem jf23 : (Rows.fnExactEvalRow.shortTexts.isNone) = true := by kernel_rfl
theorem jf24 : (Tryz.prog.stopsHeard) = true := by kernel_rfl
theorem jf25 : (Tryz.prog.mayEnter) = true := by kernel_rfl
theorem jf26 : (Rows.fnExactEvalRow.lifted == Tryz.prog.liftsFinal) = true := by kernel_rfl
theorem jf27 : (Tryz.prog.make == some Rows.fnExactEvalRow.make) = true := by kernel_rfl
theorem jf28 : (Rows.fnExactEvalRow.kinds == (if Rows.fnExactEvalRow.domain.isEmpty then [] else Tryz.f10.params.toList.map fun t => match Tryz.prog.underlying t with | some (.int k) => some k | _ => none)) = true := by kernel_rfl
theorem jf29 : (Rows.fnExactEvalRow.pinned == Rows.fnExactEvalRow.pinnedBy) = true := by kernel_rfl
theorem jf30 : (Rows.fnExactEvalRow.veiled == (Tryz.f10.params.toList ++ Rows.fnExactEvalSpec.plain.varTypes Tryz.prog ++ Tryz.f10.resultTypes.toList).any (Tryz.prog.veiledRec ·)) = true := by kernel_rfl
theorem jf31 : (Rows.fnExactEvalRow.veiledFits Tryz.prog Tryz.f10.params.toList (Tryz.f10.params.toList ++ Rows.fnExactEvalSpec.plain.varTypes Tryz.prog ++ Tryz.f10.resultTypes.toList)) = true := by kernel_rfl
theorem and2 {a b : Bool} (h1 : a = true) (h2 : b = true) : (a && b) = true := by rw [h1, h2]; rfl
theorem pw : Rows.fnExactEvalRow.wfByText (OpenSpec.ofChange Rows.fnExactEvalSpec) = true := by kernel_rfl
theorem pm : Tryz.prog.mainIs = some (Rows.fnExactEvalCard.stood.harness.1, Rows.fnExactEvalCard.stood.harness.2.toList) := by kernel_rfl
theorem ph : (!Rows.fnExactEvalCard.stood.harness.1 && Rows.fnExactEvalCard.stood.harness.2.isEmpty && !Rows.fnExactEvalCard.stood.looks) = false := by kernel_rfl
theorem pl : Rows.fnExactEvalCard.stood.looks = Tryz.prog.looks [] := by kernel_rfl
theorem pg : false = Rows.fnExactEvalRow.goesBy Tryz.prog := by kernel_rfl
theorem pf : Tryz.prog.funcNamed Rows.fnExactEvalRow.func = some 10 := by kernel_rfl
theorem ps : (Tryz.f10.params.toList.all fun u => !Tryz.prog.wantsStandIn u) = true := by rw [Tryz.params10]; kernel_rfl
end Go.Proofs.YtfmojbfodcgebaaGreatDoor.fnExactEval
