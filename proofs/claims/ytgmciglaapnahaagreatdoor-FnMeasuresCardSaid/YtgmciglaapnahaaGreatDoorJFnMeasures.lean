/- The closed facts of the row of FnMeasures, one by one. -/
import Derived.Test.YtgmciglaapnahaaGreatDoorCards
import Derived.Test.YtgmciglaapnahaaGreatDoorTie
import Derived.SevenTiedAt
import Derived.JoinedOf
import Derived.WalkKit
namespace Go.Proofs.YtgmciglaapnahaaGreatDoor.fnMeasures
set_option linter.unusedVariables false
set_option linter.unusedSimpArgs false
open Go.ChangeShapes Go.WideShapes Go.RowKit

theorem jf0 : (Rows.fnMeasuresRow.wf (OpenSpec.ofChange Rows.fnMeasuresSpec)) = true := by kernel_rfl
theorem jf1 : (laidOutB Tryz.prog) = true := by kernel_rfl
theorem jf2 : (mapsRowed Tryz.prog) = true := by kernel_rfl
theorem jf3 : (Tryz.f5.params.all (Tryz.prog.readableRec ·)) = true := by kernel_rfl
theorem jf4 : (namedTie Tryz.prog Rows.fnMeasuresRow.named Rows.fnMeasuresSpec.vars) = true := by kernel_rfl
theorem jf5 : (Rows.fnMeasuresRow.stops == []) = true := by kernel_rfl
theorem jf6 : (Tryz.prog.stops == []) = true := by kernel_rfl
theorem jf7 : (Rows.fnMeasuresRow.knobs == []) = true := by kernel_rfl
theorem jf8 : (Tryz.prog.stopKnobs == []) = true := by kernel_rfl
theorem jf9 : (Rows.fnMeasuresRow.inPlace == Tryz.prog.inPlace 5) = true := by kernel_rfl
theorem jf10 : (Rows.fnMeasuresRow.unfollowed == Tryz.prog.unfollowed 5) = true := by kernel_rfl
theorem jf11 : (Rows.fnMeasuresRow.recurses == Tryz.prog.recurses 5) = true := by kernel_rfl
theorem jf12 : (Rows.fnMeasuresRow.named == Tryz.prog.varsNamed 5) = true := by kernel_rfl
theorem jf13 : (Rows.fnMeasuresRow.maps == (Tryz.f5.params.toList ++ Rows.fnMeasuresSpec.plain.varTypes Tryz.prog).any (Tryz.prog.mapsRec ·)) = true := by kernel_rfl
theorem jf14 : (Rows.fnMeasuresRow.ifaces == (Tryz.f5.params.toList ++ Rows.fnMeasuresSpec.plain.varTypes Tryz.prog).any (Tryz.prog.ifacesRec ·)) = true := by kernel_rfl
theorem jf15 : (Rows.fnMeasuresRow.mapsOut == Tryz.prog.mapsAmong Tryz.f5.resultTypes.toList) = true := by kernel_rfl
theorem jf16 : (Rows.fnMeasuresRow.loops == (Tryz.f5.params.toList ++ Rows.fnMeasuresSpec.plain.varTypes Tryz.prog).any (Tryz.prog.loopsFrom ·)) = true := by kernel_rfl
theorem jf17 : (Rows.fnMeasuresRow.wideKeys == (Tryz.f5.params.toList ++ Rows.fnMeasuresSpec.plain.varTypes Tryz.prog ++ Tryz.f5.resultTypes.toList).any (Tryz.prog.wideKeysFrom ·)) = true := by kernel_rfl
theorem jf18 : (Rows.fnMeasuresSpec.vars.all (Tryz.prog.varReadable ·)) = true := by kernel_rfl
theorem jf19 : (Tryz.f5.resultTypes.all (fun t => Tryz.prog.readableRec t && decide (t < Tryz.prog.types.size))) = true := by kernel_rfl
theorem jf20 : (Rows.fnMeasuresRow.ifacesOut == Tryz.f5.resultTypes.toList.any (Tryz.prog.ifacesRec ·)) = true := by kernel_rfl
theorem jf21 : (Rows.fnMeasuresRow.loopsOut == Tryz.f5.resultTypes.toList.any (Tryz.prog.loopsFrom ·)) = true := by kernel_rfl
theorem jf22 : (Rows.fnMeasuresRow.plainKeys == Tryz.prog.plainKeys) = true := by kernel_rfl
theorem jf23 : (Rows.fnMeasuresRow.shortTexts.isNone) = true := by kernel_rfl
theorem jf24 : (Tryz.prog.stopsHeard) = true := by kernel_rfl
theorem jf25 : (Tryz.prog.mayEnter) = true := by kernel_rfl
theorem jf26 : (Rows.fnMeasuresRow.lifted == Tryz.prog.liftsFinal) = true := by kernel_rfl
theorem jf27 : (Tryz.prog.make == some Rows.fnMeasuresRow.make) = true := by kernel_rfl
theorem jf28 : (Rows.fnMeasuresRow.kinds == (if Rows.fnMeasuresRow.domain.isEmpty then [] else Tryz.f5.params.toList.map fun t => match Tryz.prog.underlying t with | some (.int k) => some k | _ => none)) = true := by kernel_rfl
theorem jf29 : (Rows.fnMeasuresRow.pinned == Rows.fnMeasuresRow.pinnedBy) = true := by kernel_rfl
theorem jf30 : (Rows.fnMeasuresRow.veiled == (Tryz.f5.params.toList ++ Rows.fnMeasuresSpec.plain.varTypes Tryz.prog ++ Tryz.f5.resultTypes.toList).any (Tryz.prog.veiledRec ·)) = true := by kernel_rfl
theorem jf31 : (Rows.fnMeasuresRow.veiledFits Tryz.prog Tryz.f5.params.toList (Tryz.f5.params.toList ++ Rows.fnMeasuresSpec.plain.varTypes Tryz.prog ++ Tryz.f5.resultTypes.toList)) = true := by kernel_rfl
theorem and2 {a b : Bool} (h1 : a = true) (h2 : b = true) : (a && b) = true := by rw [h1, h2]; rfl
theorem pw : Rows.fnMeasuresRow.wfByText (OpenSpec.ofChange Rows.fnMeasuresSpec) = true := by kernel_rfl
theorem pm : Tryz.prog.mainIs = some (Rows.fnMeasuresCard.stood.harness.1, Rows.fnMeasuresCard.stood.harness.2.toList) := by kernel_rfl
theorem ph : (!Rows.fnMeasuresCard.stood.harness.1 && Rows.fnMeasuresCard.stood.harness.2.isEmpty && !Rows.fnMeasuresCard.stood.looks) = false := by kernel_rfl
theorem pl : Rows.fnMeasuresCard.stood.looks = Tryz.prog.looks [] := by kernel_rfl
theorem pg : false = Rows.fnMeasuresRow.goesBy Tryz.prog := by kernel_rfl
theorem pf : Tryz.prog.funcNamed Rows.fnMeasuresRow.func = some 5 := by kernel_rfl
theorem ps : (Tryz.f5.params.toList.all fun u => !Tryz.prog.wantsStandIn u) = true := by rw [Tryz.params5]; kernel_rfl
end Go.Proofs.YtgmciglaapnahaaGreatDoor.fnMeasures
