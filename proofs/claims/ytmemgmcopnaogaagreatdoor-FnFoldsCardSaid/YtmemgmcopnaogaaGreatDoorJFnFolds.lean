/- The closed facts of the row of FnFolds, one by one. -/
import Derived.Test.YtmemgmcopnaogaaGreatDoorCards
import Derived.Test.YtmemgmcopnaogaaGreatDoorTie
import Derived.SevenTiedAt
import Derived.JoinedOf
import Derived.WalkKit
namespace Go.Proofs.YtmemgmcopnaogaaGreatDoor.fnFolds
set_option linter.unusedVariables false
set_option linter.unusedSimpArgs false
open Go.ChangeShapes Go.WideShapes Go.RowKit

theorem jf0 : (Rows.fnFoldsRow.wf (OpenSpec.ofChange Rows.fnFoldsSpec)) = true := by kernel_rfl
theorem jf1 : (laidOutB Tryz.prog) = true := by kernel_rfl
theorem jf2 : (mapsRowed Tryz.prog) = true := by kernel_rfl
theorem jf3 : (Tryz.f3.params.all (Tryz.prog.readableRec ·)) = true := by kernel_rfl
theorem jf4 : (namedTie Tryz.prog Rows.fnFoldsRow.named Rows.fnFoldsSpec.vars) = true := by kernel_rfl
theorem jf5 : (Rows.fnFoldsRow.stops == []) = true := by kernel_rfl
theorem jf6 : (Tryz.prog.stops == []) = true := by kernel_rfl
theorem jf7 : (Rows.fnFoldsRow.knobs == []) = true := by kernel_rfl
theorem jf8 : (Tryz.prog.stopKnobs == []) = true := by kernel_rfl
theorem jf9 : (Rows.fnFoldsRow.inPlace == Tryz.prog.inPlace 3) = true := by kernel_rfl
theorem jf10 : (Rows.fnFoldsRow.unfollowed == Tryz.prog.unfollowed 3) = true := by kernel_rfl
theorem jf11 : (Rows.fnFoldsRow.recurses == Tryz.prog.recurses 3) = true := by kernel_rfl
theorem jf12 : (Rows.fnFoldsRow.named == Tryz.prog.varsNamed 3) = true := by kernel_rfl
theorem jf13 : (Rows.fnFoldsRow.maps == (Tryz.f3.params.toList ++ Rows.fnFoldsSpec.plain.varTypes Tryz.prog).any (Tryz.prog.mapsRec ·)) = true := by kernel_rfl
theorem jf14 : (Rows.fnFoldsRow.ifaces == (Tryz.f3.params.toList ++ Rows.fnFoldsSpec.plain.varTypes Tryz.prog).any (Tryz.prog.ifacesRec ·)) = true := by kernel_rfl
theorem jf15 : (Rows.fnFoldsRow.mapsOut == Tryz.prog.mapsAmong Tryz.f3.resultTypes.toList) = true := by kernel_rfl
theorem jf16 : (Rows.fnFoldsRow.loops == (Tryz.f3.params.toList ++ Rows.fnFoldsSpec.plain.varTypes Tryz.prog).any (Tryz.prog.loopsFrom ·)) = true := by kernel_rfl
theorem jf17 : (Rows.fnFoldsRow.wideKeys == (Tryz.f3.params.toList ++ Rows.fnFoldsSpec.plain.varTypes Tryz.prog ++ Tryz.f3.resultTypes.toList).any (Tryz.prog.wideKeysFrom ·)) = true := by kernel_rfl
theorem jf18 : (Rows.fnFoldsSpec.vars.all (Tryz.prog.varReadable ·)) = true := by kernel_rfl
theorem jf19 : (Tryz.f3.resultTypes.all (fun t => Tryz.prog.readableRec t && decide (t < Tryz.prog.types.size))) = true := by kernel_rfl
theorem jf20 : (Rows.fnFoldsRow.ifacesOut == Tryz.f3.resultTypes.toList.any (Tryz.prog.ifacesRec ·)) = true := by kernel_rfl
theorem jf21 : (Rows.fnFoldsRow.loopsOut == Tryz.f3.resultTypes.toList.any (Tryz.prog.loopsFrom ·)) = true := by kernel_rfl
theorem jf22 : (Rows.fnFoldsRow.plainKeys == Tryz.prog.plainKeys) = true := by kernel_rfl
theorem jf23 : (Rows.fnFoldsRow.shortTexts.isNone) = true := by kernel_rfl
theorem jf24 : (Tryz.prog.stopsHeard) = true := by kernel_rfl
theorem jf25 : (Tryz.prog.mayEnter) = true := by kernel_rfl
theorem jf26 : (Rows.fnFoldsRow.lifted == Tryz.prog.liftsFinal) = true := by kernel_rfl
theorem jf27 : (Tryz.prog.make == some Rows.fnFoldsRow.make) = true := by kernel_rfl
theorem jf28 : (Rows.fnFoldsRow.kinds == (if Rows.fnFoldsRow.domain.isEmpty then [] else Tryz.f3.params.toList.map fun t => match Tryz.prog.underlying t with | some (.int k) => some k | _ => none)) = true := by kernel_rfl
theorem jf29 : (Rows.fnFoldsRow.pinned == Rows.fnFoldsRow.pinnedBy) = true := by kernel_rfl
theorem jf30 : (Rows.fnFoldsRow.veiled == (Tryz.f3.params.toList ++ Rows.fnFoldsSpec.plain.varTypes Tryz.prog ++ Tryz.f3.resultTypes.toList).any (Tryz.prog.veiledRec ·)) = true := by kernel_rfl
theorem jf31 : (Rows.fnFoldsRow.veiledFits Tryz.prog Tryz.f3.params.toList (Tryz.f3.params.toList ++ Rows.fnFoldsSpec.plain.varTypes Tryz.prog ++ Tryz.f3.resultTypes.toList)) = true := by kernel_rfl
theorem and2 {a b : Bool} (h1 : a = true) (h2 : b = true) : (a && b) = true := by rw [h1, h2]; rfl
theorem pw : Rows.fnFoldsRow.wfByText (OpenSpec.ofChange Rows.fnFoldsSpec) = true := by kernel_rfl
theorem pm : Tryz.prog.mainIs = some (Rows.fnFoldsCard.stood.harness.1, Rows.fnFoldsCard.stood.harness.2.toList) := by kernel_rfl
theorem ph : (!Rows.fnFoldsCard.stood.harness.1 && Rows.fnFoldsCard.stood.harness.2.isEmpty && !Rows.fnFoldsCard.stood.looks) = false := by kernel_rfl
theorem pl : Rows.fnFoldsCard.stood.looks = Tryz.prog.looks [] := by kernel_rfl
theorem pg : false = Rows.fnFoldsRow.goesBy Tryz.prog := by kernel_rfl
theorem pf : Tryz.prog.funcNamed Rows.fnFoldsRow.func = some 3 := by kernel_rfl
theorem ps : (Tryz.f3.params.toList.all fun u => !Tryz.prog.wantsStandIn u) = true := by rw [Tryz.params3]; kernel_rfl
end Go.Proofs.YtmemgmcopnaogaaGreatDoor.fnFolds
