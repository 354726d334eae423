/- The closed facts of the row of FnExactRepeated, one by one. -/
import Derived.Test.YtilaeehhdpjpmaaGreatDoorCards
import Derived.Test.YtilaeehhdpjpmaaGreatDoorTie
import Derived.SevenTiedAt
import Derived.JoinedOf
import Derived.WalkKit
namespace Go.Proofs.YtilaeehhdpjpmaaGreatDoor.fnExactRepeated
set_option linter.unusedVariables false
set_option linter.unusedSimpArgs false
open Go.ChangeShapes Go.WideShapes Go.RowKit

theorem jf0 : (Rows.fnExactRepeatedRow.wf (OpenSpec.ofChange Rows.fnExactRepeatedSpec)) = true := by kernel_rfl
theorem jf1 : (laidOutB Tryz.prog) = true := by kernel_rfl
theorem jf2 : (mapsRowed Tryz.prog) = true := by kernel_rfl
theorem jf3 : (Tryz.f8.params.all (Tryz.prog.readableRec ·)) = true := by kernel_rfl
theorem jf4 : (namedTie Tryz.prog Rows.fnExactRepeatedRow.named Rows.fnExactRepeatedSpec.vars) = true := by kernel_rfl
theorem jf5 : (Rows.fnExactRepeatedRow.stops == []) = true := by kernel_rfl
theorem jf6 : (Tryz.prog.stops == []) = true := by kernel_rfl
theorem jf7 : (Rows.fnExactRepeatedRow.knobs == []) = true := by kernel_rfl
theorem jf8 : (Tryz.prog.stopKnobs == []) = true := by kernel_rfl
theorem jf9 : (Rows.fnExactRepeatedRow.inPlace == Tryz.prog.inPlace 8) = true := by kernel_rfl
theorem jf10 : (Rows.fnExactRepeatedRow.unfollowed == Tryz.prog.unfollowed 8) = true := by kernel_rfl
theorem jf11 : (Rows.fnExactRepeatedRow.recurses == Tryz.prog.recurses 8) = true := by kernel_rfl
theorem jf12 : (Rows.fnExactRepeatedRow.named == Tryz.prog.varsNamed 8) = true := by kernel_rfl
theorem jf13 : (Rows.fnExactRepeatedRow.maps == (Tryz.f8.params.toList ++ Rows.fnExactRepeatedSpec.plain.varTypes Tryz.prog).any (Tryz.prog.mapsRec ·)) = true := by kernel_rfl
theorem jf14 : (Rows.fnExactRepeatedRow.ifaces == (Tryz.f8.params.toList ++ Rows.fnExactRepeatedSpec.plain.varTypes Tryz.prog).any (Tryz.prog.ifacesRec ·)) = true := by kernel_rfl
theorem jf15 : (Rows.fnExactRepeatedRow.mapsOut == Tryz.prog.mapsAmong Tryz.f8.resultTypes.toList) = true := by kernel_rfl
theorem jf16 : (Rows.fnExactRepeatedRow.loops == (Tryz.f8.params.toList ++ Rows.fnExactRepeatedSpec.plain.varTypes Tryz.prog).any (Tryz.prog.loopsFrom ·)) = true := by kernel_rfl
theorem jf17 : (Rows.fnExactRepeatedRow.wideKeys == (Tryz.f8.params.toList ++ Rows.fnExactRepeatedSpec.plain.varTypes Tryz.prog ++ Tryz.f8.resultTypes.toList).any (Tryz.prog.wideKeysFrom ·)) = true := by kernel_rfl
theorem jf18 : (Rows.fnExactRepeatedSpec.vars.all (Tryz.prog.varReadable ·)) = true := by kernel_rfl
theorem jf19 : (Tryz.f8.resultTypes.all (fun t => Tryz.prog.readableRec t && decide (t < Tryz.prog.types.size))) = true := by kernel_rfl
theorem jf20 : (Rows.fnExactRepeatedRow.ifacesOut == Tryz.f8.resultTypes.toList.any (Tryz.prog.ifacesRec ·)) = true := by kernel_rfl
theorem jf21 : (Rows.fnExactRepeatedRow.loopsOut == Tryz.f8.resultTypes.toList.any (Tryz.prog.loopsFrom ·)) = true := by kernel_rfl
theorem jf22 : (Rows.fnExactRepeatedRow.plainKeys == Tryz.prog.plainKeys) = true := by kernel_rfl
theorem jf23 : (Rows.fnExactRepeatedRow.shortTexts.isNone) = true := by kernel_rfl
theorem jf24 : (Tryz.prog.stopsHeard) = true := by kernel_rfl
theorem jf25 : (Tryz.prog.mayEnter) = true := by kernel_rfl
theorem jf26 : (Rows.fnExactRepeatedRow.lifted == Tryz.prog.liftsFinal) = true := by kernel_rfl
theorem jf27 : (Tryz.prog.make == some Rows.fnExactRepeatedRow.make) = true := by kernel_rfl
theorem jf28 : (Rows.fnExactRepeatedRow.kinds == (if Rows.fnExactRepeatedRow.domain.isEmpty then [] else Tryz.f8.params.toList.map fun t => match Tryz.prog.underlying t with | some (.int k) => some k | _ => none)) = true := by kernel_rfl
theorem jf29 : (Rows.fnExactRepeatedRow.pinned == Rows.fnExactRepeatedRow.pinnedBy) = true := by kernel_rfl
theorem jf30 : (Rows.fnExactRepeatedRow.veiled == (Tryz.f8.params.toList ++ Rows.fnExactRepeatedSpec.plain.varTypes Tryz.prog ++ Tryz.f8.resultTypes.toList).any (Tryz.prog.veiledRec ·)) = true := by kernel_rfl
theorem jf31 : (Rows.fnExactRepeatedRow.veiledFits Tryz.prog Tryz.f8.params.toList (Tryz.f8.params.toList ++ Rows.fnExactRepeatedSpec.plain.varTypes Tryz.prog ++ Tryz.f8.resultTypes.toList)) = true := by kernel_rfl
theorem and2 {a b : Bool} (h1 : a = true) (h2 : b = true) : (a && b) = true := by rw [h1, h2]; rfl
theorem pw : Rows.fnExactRepeatedRow.wfByText (OpenSpec.ofChange Rows.fnExactRepeatedSpec) = true := by kernel_rfl
theorem pm : Tryz.prog.mainIs = some (Rows.fnExactRepeatedCard.stood.harness.1, Rows.fnExactRepeatedCard.stood.harness.2.toList) := by kernel_rfl
theorem ph : (!Rows.fnExactRepeatedCard.stood.harness.1 && Rows.fnExactRepeatedCard.stood.harness.2.isEmpty && !Rows.fnExactRepeatedCard.stood.looks) = false := by kernel_rfl
theorem pl : Rows.fnExactRepeatedCard.stood.looks = Tryz.prog.looks [] := by kernel_rfl
theorem pg : false = Rows.fnExactRepeatedRow.goesBy Tryz.prog := by kernel_rfl
theorem pf : Tryz.prog.funcNamed Rows.fnExactRepeatedRow.func = some 8 := by kernel_rfl
theorem ps : (Tryz.f8.params.toList.all fun u => !Tryz.prog.wantsStandIn u) = true := by rw [Tryz.params8]; kernel_rfl
end Go.Proofs.YtilaeehhdpjpmaaGreatDoor.fnExactRepeated
