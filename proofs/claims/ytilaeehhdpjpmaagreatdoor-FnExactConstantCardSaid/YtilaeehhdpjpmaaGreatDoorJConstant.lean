/- The closed facts of the row of FnExactConstant, one by one. -/
import Derived.Test.YtilaeehhdpjpmaaGreatDoorCards
import Derived.Test.YtilaeehhdpjpmaaGreatDoorTie
import Derived.SevenTiedAt
import Derived.JoinedOf
import Derived.WalkKit
namespace Go.Proofs.YtilaeehhdpjpmaaGreatDoor.fnExactConstant
set_option linter.unusedVariables false
set_option linter.unusedSimpArgs false
open Go.ChangeShapes Go.WideShapes Go.RowKit

theorem jf0 : (Rows.fnExactConstantRow.wf (OpenSpec.ofChange Rows.fnExactConstantSpec)) = true := by kernel_rfl
theorem jf1 : (laidOutB Tryz.prog) = true := by kernel_rfl
theorem jf2 : (mapsRowed Tryz.prog) = true := by kernel_rfl
theorem jf3 : (Tryz.f9.params.all (Tryz.prog.readableRec ·)) = true := by kernel_rfl
theorem jf4 : (namedTie Tryz.prog Rows.fnExactConstantRow.named Rows.fnExactConstantSpec.vars) = true := by kernel_rfl
theorem jf5 : (Rows.fnExactConstantRow.stops == []) = true := by kernel_rfl
theorem jf6 : (Tryz.prog.stops == []) = true := by kernel_rfl
theorem jf7 : (Rows.fnExactConstantRow.knobs == []) = true := by kernel_rfl
theorem jf8 : (Tryz.prog.stopKnobs == []) = true := by kernel_rfl
theorem jf9 : (Rows.fnExactConstantRow.inPlace == Tryz.prog.inPlace 9) = true := by kernel_rfl
theorem jf10 : (Rows.fnExactConstantRow.unfollowed == Tryz.prog.unfollowed 9) = true := by kernel_rfl
theorem jf11 : (Rows.fnExactConstantRow.recurses == Tryz.prog.recurses 9) = true := by kernel_rfl
theorem jf12 : (Rows.fnExactConstantRow.named == Tryz.prog.varsNamed 9) = true := by kernel_rfl
theorem jf13 : (Rows.fnExactConstantRow.maps == (Tryz.f9.params.toList ++ Rows.fnExactConstantSpec.plain.varTypes Tryz.prog).any (Tryz.prog.mapsRec ·)) = true := by kernel_rfl
theorem jf14 : (Rows.fnExactConstantRow.ifaces == (Tryz.f9.params.toList ++ Rows.fnExactConstantSpec.plain.varTypes Tryz.prog).any (Tryz.prog.ifacesRec ·)) = true := by kernel_rfl
theorem jf15 : (Rows.fnExactConstantRow.mapsOut == Tryz.prog.mapsAmong Tryz.f9.resultTypes.toList) = true := by kernel_rfl
theorem jf16 : (Rows.fnExactConstantRow.loops == (Tryz.f9.params.toList ++ Rows.fnExactConstantSpec.plain.varTypes Tryz.prog).any (Tryz.prog.loopsFrom ·)) = true := by kernel_rfl
theorem jf17 : (Rows.fnExactConstantRow.wideKeys == (Tryz.f9.params.toList ++ Rows.fnExactConstantSpec.plain.varTypes Tryz.prog ++ Tryz.f9.resultTypes.toList).any (Tryz.prog.wideKeysFrom ·)) = true := by kernel_rfl
theorem jf18 : (Rows.fnExactConstantSpec.vars.all (Tryz.prog.varReadable ·)) = true := by kernel_rfl
theorem jf19 : (Tryz.f9.resultTypes.all (fun t => Tryz.prog.readableRec t && decide (t < Tryz.prog.types.size))) = true := by kernel_rfl
theorem jf20 : (Rows.fnExactConstantRow.ifacesOut == Tryz.f9.resultTypes.toList.any (Tryz.prog.ifacesRec ·)) = true := by kernel_rfl
theorem jf21 : (Rows.fnExactConstantRow.loopsOut == Tryz.f9.resultTypes.toList.any (Tryz.prog.loopsFrom ·)) = true := by kernel_rfl
theorem jf22 : (Rows.fnExactConstantRow.plainKeys == Tryz.prog.plainKeys) = true := by kernel_rfl
theorem jf23 : (Rows.fnExactConstantRow.shortTexts.isNone) = true := by kernel_rfl
theorem jf24 : (Tryz.prog.stopsHeard) = true := by kernel_rfl
theorem jf25 : (Tryz.prog.mayEnter) = true := by kernel_rfl
theorem jf26 : (Rows.fnExactConstantRow.lifted == Tryz.prog.liftsFinal) = true := by kernel_rfl
theorem jf27 : (Tryz.prog.make == some Rows.fnExactConstantRow.make) = true := by kernel_rfl
theorem jf28 : (Rows.fnExactConstantRow.kinds == (if Rows.fnExactConstantRow.domain.isEmpty then [] else Tryz.f9.params.toList.map fun t => match Tryz.prog.underlying t with | some (.int k) => some k | _ => none)) = true := by kernel_rfl
theorem jf29 : (Rows.fnExactConstantRow.pinned == Rows.fnExactConstantRow.pinnedBy) = true := by kernel_rfl
theorem jf30 : (Rows.fnExactConstantRow.veiled == (Tryz.f9.params.toList ++ Rows.fnExactConstantSpec.plain.varTypes Tryz.prog ++ Tryz.f9.resultTypes.toList).any (Tryz.prog.veiledRec ·)) = true := by kernel_rfl
theorem jf31 : (Rows.fnExactConstantRow.veiledFits Tryz.prog Tryz.f9.params.toList (Tryz.f9.params.toList ++ Rows.fnExactConstantSpec.plain.varTypes Tryz.prog ++ Tryz.f9.resultTypes.toList)) = true := by kernel_rfl
theorem and2 {a b : Bool} (h1 : a = true) (h2 : b = true) : (a && b) = true := by rw [h1, h2]; rfl
theorem pw : Rows.fnExactConstantRow.wfByText (OpenSpec.ofChange Rows.fnExactConstantSpec) = true := by kernel_rfl
theorem pm : Tryz.prog.mainIs = some (Rows.fnExactConstantCard.stood.harness.1, Rows.fnExactConstantCard.stood.harness.2.toList) := by kernel_rfl
theorem ph : (!Rows.fnExactConstantCard.stood.harness.1 && Rows.fnExactConstantCard.stood.harness.2.isEmpty && !Rows.fnExactConstantCard.stood.looks) = false := by kernel_rfl
theorem pl : Rows.fnExactConstantCard.stood.looks = Tryz.prog.looks [] := by kernel_rfl
theorem pg : false = Rows.fnExactConstantRow.goesBy Tryz.prog := by kernel_rfl
theorem pf : Tryz.prog.funcNamed Rows.fnExactConstantRow.func = some 9 := by kernel_rfl
theorem ps : (Tryz.f9.params.toList.all fun u => !Tryz.prog.wantsStandIn u) = true := by rw [Tryz.params9]; kernel_rfl
end Go.Proofs.YtilaeehhdpjpmaaGreatDoor.fnExactConstant
