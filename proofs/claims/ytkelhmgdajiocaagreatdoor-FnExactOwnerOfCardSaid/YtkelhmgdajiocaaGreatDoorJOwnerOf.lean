/- The closed facts of the row of FnExactOwnerOf, one by one. -/
import Derived.Test.YtkelhmgdajiocaaGreatDoorCards
import Derived.Test.YtkelhmgdajiocaaGreatDoorTie
import Derived.SevenTiedAt
import Derived.JoinedOf
import Derived.WalkKit
namespace Go.Proofs.YtkelhmgdajiocaaGreatDoor.fnExactOwnerOf
set_option linter.unusedVariables false
set_option linter.unusedSimpArgs false
open Go.ChangeShapes Go.WideShapes Go.RowKit

theorem jf0 : (Rows.fnExactOwnerOfRow.wf (OpenSpec.ofChange Rows.fnExactOwnerOfSpec)) = true := by kernel_rfl
theorem jf1 : (laidOutB Tryz.prog) = true := by kernel_rfl
theorem jf2 : (mapsRowed Tryz.prog) = true := by kernel_rfl
theorem jf3 : (Tryz.f4.params.all (Tryz.prog.readableRec ·)) = true := by kernel_rfl
theorem jf4 : (namedTie Tryz.prog Rows.fnExactOwnerOfRow.named Rows.fnExactOwnerOfSpec.vars) = true := by kernel_rfl
theorem jf5 : (Rows.fnExactOwnerOfRow.stops == []) = true := by kernel_rfl
theorem jf6 : (Tryz.prog.stops == []) = true := by kernel_rfl
theorem jf7 : (Rows.fnExactOwnerOfRow.knobs == []) = true := by kernel_rfl
theorem jf8 : (Tryz.prog.stopKnobs == []) = true := by kernel_rfl
theorem jf9 : (Rows.fnExactOwnerOfRow.inPlace == Tryz.prog.inPlace 4) = true := by kernel_rfl
theorem jf10 : (Rows.fnExactOwnerOfRow.unfollowed == Tryz.prog.unfollowed 4) = true := by kernel_rfl
theorem jf11 : (Rows.fnExactOwnerOfRow.recurses == Tryz.prog.recurses 4) = true := by kernel_rfl
theorem jf12 : (Rows.fnExactOwnerOfRow.named == Tryz.prog.varsNamed 4) = true := by kernel_rfl
theorem jf13 : (Rows.fnExactOwnerOfRow.maps == (Tryz.f4.params.toList ++ Rows.fnExactOwnerOfSpec.plain.varTypes Tryz.prog).any (Tryz.prog.mapsRec ·)) = true := by kernel_rfl
theorem jf14 : (Rows.fnExactOwnerOfRow.ifaces == (Tryz.f4.params.toList ++ Rows.fnExactOwnerOfSpec.plain.varTypes Tryz.prog).any (Tryz.prog.ifacesRec ·)) = true := by kernel_rfl
theorem jf15 : (Rows.fnExactOwnerOfRow.mapsOut == Tryz.prog.mapsAmong Tryz.f4.resultTypes.toList) = true := by kernel_rfl
theorem jf16 : (Rows.fnExactOwnerOfRow.loops == (Tryz.f4.params.toList ++ Rows.fnExactOwnerOfSpec.plain.varTypes Tryz.prog).any (Tryz.prog.loopsFrom ·)) = true := by kernel_rfl
theorem jf17 : (Rows.fnExactOwnerOfRow.wideKeys == (Tryz.f4.params.toList ++ Rows.fnExactOwnerOfSpec.plain.varTypes Tryz.prog ++ Tryz.f4.resultTypes.toList).any (Tryz.prog.wideKeysFrom ·)) = true := by kernel_rfl
theorem jf18 : (Rows.fnExactOwnerOfSpec.vars.all (Tryz.prog.varReadable ·)) = true := by kernel_rfl
theorem jf19 : (Tryz.f4.resultTypes.all (fun t => Tryz.prog.readableRec t && decide (t < Tryz.prog.types.size))) = true := by kernel_rfl
theorem jf20 : (Rows.fnExactOwnerOfRow.ifacesOut == Tryz.f4.resultTypes.toList.any (Tryz.prog.ifacesRec ·)) = true := by kernel_rfl
theorem jf21 : (Rows.fnExactOwnerOfRow.loopsOut == Tryz.f4.resultTypes.toList.any (Tryz.prog.loopsFrom ·)) = true := by kernel_rfl
theorem jf22 : (Rows.fnExactOwnerOfRow.plainKeys == Tryz.prog.plainKeys) = true := by kernel_rfl
theorem jf23 : (Rows.fnExactOwnerOfRow.shortTexts.isNone) = true := by kernel_rfl
theorem jf24 : (Tryz.prog.stopsHeard) = true := by kernel_rfl
theorem jf25 : (Tryz.prog.mayEnter) = true := by kernel_rfl
theorem jf26 : (Rows.fnExactOwnerOfRow.lifted == Tryz.prog.liftsFinal) = true := by kernel_rfl
theorem jf27 : (Tryz.prog.make == some Rows.fnExactOwnerOfRow.make) = true := by kernel_rfl
theorem jf28 : (Rows.fnExactOwnerOfRow.kinds == (if Rows.fnExactOwnerOfRow.domain.isEmpty then [] else Tryz.f4.params.toList.map fun t => match Tryz.prog.underlying t with | some (.int k) => some k | _ => none)) = true := by kernel_rfl
theorem jf29 : (Rows.fnExactOwnerOfRow.pinned == Rows.fnExactOwnerOfRow.pinnedBy) = true := by kernel_rfl
theorem jf30 : (Rows.fnExactOwnerOfRow.veiled == (Tryz.f4.params.toList ++ Rows.fnExactOwnerOfSpec.plain.varTypes Tryz.prog ++ Tryz.f4.resultTypes.toList).any (Tryz.prog.veiledRec ·)) = true := by kernel_rfl
theorem jf31 : (Rows.fnExactOwnerOfRow.veiledFits Tryz.prog Tryz.f4.params.toList (Tryz.f4.params.toList ++ Rows.fnExactOwnerOfSpec.plain.varTypes Tryz.prog ++ Tryz.f4.resultTypes.toList)) = true := by kernel_rfl
theorem and2 {a b : Bool} (h1 : a = true) (h2 : b = true) : (a && b) = true := by rw [h1, h2]; rfl
theorem pw : Rows.fnExactOwnerOfRow.wfByText (OpenSpec.ofChange Rows.fnExactOwnerOfSpec) = true := by kernel_rfl
theorem pm : Tryz.prog.mainIs = some (Rows.fnExactOwnerOfCard.stood.harness.1, Rows.fnExactOwnerOfCard.stood.harness.2.toList) := by kernel_rfl
theorem ph : (!Rows.fnExactOwnerOfCard.stood.harness.1 && Rows.fnExactOwnerOfCard.stood.harness.2.isEmpty && !Rows.fnExactOwnerOfCard.stood.looks) = false := by kernel_rfl
theorem pl : Rows.fnExactOwnerOfCard.stood.looks = Tryz.prog.looks [] := by kernel_rfl
theorem pg : false = Rows.fnExactOwnerOfRow.goesBy Tryz.prog := by kernel_rfl
theorem pf : Tryz.prog.funcNamed Rows.fnExactOwnerOfRow.func = some 4 := by kernel_rfl
theorem ps : (Tryz.f4.params.toList.all fun u => !Tryz.prog.wantsStandIn u) = true := by rw [Tryz.params4]; kernel_rfl
end Go.Proofs.YtkelhmgdajiocaaGreatDoor.fnExactOwnerOf
