/- The closed facts of the row of FnExactRename, one by one. -/
import Derived.Test.YtfmojbfodcgebaaGreatDoorCards
import Derived.Test.YtfmojbfodcgebaaGreatDoorTie
import Derived.SevenTiedAt
import Derived.JoinedOf
import Derived.WalkKit
namespace Go.Proofs.YtfmojbfodcgebaaGreatDoor.fnExactRename
set_option linter.unusedVariables false
set_option linter.unusedSimpArgs false
open Go.ChangeShapes Go.WideShapes Go.RowKit

theorem jf0 : (Rows.fnExactRenameRow.wf (OpenSpec.ofChange Rows.fnExactRenameSpec)) = true := by kernel_rfl
theorem jf1 : (laidOutB Tryz.prog) = true := by kernel_rfl
theorem jf2 : (mapsRowed Tryz.prog) = true := by kernel_rfl
theorem jf3 : (Tryz.f7.params.all (Tryz.prog.readableRec ·)) = true := by kernel_rfl
theorem jf4 : (namedTie Tryz.prog Rows.fnExactRenameRow.named Rows.fnExactRenameSpec.vars) = true := by kernel_rfl
theorem jf5 : (Rows.fnExactRenameRow.stops == []) = true := by kernel_rfl
theorem jf6 : (Tryz.prog.stops == []) = true := by kernel_rfl
theorem jf7 : (Rows.fnExactRenameRow.knobs == []) = true := by kernel_rfl
theorem jf8 : (Tryz.prog.stopKnobs == []) = true := by kernel_rfl
theorem jf9 : (Rows.fnExactRenameRow.inPlace == Tryz.prog.inPlace 7) = true := by kernel_rfl
theorem jf10 : (Rows.fnExactRenameRow.unfollowed == Tryz.prog.unfollowed 7) = true := by kernel_rfl
theorem jf11 : (Rows.fnExactRenameRow.recurses == Tryz.prog.recurses 7) = true := by kernel_rfl
theorem jf12 : (Rows.fnExactRenameRow.named == Tryz.prog.varsNamed 7) = true := by kernel_rfl
theorem jf13 : (Rows.fnExactRenameRow.maps == (Tryz.f7.params.toList ++ Rows.fnExactRenameSpec.plain.varTypes Tryz.prog).any (Tryz.prog.mapsRec ·)) = true := by kernel_rfl
theorem jf14 : (Rows.fnExactRenameRow.ifaces == (Tryz.f7.params.toList ++ Rows.fnExactRenameSpec.plain.varTypes Tryz.prog).any (Tryz.prog.ifacesRec ·)) = true := by kernel_rfl
theorem jf15 : (Rows.fnExactRenameRow.mapsOut == Tryz.prog.mapsAmong Tryz.f7.resultTypes.toList) = true := by kernel_rfl
theorem jf16 : (Rows.fnExactRenameRow.loops == (Tryz.f7.params.toList ++ Rows.fnExactRenameSpec.plain.varTypes Tryz.prog).any (Tryz.prog.loopsFrom ·)) = true := by kernel_rfl
theorem jf17 : (Rows.fnExactRenameRow.wideKeys == (Tryz.f7.params.toList ++ Rows.fnExactRenameSpec.plain.varTypes Tryz.prog ++ Tryz.f7.resultTypes.toList).any (Tryz.prog.wideKeysFrom ·)) = true := by kernel_rfl
theorem jf18 : (Rows.fnExactRenameSpec.vars.all (Tryz.prog.varReadable ·)) = true := by kernel_rfl
theorem jf19 : (Tryz.f7.resultTypes.all (fun t => Tryz.prog.readableRec t && decide (t < Tryz.prog.types.size))) = true := by kernel_rfl
theorem jf20 : (Rows.fnExactRenameRow.ifacesOut == Tryz.f7.resultTypes.toList.any (Tryz.prog.ifacesRec ·)) = true := by kernel_rfl
theorem jf21 : (Rows.fnExactRenameRow.loopsOut == Tryz.f7.resultTypes.toList.any (Tryz.prog.loopsFrom ·)) = true := by kernel_rfl
theorem jf22 : (Rows.fnExactRenameRow.plainKeys == Tryz.prog.plainKeys) = true := by kernel_rfl
theorem jf23 : (Rows.fnExactRenameRow.shortTexts.isNone) = true := by kernel_rfl
theorem jf24 : (Tryz.prog.stopsHeard) = true := by kernel_rfl
theorem jf25 : (Tryz.prog.mayEnter) = true := by kernel_rfl
theorem jf26 : (Rows.fnExactRenameRow.lifted == Tryz.prog.liftsFinal) = true := by kernel_rfl
theorem jf27 : (Tryz.prog.make == some Rows.fnExactRenameRow.make) = true := by kernel_rfl
theorem jf28 : (Rows.fnExactRenameRow.kinds == (if Rows.fnExactRenameRow.domain.isEmpty then [] else Tryz.f7.params.toList.map fun t => match Tryz.prog.underlying t with | some (.int k) => some k | _ => none)) = true := by kernel_rfl
theorem jf29 : (Rows.fnExactRenameRow.pinned == Rows.fnExactRenameRow.pinnedBy) = true := by kernel_rfl
theorem jf30 : (Rows.fnExactRenameRow.veiled == (Tryz.f7.params.toList ++ Rows.fnExactRenameSpec.plain.varTypes Tryz.prog ++ Tryz.f7.resultTypes.toList).any (Tryz.prog.veiledRec ·)) = true := by kernel_rfl
theorem jf31 : (Rows.fnExactRenameRow.veiledFits Tryz.prog Tryz.f7.params.toList (Tryz.f7.params.toList ++ Rows.fnExactRenameSpec.plain.varTypes Tryz.prog ++ Tryz.f7.resultTypes.toList)) = true := by kernel_rfl
theorem and2 {a b : Bool} (h1 : a = true) (h2 : b = true) : (a && b) = true := by rw [h1, h2]; rfl
theorem pw : Rows.fnExactRenameRow.wfByText (OpenSpec.ofChange Rows.fnExactRenameSpec) = true := by kernel_rfl
theorem pm : Tryz.prog.mainIs = some (Rows.fnExactRenameCard.stood.harness.1, Rows.fnExactRenameCard.stood.harness.2.toList) := by kernel_rfl
theorem ph : (!Rows.fnExactRenameCard.stood.harness.1 && Rows.fnExactRenameCard.stood.harness.2.isEmpty && !Rows.fnExactRenameCard.stood.looks) = false := by kernel_rfl
theorem pl : Rows.fnExactRenameCard.stood.looks = Tryz.prog.looks [] := by kernel_rfl
theorem pg : false = Rows.fnExactRenameRow.goesBy Tryz.prog := by kernel_rfl
theorem pf : Tryz.prog.funcNamed Rows.fnExactRenameRow.func = some 7 := by kernel_rfl
theorem ps : (Tryz.f7.params.toList.all fun u => !Tryz.prog.wantsStandIn u) = true := by rw [Tryz.params7]; kernel_rfl
end Go.Proofs.YtfmojbfodcgebaaGreatDoor.fnExactRename
