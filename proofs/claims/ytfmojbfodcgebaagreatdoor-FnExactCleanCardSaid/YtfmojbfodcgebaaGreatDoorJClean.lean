/- The closed facts of the row of FnExactClean, one by one. -/
import Derived.Test.YtfmojbfodcgebaaGreatDoorCards
import Derived.Test.YtfmojbfodcgebaaGreatDoorTie
import Derived.SevenTiedAt
import Derived.JoinedOf
import Derived.WalkKit
namespace Go.Proofs.YtfmojbfodcgebaaGreatDoor.fnExactClean
set_option linter.unusedVariables false
set_option linter.unusedSimpArgs false
open Go.ChangeShapes Go.WideShapes Go.RowKit

theorem jf0 : (Rows.fnExactCleanRow.wf (OpenSpec.ofChange Rows.fnExactCleanSpec)) = true := by kernel_rfl
theorem jf1 : (laidOutB Tryz.prog) = true := by kernel_rfl
theorem jf2 : (mapsRowed Tryz.prog) = true := by kernel_rfl
theorem jf3 : (Tryz.f9.params.all (Tryz.prog.readableRec ·)) = true := by kernel_rfl
theorem jf4 : (namedTie Tryz.prog Rows.fnExactCleanRow.named Rows.fnExactCleanSpec.vars) = true := by kernel_rfl
theorem jf5 : (Rows.fnExactCleanRow.stops == []) = true := by kernel_rfl
theorem jf6 : (Tryz.prog.stops == []) = true := by kernel_rfl
theorem jf7 : (Rows.fnExactCleanRow.knobs == []) = true := by kernel_rfl
theorem jf8 : (Tryz.prog.stopKnobs == []) = true := by kernel_rfl
theorem jf9 : (Rows.fnExactCleanRow.inPlace == Tryz.prog.inPlace 9) = true := by kernel_rfl
theorem jf10 : (Rows.fnExactCleanRow.unfollowed == Tryz.prog.unfollowed 9) = true := by kernel_rfl
theorem jf11 : (Rows.fnExactCleanRow.recurses == Tryz.prog.recurses 9) = true := by kernel_rfl
theorem jf12 : (Rows.fnExactCleanRow.named == Tryz.prog.varsNamed 9) = true := by kernel_rfl
theorem jf13 : (Rows.fnExactCleanRow.maps == (Tryz.f9.params.toList ++ Rows.fnExactCleanSpec.plain.varTypes Tryz.prog).any (Tryz.prog.mapsRec ·)) = true := by kernel_rfl
theorem jf14 : (Rows.fnExactCleanRow.ifaces == (Tryz.f9.params.toList ++ Rows.fnExactCleanSpec.plain.varTypes Tryz.prog).any (Tryz.prog.ifacesRec ·)) = true := by kernel_rfl
theorem jf15 : (Rows.fnExactCleanRow.mapsOut == Tryz.prog.mapsAmong Tryz.f9.resultTypes.toList) = true := by kernel_rfl
theorem jf16 : (Rows.fnExactCleanRow.loops == (Tryz.f9.params.toList ++ Rows.fnExactCleanSpec.plain.varTypes Tryz.prog).any (Tryz.prog.loopsFrom ·)) = true := by kernel_rfl
theorem jf17 : (Rows.fnExactCleanRow.wideKeys == (Tryz.f9.params.toList ++ Rows.fnExactCleanSpec.plain.varTypes Tryz.prog ++ Tryz.f9.resultTypes.toList).any (Tryz.prog.wideKeysFrom ·)) = true := by kernel_rfl
theorem jf18 : (Rows.fnExactCleanSpec.vars.all (Tryz.prog.varReadable ·)) = true := by kernel_rfl
theorem jf19 : (Tryz.f9.resultTypes.all (fun t => Tryz.prog.readableRec t && decide (t < Tryz.prog.types.size))) = true := by kernel_rfl
theorem jf20 : (Rows.fnExactCleanRow.ifacesOut == Tryz.f9.resultTypes.toList.any (Tryz.prog.ifacesRec ·)) = true := by kernel_rfl
theorem jf21 : (Rows.fnExactCleanRow.loopsOut == Tryz.f9.resultTypes.toList.any (Tryz.prog.loopsFrom ·)) = true := by kernel_rfl
theorem jf22 : (Rows.fnExactCleanRow.plainKeys == Tryz.prog.plainKeys) = true := by kernel_rfl
theorem jf23 : (Rows.fnExactCleanRow.shortTexts.isNone) = true := by kernel_rfl
theorem jf24 : (Tryz.prog.stopsHeard) = true := by kernel_rfl
theorem jf25 : (Tryz.prog.mayEnter) = true := by kernel_rfl
theorem jf26 : (Rows.fnExactCleanRow.lifted == Tryz.prog.liftsFinal) = true := by kernel_rfl
theorem jf27 : (Tryz.prog.make == some Rows.fnExactCleanRow.make) = true := by kernel_rfl
theorem jf28 : (Rows.fnExactCleanRow.kinds == (if Rows.fnExactCleanRow.domain.isEmpty then [] else Tryz.f9.params.toList.map fun t => match Tryz.prog.underlying t with | some (.int k) => some k | _ => none)) = true := by kernel_rfl
theorem jf29 : (Rows.fnExactCleanRow.pinned == Rows.fnExactCleanRow.pinnedBy) = true := by kernel_rfl
theorem jf30 : (Rows.fnExactCleanRow.veiled == (Tryz.f9.params.toList ++ Rows.fnExactCleanSpec.plain.varTypes Tryz.prog ++ Tryz.f9.resultTypes.toList).any (Tryz.prog.veiledRec ·)) = true := by kernel_rfl
theorem jf31 : (Rows.fnExactCleanRow.veiledFits Tryz.prog Tryz.f9.params.toList (Tryz.f9.params.toList ++ Rows.fnExactCleanSpec.plain.varTypes Tryz.prog ++ Tryz.f9.resultTypes.toList)) = true := by kernel_rfl
theorem and2 {a b : Bool} (h1 : a = true) (h2 : b = true) : (a && b) = true := by rw [h1, h2]; rfl
theorem pw : Rows.fnExactCleanRow.wfByText (OpenSpec.ofChange Rows.fnExactCleanSpec) = true := by kernel_rfl
theorem pm : Tryz.prog.mainIs = some (Rows.fnExactCleanCard.stood.harness.1, Rows.fnExactCleanCard.stood.harness.2.toList) := by kernel_rfl
theorem ph : (!Rows.fnExactCleanCard.stood.harness.1 && Rows.fnExactCleanCard.stood.harness.2.isEmpty && !Rows.fnExactCleanCard.stood.looks) = false := by kernel_rfl
theorem pl : Rows.fnExactCleanCard.stood.looks = Tryz.prog.looks [] := by kernel_rfl
theorem pg : false = Rows.fnExactCleanRow.goesBy Tryz.prog := by kernel_rfl
theorem pf : Tryz.prog.funcNamed Rows.fnExactCleanRow.func = some 9 := by kernel_rfl
theorem ps : (Tryz.f9.params.toList.all fun u => !Tryz.prog.wantsStandIn u) = true := by rw [Tryz.params9]; kernel_rfl
end Go.Proofs.YtfmojbfodcgebaaGreatDoor.fnExactClean
