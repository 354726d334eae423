/- The closed facts of the row of FnExactLints, one by one. -/
import Derived.Test.YtfmojbfodcgebaaGreatDoorCards
import Derived.Test.YtfmojbfodcgebaaGreatDoorTie
import Derived.SevenTiedAt
import Derived.JoinedOf
import Derived.WalkKit
namespace Go.Proofs.YtfmojbfodcgebaaGreatDoor.fnExactLints
set_option linter.unusedVariables false
set_option linter.unusedSimpArgs false
open Go.ChangeShapes Go.WideShapes Go.RowKit

theorem jf0 : (Rows.fnExactLintsRow.wf (OpenSpec.ofChange Rows.fnExactLintsSpec)) = true := by kernel_rfl
theorem jf1 : (laidOutB Tryz.prog) = true := by kernel_rfl
theorem jf2 : (mapsRowed Tryz.prog) = true := by kernel_rfl
theorem jf3 : (Tryz.f8.params.all (Tryz.prog.readableRec ·)) = true := by kernel_rfl
theorem jf4 : (namedTie Tryz.prog Rows.fnExactLintsRow.named Rows.fnExactLintsSpec.vars) = true := by kernel_rfl
theorem jf5 : (Rows.fnExactLintsRow.stops == []) = true := by kernel_rfl
theorem jf6 : (Tryz.prog.stops == []) = true := by kernel_rfl
theorem jf7 : (Rows.fnExactLintsRow.knobs == []) = true := by kernel_rfl
theorem jf8 : (Tryz.prog.stopKnobs == []) = true := by kernel_rfl
theorem jf9 : (Rows.fnExactLintsRow.inPlace == Tryz.prog.inPlace 8) = true := by kernel_rfl
theorem jf10 : (Rows.fnExactLintsRow.unfollowed == Tryz.prog.unfollowed 8) = true := by kernel_rfl
theorem jf11 : (Rows.fnExactLintsRow.recurses == Tryz.prog.recurses 8) = true := by kernel_rfl
theorem jf12 : (Rows.fnExactLintsRow.named == Tryz.prog.varsNamed 8) = true := by kernel_rfl
theorem jf13 : (Rows.fnExactLintsRow.maps == (Tryz.f8.params.toList ++ Rows.fnExactLintsSpec.plain.varTypes Tryz.prog).any (Tryz.prog.mapsRec ·)) = true := by kernel_rfl
theorem jf14 : (Rows.fnExactLintsRow.ifaces == (Tryz.f8.params.toList ++ Rows.fnExactLintsSpec.plain.varTypes Tryz.prog).any (Tryz.prog.ifacesRec ·)) = true := by kernel_rfl
theorem jf15 : (Rows.fnExactLintsRow.mapsOut == Tryz.prog.mapsAmong Tryz.f8.resultTypes.toList) = true := by kernel_rfl
theorem jf16 : (Rows.fnExactLintsRow.loops == (Tryz.f8.params.toList ++ Rows.fnExactLintsSpec.plain.varTypes Tryz.prog).any (Tryz.prog.loopsFrom ·)) = true := by kernel_rfl
theorem jf17 : (Rows.fnExactLintsRow.wideKeys == (Tryz.f8.params.toList ++ Rows.fnExactLintsSpec.plain.varTypes Tryz.prog ++ Tryz.f8.resultTypes.toList).any (Tryz.prog.wideKeysFrom ·)) = true := by kernel_rfl
theorem jf18 : (Rows.fnExactLintsSpec.vars.all (Tryz.prog.varReadable ·)) = true := by kernel_rfl
theorem jf19 : (Tryz.f8.resultTypes.all (fun t => Tryz.prog.readableRec t && decide (t < Tryz.prog.types.size))) = true := by kernel_rfl
theorem jf20 : (Rows.fnExactLintsRow.ifacesOut == Tryz.f8.resultTypes.toList.any (Tryz.prog.ifacesRec ·)) = true := by kernel_rfl
theorem jf21 : (Rows.fnExactLintsRow.loopsOut == Tryz.f8.resultTypes.toList.any (Tryz.prog.loopsFrom ·)) = true := by kernel_rfl
theorem jf22 : (Rows.fnExactLintsRow.plainKeys == Tryz.prog.plainKeys) = true := by kernel_rfl
theorem jf23 : (Rows.fnExactLintsRow.shortTexts.isNone) = true := by kernel_rfl
theorem jf24 : (Tryz.prog.stopsHeard) = true := by kernel_rfl
theorem jf25 : (Tryz.prog.mayEnter) = true := by kernel_rfl
theorem jf26 : (Rows.fnExactLintsRow.lifted == Tryz.prog.liftsFinal) = true := by kernel_rfl
theorem jf27 : (Tryz.prog.make == some Rows.fnExactLintsRow.make) = true := by kernel_rfl
theorem jf28 : (Rows.fnExactLintsRow.kinds == (if Rows.fnExactLintsRow.domain.isEmpty then [] else Tryz.f8.params.toList.map fun t => match Tryz.prog.underlying t with | some (.int k) => some k | _ => none)) = true := by kernel_rfl
theorem jf29 : (Rows.fnExactLintsRow.pinned == Rows.fnExactLintsRow.pinnedBy) = true := by kernel_rfl
theorem jf30 : (Rows.fnExactLintsRow.veiled == (Tryz.f8.params.toList ++ Rows.fnExactLintsSpec.plain.varTypes Tryz.prog ++ Tryz.f8.resultTypes.toList).any (Tryz.prog.veiledRec ·)) = true := by kernel_rfl
theorem jf31 : (Rows.fnExactLintsRow.veiledFits Tryz.prog Tryz.f8.params.toList (Tryz.f8.params.toList ++ Rows.fnExactLintsSpec.plain.varTypes Tryz.prog ++ Tryz.f8.resultTypes.toList)) = true := by kernel_rfl
theorem and2 {a b : Bool} (h1 : a = true) (h2 : b = true) : (a && b) = true := by rw [h1, h2]; rfl
theorem pw : Rows.fnExactLintsRow.wfByText (OpenSpec.ofChange Rows.fnExactLintsSpec) = true := by kernel_rfl
theorem pm : Tryz.prog.mainIs = some (Rows.fnExactLintsCard.stood.harness.1, Rows.fnExactLintsCard.stood.harness.2.toList) := by kernel_rfl
theorem ph : (!Rows.fnExactLintsCard.stood.harness.1 && Rows.fnExactLintsCard.stood.harness.2.isEmpty && !Rows.fnExactLintsCard.stood.looks) = false := by kernel_rfl
theorem pl : Rows.fnExactLintsCard.stood.looks = Tryz.prog.looks [] := by kernel_rfl
theorem pg : false = Rows.fnExactLintsRow.goesBy Tryz.prog := by kernel_rfl
theorem pf : Tryz.prog.funcNamed Rows.fnExactLintsRow.func = some 8 := by kernel_rfl
theorem ps : (Tryz.f8.params.toList.all fun u => !Tryz.prog.wantsStandIn u) = true := by rw [Tryz.params8]; kernel_rfl
end Go.Proofs.YtfmojbfodcgebaaGreatDoor.fnExactLints
