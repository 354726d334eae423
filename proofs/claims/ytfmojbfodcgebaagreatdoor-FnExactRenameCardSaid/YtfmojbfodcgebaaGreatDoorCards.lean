/-
  DERIVED. GIVEN WITH THE SEED: THE CARDS: each row of YtfmojbfodcgebaaGreatDoorRows.lean that lists a variable, with what it lists TIED to the program's text (the seventh form; the later family's looks); each row that meets fmt, with fmt's text TOLD by the authors' own Lean function (tested against real Go, not proved from fmt's source: count such statements apart). THE CARD IS WHAT COUNTS. Prove the row's statement (the work); the ties are given (YtfmojbfodcgebaaGreatDoorTie.lean); close each card by the builder's one call (the guide's Derived/Test/ToyasCard.lean, 'card_holds'). Laid BY PROGRAM, IN A SANDBOX (cutbox-door.mjs). By AI agents, Wed Nov 11 2026. No macro, syntax, notation, axiom, sorry.
-/
import Derived.Test.YtfmojbfodcgebaaGreatDoorRows
import GoSem.ClaimSeven
namespace Go.Proofs.YtfmojbfodcgebaaGreatDoor
namespace Rows

/-- THE TIED CARD OF 'laws.FnExactMeasure'. -/
def fnExactMeasureCard : Claim7 := { stood := { row := fnExactMeasureRow, standIns := [], harness := (true, "41c83f64708dbbfc15b37708c4b4bf365428f25501cf93494f42bd62d3228f5e"), looks := true }, kinds := [], alts := [], laidByText := true, laidKinds := [.data, .data, .data, .widerDeep, .data, .widerDeep], laidTests := true, laidLooks := .later }
def FnExactMeasureCardSaid : Prop := Claim7.holds Tryz.pinned (.plain (OpenSpec.ofChange fnExactMeasureSpec)) fnExactMeasureCard

/-- THE TIED CARD OF 'laws.FnExactUnused'. -/
def fnExactUnusedCard : Claim7 := { stood := { row := fnExactUnusedRow, standIns := [], harness := (true, "41c83f64708dbbfc15b37708c4b4bf365428f25501cf93494f42bd62d3228f5e"), looks := true }, kinds := [], alts := [], laidByText := true, laidKinds := [.widerDeep, .data, .widerDeep], laidTests := true, laidLooks := .later }
def FnExactUnusedCardSaid : Prop := Claim7.holds Tryz.pinned (.plain (OpenSpec.ofChange fnExactUnusedSpec)) fnExactUnusedCard

/-- THE TIED CARD OF 'laws.FnExactGlobalsOf'. -/
def fnExactGlobalsOfCard : Claim7 := { stood := { row := fnExactGlobalsOfRow, standIns := [], harness := (true, "41c83f64708dbbfc15b37708c4b4bf365428f25501cf93494f42bd62d3228f5e"), looks := true }, kinds := [], alts := [], laidByText := true, laidKinds := [.widerDeep, .data, .widerDeep], laidTests := true, laidLooks := .later }
def FnExactGlobalsOfCardSaid : Prop := Claim7.holds Tryz.pinned (.plain (OpenSpec.ofChange fnExactGlobalsOfSpec)) fnExactGlobalsOfCard

/-- THE TIED CARD OF 'laws.FnExactNoComments'. -/
def fnExactNoCommentsCard : Claim7 := { stood := { row := fnExactNoCommentsRow, standIns := [], harness := (true, "41c83f64708dbbfc15b37708c4b4bf365428f25501cf93494f42bd62d3228f5e"), looks := true }, kinds := [], alts := [], laidByText := true, laidKinds := [.widerDeep, .data, .widerDeep], laidTests := true, laidLooks := .later }
def FnExactNoCommentsCardSaid : Prop := Claim7.holds Tryz.pinned (.plain (OpenSpec.ofChange fnExactNoCommentsSpec)) fnExactNoCommentsCard

/-- THE TIED CARD OF 'laws.FnExactRename'. -/
def fnExactRenameCard : Claim7 := { stood := { row := fnExactRenameRow, standIns := [], harness := (true, "41c83f64708dbbfc15b37708c4b4bf365428f25501cf93494f42bd62d3228f5e"), looks := true }, kinds := [], alts := [], laidByText := true, laidKinds := [.widerDeep, .data, .widerDeep], laidTests := true, laidLooks := .later }
def FnExactRenameCardSaid : Prop := Claim7.holds Tryz.pinned (.plain (OpenSpec.ofChange fnExactRenameSpec)) fnExactRenameCard

/-- THE TIED CARD OF 'laws.FnExactLints'. -/
def fnExactLintsCard : Claim7 := { stood := { row := fnExactLintsRow, standIns := [], harness := (true, "41c83f64708dbbfc15b37708c4b4bf365428f25501cf93494f42bd62d3228f5e"), looks := true }, kinds := [], alts := [], laidByText := true, laidKinds := [.data, .data, .data, .widerDeep, .data, .widerDeep], laidTests := true, laidLooks := .later }
def FnExactLintsCardSaid : Prop := Claim7.holds Tryz.pinned (.plain (OpenSpec.ofChange fnExactLintsSpec)) fnExactLintsCard

/-- THE TIED CARD OF 'laws.FnExactClean'. -/
def fnExactCleanCard : Claim7 := { stood := { row := fnExactCleanRow, standIns := [], harness := (true, "41c83f64708dbbfc15b37708c4b4bf365428f25501cf93494f42bd62d3228f5e"), looks := true }, kinds := [], alts := [], laidByText := true, laidKinds := [.data, .data, .data, .widerDeep, .data, .widerDeep], laidTests := true, laidLooks := .later }
def FnExactCleanCardSaid : Prop := Claim7.holds Tryz.pinned (.plain (OpenSpec.ofChange fnExactCleanSpec)) fnExactCleanCard

/-- THE TIED CARD OF 'laws.FnExactEval'. -/
def fnExactEvalCard : Claim7 := { stood := { row := fnExactEvalRow, standIns := [], harness := (true, "41c83f64708dbbfc15b37708c4b4bf365428f25501cf93494f42bd62d3228f5e"), looks := true }, kinds := [], alts := [], laidByText := true, laidKinds := [.data, .data, .data, .sentinel, .sentinel, .widerDeep, .data, .widerDeep], laidTests := true, laidLooks := .later }
def FnExactEvalCardSaid : Prop := Claim7.holds Tryz.pinned (.plain (OpenSpec.ofChange fnExactEvalSpec)) fnExactEvalCard

/-- THE TIED CARD OF 'laws.FnExactFold'. -/
def fnExactFoldCard : Claim7 := { stood := { row := fnExactFoldRow, standIns := [], harness := (true, "41c83f64708dbbfc15b37708c4b4bf365428f25501cf93494f42bd62d3228f5e"), looks := true }, kinds := [], alts := [], laidByText := true, laidKinds := [.data, .data, .data, .sentinel, .sentinel, .widerDeep, .data, .widerDeep], laidTests := true, laidLooks := .later }
def FnExactFoldCardSaid : Prop := Claim7.holds Tryz.pinned (.plain (OpenSpec.ofChange fnExactFoldSpec)) fnExactFoldCard

/-- THE SECOND FORM's CARD OF 'laws.FnExactMeasure'. -/
def fnExactMeasureUptoCard : Claim7 := { stood := { row := fnExactMeasureUptoRow, standIns := [], harness := (true, "41c83f64708dbbfc15b37708c4b4bf365428f25501cf93494f42bd62d3228f5e"), looks := true }, kinds := [], alts := [], laidByText := true, laidKinds := [.data, .data, .data, .widerDeep, .data, .widerDeep], laidTests := true, laidLooks := .later }
def FnExactMeasureUptoCardSaid : Prop := Claim7.holds Tryz.pinned (.plain (OpenSpec.upto fnExactMeasureSpec)) fnExactMeasureUptoCard

/-- THE SECOND FORM's CARD OF 'laws.FnExactUnused'. -/
def fnExactUnusedUptoCard : Claim7 := { stood := { row := fnExactUnusedUptoRow, standIns := [], harness := (true, "41c83f64708dbbfc15b37708c4b4bf365428f25501cf93494f42bd62d3228f5e"), looks := true }, kinds := [], alts := [], laidByText := true, laidKinds := [.widerDeep, .data, .widerDeep], laidTests := true, laidLooks := .later }
def FnExactUnusedUptoCardSaid : Prop := Claim7.holds Tryz.pinned (.plain (OpenSpec.upto fnExactUnusedSpec)) fnExactUnusedUptoCard

/-- THE SECOND FORM's CARD OF 'laws.FnExactGlobalsOf'. -/
def fnExactGlobalsOfUptoCard : Claim7 := { stood := { row := fnExactGlobalsOfUptoRow, standIns := [], harness := (true, "41c83f64708dbbfc15b37708c4b4bf365428f25501cf93494f42bd62d3228f5e"), looks := true }, kinds := [], alts := [], laidByText := true, laidKinds := [.widerDeep, .data, .widerDeep], laidTests := true, laidLooks := .later }
def FnExactGlobalsOfUptoCardSaid : Prop := Claim7.holds Tryz.pinned (.plain (OpenSpec.upto fnExactGlobalsOfSpec)) fnExactGlobalsOfUptoCard

/-- THE SECOND FORM's CARD OF 'laws.FnExactNoComments'. -/
def fnExactNoCommentsUptoCard : Claim7 := { stood := { row := fnExactNoCommentsUptoRow, standIns := [], harness := (true, "41c83f64708dbbfc15b37708c4b4bf365428f25501cf93494f42bd62d3228f5e"), looks := true }, kinds := [], alts := [], laidByText := true, laidKinds := [.widerDeep, .data, .widerDeep], laidTests := true, laidLooks := .later }
def FnExactNoCommentsUptoCardSaid : Prop := Claim7.holds Tryz.pinned (.plain (OpenSpec.upto fnExactNoCommentsSpec)) fnExactNoCommentsUptoCard

/-- THE SECOND FORM's CARD OF 'laws.FnExactRename'. -/
def fnExactRenameUptoCard : Claim7 := { stood := { row := fnExactRenameUptoRow, standIns := [], harness := (true, "41c83f64708dbbfc15b37708c4b4bf365428f25501cf93494f42bd62d3228f5e"), looks := true }, kinds := [], alts := [], laidByText := true, laidKinds := [.widerDeep, .data, .widerDeep], laidTests := true, laidLooks := .later }
def FnExactRenameUptoCardSaid : Prop := Claim7.holds Tryz.pinned (.plain (OpenSpec.upto fnExactRenameSpec)) fnExactRenameUptoCard

/-- THE SECOND FORM's CARD OF 'laws.FnExactLints'. -/
def fnExactLintsUptoCard : Claim7 := { stood := { row := fnExactLintsUptoRow, standIns := [], harness := (true, "41c83f64708dbbfc15b37708c4b4bf365428f25501cf93494f42bd62d3228f5e"), looks := true }, kinds := [], alts := [], laidByText := true, laidKinds := [.data, .data, .data, .widerDeep, .data, .widerDeep], laidTests := true, laidLooks := .later }
def FnExactLintsUptoCardSaid : Prop := Claim7.holds Tryz.pinned (.plain (OpenSpec.upto fnExactLintsSpec)) fnExactLintsUptoCard

/-- THE SECOND FORM's CARD OF 'laws.FnExactClean'. -/
def fnExactCleanUptoCard : Claim7 := { stood := { row := fnExactCleanUptoRow, standIns := [], harness := (true, "41c83f64708dbbfc15b37708c4b4bf365428f25501cf93494f42bd62d3228f5e"), looks := true }, kinds := [], alts := [], laidByText := true, laidKinds := [.data, .data, .data, .widerDeep, .data, .widerDeep], laidTests := true, laidLooks := .later }
def FnExactCleanUptoCardSaid : Prop := Claim7.holds Tryz.pinned (.plain (OpenSpec.upto fnExactCleanSpec)) fnExactCleanUptoCard

/-- THE SECOND FORM's CARD OF 'laws.FnExactEval'. -/
def fnExactEvalUptoCard : Claim7 := { stood := { row := fnExactEvalUptoRow, standIns := [], harness := (true, "41c83f64708dbbfc15b37708c4b4bf365428f25501cf93494f42bd62d3228f5e"), looks := true }, kinds := [], alts := [], laidByText := true, laidKinds := [.data, .data, .data, .sentinel, .sentinel, .widerDeep, .data, .widerDeep], laidTests := true, laidLooks := .later }
def FnExactEvalUptoCardSaid : Prop := Claim7.holds Tryz.pinned (.plain (OpenSpec.upto fnExactEvalSpec)) fnExactEvalUptoCard

/-- THE SECOND FORM's CARD OF 'laws.FnExactFold'. -/
def fnExactFoldUptoCard : Claim7 := { stood := { row := fnExactFoldUptoRow, standIns := [], harness := (true, "41c83f64708dbbfc15b37708c4b4bf365428f25501cf93494f42bd62d3228f5e"), looks := true }, kinds := [], alts := [], laidByText := true, laidKinds := [.data, .data, .data, .sentinel, .sentinel, .widerDeep, .data, .widerDeep], laidTests := true, laidLooks := .later }
def FnExactFoldUptoCardSaid : Prop := Claim7.holds Tryz.pinned (.plain (OpenSpec.upto fnExactFoldSpec)) fnExactFoldUptoCard
end Rows
end Go.Proofs.YtfmojbfodcgebaaGreatDoor
