/-
  DERIVED. GIVEN WITH THE SEED: THE CARDS: each row of YtmemgmcopnaogaaGreatDoorRows.lean that lists a variable, with what it lists TIED to the program's text (the seventh form; the later family's looks); each row that meets fmt, with fmt's text TOLD by the authors' own Lean function (tested against real Go, not proved from fmt's source: count such statements apart). THE CARD IS WHAT COUNTS. Prove the row's statement (the work); the ties are given (YtmemgmcopnaogaaGreatDoorTie.lean); close each card by the builder's one call (the guide's Derived/Test/ToyasCard.lean, 'card_holds'). Laid BY PROGRAM, IN A SANDBOX (cutbox-door.mjs). By AI agents, Wed Nov 11 2026. No macro, syntax, notation, axiom, sorry.
-/
import Derived.Test.YtmemgmcopnaogaaGreatDoorRows
import GoSem.ClaimSeven
namespace Go.Proofs.YtmemgmcopnaogaaGreatDoor
namespace Rows

/-- THE TIED CARD OF 'laws.FnFolds'. -/
def fnFoldsCard : Claim7 := { stood := { row := fnFoldsRow, standIns := [], harness := (true, "f6af5d45c273015fb1d8b63ec74a1151a014f64bd5b82503b103bdb62febfc21"), looks := true }, kinds := [], alts := [], laidByText := true, laidKinds := [.data, .data, .data, .sentinel, .sentinel, .widerDeep, .data, .widerDeep], laidTests := true, laidLooks := .later }
def FnFoldsCardSaid : Prop := Claim7.holds Tryz.pinned (.plain (OpenSpec.ofChange fnFoldsSpec)) fnFoldsCard

/-- THE TIED CARD OF 'laws.FnExactFold'. -/
def fnExactFoldCard : Claim7 := { stood := { row := fnExactFoldRow, standIns := [], harness := (true, "f6af5d45c273015fb1d8b63ec74a1151a014f64bd5b82503b103bdb62febfc21"), looks := true }, kinds := [], alts := [], laidByText := true, laidKinds := [.data, .data, .data, .sentinel, .sentinel, .widerDeep, .data, .widerDeep], laidTests := true, laidLooks := .later }
def FnExactFoldCardSaid : Prop := Claim7.holds Tryz.pinned (.plain (OpenSpec.ofChange fnExactFoldSpec)) fnExactFoldCard

/-- THE TIED CARD OF 'laws.FnExactYield'. -/
def fnExactYieldCard : Claim7 := { stood := { row := fnExactYieldRow, standIns := [], harness := (true, "f6af5d45c273015fb1d8b63ec74a1151a014f64bd5b82503b103bdb62febfc21"), looks := true }, kinds := [], alts := [], laidByText := true, laidKinds := [.widerDeep, .data, .widerDeep], laidTests := true, laidLooks := .later }
def FnExactYieldCardSaid : Prop := Claim7.holds Tryz.pinned (.plain (OpenSpec.ofChange fnExactYieldSpec)) fnExactYieldCard

/-- THE TIED CARD OF 'laws.FnExactOwnerOf'. -/
def fnExactOwnerOfCard : Claim7 := { stood := { row := fnExactOwnerOfRow, standIns := [], harness := (true, "f6af5d45c273015fb1d8b63ec74a1151a014f64bd5b82503b103bdb62febfc21"), looks := true }, kinds := [], alts := [], laidByText := true, laidKinds := [.widerDeep, .data, .widerDeep], laidTests := true, laidLooks := .later }
def FnExactOwnerOfCardSaid : Prop := Claim7.holds Tryz.pinned (.plain (OpenSpec.ofChange fnExactOwnerOfSpec)) fnExactOwnerOfCard

/-- THE TIED CARD OF 'laws.FnExactFullTokens'. -/
def fnExactFullTokensCard : Claim7 := { stood := { row := fnExactFullTokensRow, standIns := [], harness := (true, "f6af5d45c273015fb1d8b63ec74a1151a014f64bd5b82503b103bdb62febfc21"), looks := true }, kinds := [], alts := [], laidByText := true, laidKinds := [.widerDeep, .data, .widerDeep], laidTests := true, laidLooks := .later }
def FnExactFullTokensCardSaid : Prop := Claim7.holds Tryz.pinned (.plain (OpenSpec.ofChange fnExactFullTokensSpec)) fnExactFullTokensCard

/-- THE TIED CARD OF 'laws.FnExactExprTokens'. -/
def fnExactExprTokensCard : Claim7 := { stood := { row := fnExactExprTokensRow, standIns := [], harness := (true, "f6af5d45c273015fb1d8b63ec74a1151a014f64bd5b82503b103bdb62febfc21"), looks := true }, kinds := [], alts := [], laidByText := true, laidKinds := [.widerDeep, .data, .widerDeep], laidTests := true, laidLooks := .later }
def FnExactExprTokensCardSaid : Prop := Claim7.holds Tryz.pinned (.plain (OpenSpec.ofChange fnExactExprTokensSpec)) fnExactExprTokensCard

/-- THE TIED CARD OF 'laws.FnBare'. -/
def fnBareCard : Claim7 := { stood := { row := fnBareRow, standIns := [], harness := (true, "f6af5d45c273015fb1d8b63ec74a1151a014f64bd5b82503b103bdb62febfc21"), looks := true }, kinds := [], alts := [], laidByText := true, laidKinds := [.widerDeep, .data, .widerDeep], laidTests := true, laidLooks := .later }
def FnBareCardSaid : Prop := Claim7.holds Tryz.pinned (.plain (OpenSpec.ofChange fnBareSpec)) fnBareCard

/-- THE SECOND FORM's CARD OF 'laws.FnFolds'. -/
def fnFoldsUptoCard : Claim7 := { stood := { row := fnFoldsUptoRow, standIns := [], harness := (true, "f6af5d45c273015fb1d8b63ec74a1151a014f64bd5b82503b103bdb62febfc21"), looks := true }, kinds := [], alts := [], laidByText := true, laidKinds := [.data, .data, .data, .sentinel, .sentinel, .widerDeep, .data, .widerDeep], laidTests := true, laidLooks := .later }
def FnFoldsUptoCardSaid : Prop := Claim7.holds Tryz.pinned (.plain (OpenSpec.upto fnFoldsSpec)) fnFoldsUptoCard

/-- THE SECOND FORM's CARD OF 'laws.FnExactFold'. -/
def fnExactFoldUptoCard : Claim7 := { stood := { row := fnExactFoldUptoRow, standIns := [], harness := (true, "f6af5d45c273015fb1d8b63ec74a1151a014f64bd5b82503b103bdb62febfc21"), looks := true }, kinds := [], alts := [], laidByText := true, laidKinds := [.data, .data, .data, .sentinel, .sentinel, .widerDeep, .data, .widerDeep], laidTests := true, laidLooks := .later }
def FnExactFoldUptoCardSaid : Prop := Claim7.holds Tryz.pinned (.plain (OpenSpec.upto fnExactFoldSpec)) fnExactFoldUptoCard

/-- THE SECOND FORM's CARD OF 'laws.FnExactYield'. -/
def fnExactYieldUptoCard : Claim7 := { stood := { row := fnExactYieldUptoRow, standIns := [], harness := (true, "f6af5d45c273015fb1d8b63ec74a1151a014f64bd5b82503b103bdb62febfc21"), looks := true }, kinds := [], alts := [], laidByText := true, laidKinds := [.widerDeep, .data, .widerDeep], laidTests := true, laidLooks := .later }
def FnExactYieldUptoCardSaid : Prop := Claim7.holds Tryz.pinned (.plain (OpenSpec.upto fnExactYieldSpec)) fnExactYieldUptoCard

/-- THE SECOND FORM's CARD OF 'laws.FnExactOwnerOf'. -/
def fnExactOwnerOfUptoCard : Claim7 := { stood := { row := fnExactOwnerOfUptoRow, standIns := [], harness := (true, "f6af5d45c273015fb1d8b63ec74a1151a014f64bd5b82503b103bdb62febfc21"), looks := true }, kinds := [], alts := [], laidByText := true, laidKinds := [.widerDeep, .data, .widerDeep], laidTests := true, laidLooks := .later }
def FnExactOwnerOfUptoCardSaid : Prop := Claim7.holds Tryz.pinned (.plain (OpenSpec.upto fnExactOwnerOfSpec)) fnExactOwnerOfUptoCard

/-- THE SECOND FORM's CARD OF 'laws.FnExactFullTokens'. -/
def fnExactFullTokensUptoCard : Claim7 := { stood := { row := fnExactFullTokensUptoRow, standIns := [], harness := (true, "f6af5d45c273015fb1d8b63ec74a1151a014f64bd5b82503b103bdb62febfc21"), looks := true }, kinds := [], alts := [], laidByText := true, laidKinds := [.widerDeep, .data, .widerDeep], laidTests := true, laidLooks := .later }
def FnExactFullTokensUptoCardSaid : Prop := Claim7.holds Tryz.pinned (.plain (OpenSpec.upto fnExactFullTokensSpec)) fnExactFullTokensUptoCard

/-- THE SECOND FORM's CARD OF 'laws.FnExactExprTokens'. -/
def fnExactExprTokensUptoCard : Claim7 := { stood := { row := fnExactExprTokensUptoRow, standIns := [], harness := (true, "f6af5d45c273015fb1d8b63ec74a1151a014f64bd5b82503b103bdb62febfc21"), looks := true }, kinds := [], alts := [], laidByText := true, laidKinds := [.widerDeep, .data, .widerDeep], laidTests := true, laidLooks := .later }
def FnExactExprTokensUptoCardSaid : Prop := Claim7.holds Tryz.pinned (.plain (OpenSpec.upto fnExactExprTokensSpec)) fnExactExprTokensUptoCard

/-- THE SECOND FORM's CARD OF 'laws.FnBare'. -/
def fnBareUptoCard : Claim7 := { stood := { row := fnBareUptoRow, standIns := [], harness := (true, "f6af5d45c273015fb1d8b63ec74a1151a014f64bd5b82503b103bdb62febfc21"), looks := true }, kinds := [], alts := [], laidByText := true, laidKinds := [.widerDeep, .data, .widerDeep], laidTests := true, laidLooks := .later }
def FnBareUptoCardSaid : Prop := Claim7.holds Tryz.pinned (.plain (OpenSpec.upto fnBareSpec)) fnBareUptoCard
end Rows
end Go.Proofs.YtmemgmcopnaogaaGreatDoor
