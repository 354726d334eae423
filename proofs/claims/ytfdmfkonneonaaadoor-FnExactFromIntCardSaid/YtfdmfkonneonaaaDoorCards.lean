/-
  DERIVED. GIVEN WITH THE SEED: THE CARDS: each row of YtfdmfkonneonaaaDoorRows.lean that lists a variable, with what it lists TIED to the program's text (the seventh form; the later family's looks); each row that meets fmt, with fmt's text TOLD by the authors' own Lean function (tested against real Go, not proved from fmt's source: count such statements apart). THE CARD IS WHAT COUNTS. Prove the row's statement (the work); the ties are given (YtfdmfkonneonaaaDoorTie.lean); close each card by the builder's one call (the guide's Derived/Test/ToyasCard.lean, 'card_holds'). Laid BY PROGRAM, IN A SANDBOX (cutbox-door.mjs). By AI agents, Wed Nov 11 2026. No macro, syntax, notation, axiom, sorry.
-/
import Derived.Test.YtfdmfkonneonaaaDoorRows
import GoSem.ClaimSeven
namespace Go.Proofs.YtfdmfkonneonaaaDoor
namespace Rows

/-- THE TIED CARD OF 'laws.FnExactFromInt'. -/
def fnExactFromIntCard : Claim7 := { stood := { row := fnExactFromIntRow, standIns := [], harness := (true, "82a78a18653402ee0e88deff0bf34d99f89901f493acdc41d9b358750b74c19d"), looks := true }, kinds := [], alts := [], laidByText := true, laidKinds := [.data, .data, .data], laidTests := true, laidLooks := .later }
def FnExactFromIntCardSaid : Prop := Claim7.holds Tryd.pinned (.plain (OpenSpec.ofChange fnExactFromIntSpec)) fnExactFromIntCard

/-- THE TIED CARD OF 'laws.FnExactNumeral'. -/
def fnExactNumeralCard : Claim7 := { stood := { row := fnExactNumeralRow, standIns := [], harness := (true, "82a78a18653402ee0e88deff0bf34d99f89901f493acdc41d9b358750b74c19d"), looks := true }, kinds := [], alts := [], laidByText := true, laidKinds := [.data, .data, .data, .sentinel, .sentinel], laidTests := true, laidLooks := .later }
def FnExactNumeralCardSaid : Prop := Claim7.holds Tryd.pinned (.plain (OpenSpec.ofChange fnExactNumeralSpec)) fnExactNumeralCard

/-- THE SECOND FORM's CARD OF 'laws.FnExactFromInt'. -/
def fnExactFromIntUptoCard : Claim7 := { stood := { row := fnExactFromIntUptoRow, standIns := [], harness := (true, "82a78a18653402ee0e88deff0bf34d99f89901f493acdc41d9b358750b74c19d"), looks := true }, kinds := [], alts := [], laidByText := true, laidKinds := [.data, .data, .data], laidTests := true, laidLooks := .later }
def FnExactFromIntUptoCardSaid : Prop := Claim7.holds Tryd.pinned (.plain (OpenSpec.upto fnExactFromIntSpec)) fnExactFromIntUptoCard

/-- THE SECOND FORM's CARD OF 'laws.FnExactNumeral'. -/
def fnExactNumeralUptoCard : Claim7 := { stood := { row := fnExactNumeralUptoRow, standIns := [], harness := (true, "82a78a18653402ee0e88deff0bf34d99f89901f493acdc41d9b358750b74c19d"), looks := true }, kinds := [], alts := [], laidByText := true, laidKinds := [.data, .data, .data, .sentinel, .sentinel], laidTests := true, laidLooks := .later }
def FnExactNumeralUptoCardSaid : Prop := Claim7.holds Tryd.pinned (.plain (OpenSpec.upto fnExactNumeralSpec)) fnExactNumeralUptoCard
end Rows
end Go.Proofs.YtfdmfkonneonaaaDoor
