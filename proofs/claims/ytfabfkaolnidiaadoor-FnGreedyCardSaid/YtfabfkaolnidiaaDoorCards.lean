/-
  DERIVED. GIVEN WITH THE SEED: THE CARDS: each row of YtfabfkaolnidiaaDoorRows.lean that lists a variable, with what it lists TIED to the program's text (the seventh form; the later family's looks); each row that meets fmt, with fmt's text TOLD by the authors' own Lean function (tested against real Go, not proved from fmt's source: count such statements apart). THE CARD IS WHAT COUNTS. Prove the row's statement (the work); the ties are given (YtfabfkaolnidiaaDoorTie.lean); close each card by the builder's one call (the guide's Derived/Test/ToyasCard.lean, 'card_holds'). Laid BY PROGRAM, IN A SANDBOX (cutbox-door.mjs). By AI agents, Wed Nov 11 2026. No macro, syntax, notation, axiom, sorry.
-/
import Derived.Test.YtfabfkaolnidiaaDoorRows
import GoSem.ClaimSeven
namespace Go.Proofs.YtfabfkaolnidiaaDoor
namespace Rows

/-- THE TIED CARD OF 'laws.FnGreedy'. -/
def fnGreedyCard : Claim7 := { stood := { row := fnGreedyRow, standIns := [], harness := (true, "fc8c1df40542ecdc622340e084fe4a383968254df24c8f0ccc86309453a76fe3"), looks := false }, kinds := [], alts := [], laidByText := true, laidKinds := [.data, .pinned], laidTests := true, laidLooks := .later }
def FnGreedyCardSaid : Prop := Claim7.holds Tryd.pinned (.plain (OpenSpec.ofChange fnGreedySpec)) fnGreedyCard

/-- THE SECOND FORM's CARD OF 'laws.FnGreedy'. -/
def fnGreedyUptoCard : Claim7 := { stood := { row := fnGreedyUptoRow, standIns := [], harness := (true, "fc8c1df40542ecdc622340e084fe4a383968254df24c8f0ccc86309453a76fe3"), looks := false }, kinds := [], alts := [], laidByText := true, laidKinds := [.data, .pinned], laidTests := true, laidLooks := .later }
def FnGreedyUptoCardSaid : Prop := Claim7.holds Tryd.pinned (.plain (OpenSpec.upto fnGreedySpec)) fnGreedyUptoCard
end Rows
end Go.Proofs.YtfabfkaolnidiaaDoor
