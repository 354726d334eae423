/-
  DERIVED. GIVEN WITH THE SEED: THE CARDS: each row of YtdnjjgidlpmgjaaDoorRows.lean that lists a variable, with what it lists TIED to the program's text (the seventh form; the later family's looks); each row that meets fmt, with fmt's text TOLD by the authors' own Lean function (tested against real Go, not proved from fmt's source: count such statements apart). THE CARD IS WHAT COUNTS. Prove the row's statement (the work); the ties are given (YtdnjjgidlpmgjaaDoorTie.lean); close each card by the builder's one call (the guide's Derived/Test/ToyasCard.lean, 'card_holds'). Laid BY PROGRAM, IN A SANDBOX (cutbox-door.mjs). By AI agents, Wed Nov 11 2026. No macro, syntax, notation, axiom, sorry.
-/
import Derived.Test.YtdnjjgidlpmgjaaDoorRows
import GoSem.ClaimSeven
namespace Go.Proofs.YtdnjjgidlpmgjaaDoor
namespace Rows

/-- THE TIED CARD OF 'laws.FnExactLongest'. -/
def fnExactLongestCard : Claim7 := { stood := { row := fnExactLongestRow, standIns := [], harness := (true, "1659b8cbbd15041c54c2032f57786d34611a78e1dff38cd783c6922391711841"), looks := false }, kinds := [], alts := [], laidByText := true, laidKinds := [.data, .pinned], laidTests := true, laidLooks := .later }
def FnExactLongestCardSaid : Prop := Claim7.holds Tryd.pinned (.plain (OpenSpec.ofChange fnExactLongestSpec)) fnExactLongestCard

/-- THE TIED CARD OF 'laws.FnExactLinesOf'. -/
def fnExactLinesOfCard : Claim7 := { stood := { row := fnExactLinesOfRow, standIns := [], harness := (true, "1659b8cbbd15041c54c2032f57786d34611a78e1dff38cd783c6922391711841"), looks := false }, kinds := [], alts := [], laidByText := true, laidKinds := [.data, .pinned], laidTests := true, laidLooks := .later }
def FnExactLinesOfCardSaid : Prop := Claim7.holds Tryd.pinned (.plain (OpenSpec.ofChange fnExactLinesOfSpec)) fnExactLinesOfCard

/-- THE TIED CARD OF 'laws.FnLines'. -/
def fnLinesCard : Claim7 := { stood := { row := fnLinesRow, standIns := [], harness := (true, "1659b8cbbd15041c54c2032f57786d34611a78e1dff38cd783c6922391711841"), looks := false }, kinds := [], alts := [], laidByText := true, laidKinds := [.data, .pinned], laidTests := true, laidLooks := .later }
def FnLinesCardSaid : Prop := Claim7.holds Tryd.pinned (.plain (OpenSpec.ofChange fnLinesSpec)) fnLinesCard

/-- THE TIED CARD OF 'laws.FnGreedy'. -/
def fnGreedyCard : Claim7 := { stood := { row := fnGreedyRow, standIns := [], harness := (true, "1659b8cbbd15041c54c2032f57786d34611a78e1dff38cd783c6922391711841"), looks := false }, kinds := [], alts := [], laidByText := true, laidKinds := [.data, .pinned], laidTests := true, laidLooks := .later }
def FnGreedyCardSaid : Prop := Claim7.holds Tryd.pinned (.plain (OpenSpec.ofChange fnGreedySpec)) fnGreedyCard

/-- THE SECOND FORM's CARD OF 'laws.FnExactLongest'. -/
def fnExactLongestUptoCard : Claim7 := { stood := { row := fnExactLongestUptoRow, standIns := [], harness := (true, "1659b8cbbd15041c54c2032f57786d34611a78e1dff38cd783c6922391711841"), looks := false }, kinds := [], alts := [], laidByText := true, laidKinds := [.data, .pinned], laidTests := true, laidLooks := .later }
def FnExactLongestUptoCardSaid : Prop := Claim7.holds Tryd.pinned (.plain (OpenSpec.upto fnExactLongestSpec)) fnExactLongestUptoCard

/-- THE SECOND FORM's CARD OF 'laws.FnExactLinesOf'. -/
def fnExactLinesOfUptoCard : Claim7 := { stood := { row := fnExactLinesOfUptoRow, standIns := [], harness := (true, "1659b8cbbd15041c54c2032f57786d34611a78e1dff38cd783c6922391711841"), looks := false }, kinds := [], alts := [], laidByText := true, laidKinds := [.data, .pinned], laidTests := true, laidLooks := .later }
def FnExactLinesOfUptoCardSaid : Prop := Claim7.holds Tryd.pinned (.plain (OpenSpec.upto fnExactLinesOfSpec)) fnExactLinesOfUptoCard

/-- THE SECOND FORM's CARD OF 'laws.FnLines'. -/
def fnLinesUptoCard : Claim7 := { stood := { row := fnLinesUptoRow, standIns := [], harness := (true, "1659b8cbbd15041c54c2032f57786d34611a78e1dff38cd783c6922391711841"), looks := false }, kinds := [], alts := [], laidByText := true, laidKinds := [.data, .pinned], laidTests := true, laidLooks := .later }
def FnLinesUptoCardSaid : Prop := Claim7.holds Tryd.pinned (.plain (OpenSpec.upto fnLinesSpec)) fnLinesUptoCard

/-- THE SECOND FORM's CARD OF 'laws.FnGreedy'. -/
def fnGreedyUptoCard : Claim7 := { stood := { row := fnGreedyUptoRow, standIns := [], harness := (true, "1659b8cbbd15041c54c2032f57786d34611a78e1dff38cd783c6922391711841"), looks := false }, kinds := [], alts := [], laidByText := true, laidKinds := [.data, .pinned], laidTests := true, laidLooks := .later }
def FnGreedyUptoCardSaid : Prop := Claim7.holds Tryd.pinned (.plain (OpenSpec.upto fnGreedySpec)) fnGreedyUptoCard
end Rows
end Go.Proofs.YtdnjjgidlpmgjaaDoor
