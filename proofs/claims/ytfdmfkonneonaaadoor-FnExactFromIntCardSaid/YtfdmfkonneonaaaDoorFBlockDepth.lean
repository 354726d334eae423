/- Walks and lemmas of this seat (FBlockDepth): what each theorem says of the functions that it names. Conditions: those that each theorem states. -/
import Derived.Test.YtfdmfkonneonaaaDoorFBlocks
namespace Go.Proofs.YtfdmfkonneonaaaDoor
set_option linter.unusedVariables false
set_option linter.unusedSimpArgs false
open Go.RowKit

theorem shapeOk_yes {l : List Node} (h : shapeOk (l.map Node.kids) = true) : 1 ≤ l.length ∧ l.length ≤ 400 ∧ ∃ s, starts (l.map Node.kids) = some s := by
  unfold shapeOk startsLast at h
  simp at h
  refine ⟨h.1.1, h.1.2, ?_⟩
  cases hs : starts (l.map Node.kids) with
  | none => rw [hs] at h; simp at h
  | some s => exact ⟨s, rfl⟩
theorem shapeOk_ahead {l : List Node} (h : shapeOk (l.map Node.kids) = true) : Ahead l := by
  obtain ⟨_, _, s, hs⟩ := shapeOk_yes h
  exact ahead_of hs
/-- The tree of a list of nodes. -/
def rootTree (l : List Node) : Tree := treeIx l (l.length - 1)

def blockDepth (l : List Node) : Nat := if shapeOk (l.map Node.kids) = true then (rootTree l).blocks else 0

end Go.Proofs.YtfdmfkonneonaaaDoor
