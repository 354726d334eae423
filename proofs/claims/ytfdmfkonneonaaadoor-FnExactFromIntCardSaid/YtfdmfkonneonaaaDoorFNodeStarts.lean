/- Walks and lemmas of this seat (FNodeStarts): what each theorem says of the functions that it names. Conditions: those that each theorem states. -/
import Derived.Test.YtfdmfkonneonaaaDoorFStarts
import Derived.Test.YtfdmfkonneonaaaDoorDataNode
namespace Go.Proofs.YtfdmfkonneonaaaDoor
set_option linter.unusedVariables false
set_option linter.unusedSimpArgs false
open Go.RowKit

theorem specl1In_any (a b c : Int) (w : World) : Calls Tryd.prog 12 #[.int .i64 a, .int .i64 b, .int .i64 c] w fun e w' => e = .returned (.bool (decide (b ≤ a ∧ a ≤ c))) ∧ w = w' := by
  by_cases h : b ≤ a
  · go_enter Tryd.func12, Tryd.ntmps12
    go_wp2
    go_ret
    exact ⟨ret_bool (by simp [h]), rfl⟩
  · go_enter Tryd.func12, Tryd.ntmps12
    go_wp2
    go_ret
    exact ⟨ret_bool (by simp; omega), rfl⟩


def shapeOk (l : List (List Int)) : Bool := decide (1 ≤ l.length ∧ l.length ≤ 400) && startsLast l
end Go.Proofs.YtfdmfkonneonaaaDoor
