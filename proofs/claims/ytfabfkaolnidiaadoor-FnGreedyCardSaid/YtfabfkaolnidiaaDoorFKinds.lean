/- Walks and lemmas of this seat (FKinds): what each theorem says of the functions that it names. Conditions: those that each theorem states. -/
import Derived.Test.YtfabfkaolnidiaaDoorRows
import Derived.Test.YtfabfkaolnidiaaDoorBase
namespace Go.Proofs.YtfabfkaolnidiaaDoor
set_option linter.unusedVariables false
set_option linter.unusedSimpArgs false
open Go.RowKit

/-! Kinds. -/
theorem implwithin_any (a lo hi : Int) (w : World) : Calls Tryd.prog 11 #[.int .i64 a, .int .i64 lo, .int .i64 hi] w fun e w' => e = .returned (.bool (inB a lo hi)) ∧ w = w' := by
  go_enter Tryd.func11, Tryd.ntmps11
  go_wp2
  all_goals go_ret
  all_goals exact ⟨ret_bool (by unfold inB; simp_all <;> omega), rfl⟩
theorem specl1In_any (a lo hi : Int) (w : World) : Calls Tryd.prog 18 #[.int .i64 a, .int .i64 lo, .int .i64 hi] w fun e w' => e = .returned (.bool (inB a lo hi)) ∧ w = w' := by
  go_enter Tryd.func18, Tryd.ntmps18
  go_wp2
  all_goals go_ret
  all_goals exact ⟨ret_bool (by unfold inB; simp_all <;> omega), rfl⟩

end Go.Proofs.YtfabfkaolnidiaaDoor
