/- Walks and lemmas of this seat (FKinds): what each theorem says of the functions that it names. Conditions: those that each theorem states. -/
import Derived.Test.YtfabfkaolnidiaaRows
import Derived.Test.YtfabfkaolnidiaaBase
namespace Go.Proofs.Ytfabfkaolnidiaa
set_option linter.unusedVariables false
set_option linter.unusedSimpArgs false
open Go.RowKit

/-! Kinds. -/
theorem implwithin_any (a lo hi : Int) (w : World) : Calls Try.prog 40 #[.int .i64 a, .int .i64 lo, .int .i64 hi] w fun e w' => e = .returned (.bool (inB a lo hi)) ∧ w = w' := by
  go_enter Try.func40, Try.ntmps40
  go_wp2
  all_goals go_ret
  all_goals exact ⟨ret_bool (by unfold inB; simp_all <;> omega), rfl⟩
theorem specl1In_any (a lo hi : Int) (w : World) : Calls Try.prog 33 #[.int .i64 a, .int .i64 lo, .int .i64 hi] w fun e w' => e = .returned (.bool (inB a lo hi)) ∧ w = w' := by
  go_enter Try.func33, Try.ntmps33
  go_wp2
  all_goals go_ret
  all_goals exact ⟨ret_bool (by unfold inB; simp_all <;> omega), rfl⟩

end Go.Proofs.Ytfabfkaolnidiaa
