/- Walks and lemmas of this seat (FStatements): what each theorem says of the functions that it names. Conditions: those that each theorem states. -/
import Derived.Test.YtkelhmgdajiocaaGreatDoorRows
import Derived.Test.YtkelhmgdajiocaaGreatDoorGA
import Derived.Test.YtkelhmgdajiocaaGreatDoorGD
namespace Go.Proofs.YtkelhmgdajiocaaGreatDoor
set_option linter.unusedVariables false
set_option linter.unusedSimpArgs false
open Go.RowKit

theorem implIsStmt_any (k : Int) (w : World) : Calls Tryz.prog 143 #[.int .i64 k] w fun e w' => e = .returned (.bool (isStmtB k)) ∧ w = w' := by
  go_enter Tryz.func143, Tryz.ntmps143
  go_wp2_with (go_at_call 45; refine (implwithin_any _ _ _ _).mono ?_; rintro e w' ⟨rfl, rfl⟩)
  go_ret
  exact ⟨rfl, rfl⟩
theorem specIsStmt_any (k : Int) (w : World) : Calls Tryz.prog 100 #[.int .i64 k] w fun e w' => e = .returned (.bool (isStmtB k)) ∧ w = w' := by
  go_enter Tryz.func100, Tryz.ntmps100
  go_wp2_with (go_at_call 52; refine (specl1In_any _ _ _ _).mono ?_; rintro e w' ⟨rfl, rfl⟩)
  go_ret
  exact ⟨rfl, rfl⟩
def isStatementB (x : Node) : Bool := isStmtB x.kind && !(x.kind == 33) && !(x.kind == 34)

end Go.Proofs.YtkelhmgdajiocaaGreatDoor
/- Walks and lemmas of this seat (FKinds2): what each theorem says of the functions that it names. Conditions: those that each theorem states. -/
namespace Go.Proofs.YtkelhmgdajiocaaGreatDoor
set_option linter.unusedVariables false
set_option linter.unusedSimpArgs false
open Go.RowKit

/-! Kinds and operators, both sides. -/
theorem implIsExpr_any (k : Int) (w : World) : Calls Tryz.prog 87 #[.int .i64 k] w fun e w' => e = .returned (.bool (isExprB k)) ∧ w' = w := by
  go_enter Tryz.func87, Tryz.ntmps87
  go_wp2_with (go_at_call 45; refine (implwithin_any _ _ _ _).mono ?_; rintro e w' ⟨rfl, rfl⟩)
  go_ret
  exact ⟨rfl, rfl⟩
theorem specIsExpr_any (k : Int) (w : World) : Calls Tryz.prog 51 #[.int .i64 k] w fun e w' => e = .returned (.bool (isExprB k)) ∧ w' = w := by
  go_enter Tryz.func51, Tryz.ntmps51
  go_wp2_with (go_at_call 52; refine (specl1In_any _ _ _ _).mono ?_; rintro e w' ⟨rfl, rfl⟩)
  go_ret
  exact ⟨rfl, rfl⟩
theorem implisItem_any (k : Int) (w : World) : Calls Tryz.prog 147 #[.int .i64 k] w fun e w' => e = .returned (.bool (isItemB k)) ∧ w' = w := by
  go_enter Tryz.func147, Tryz.ntmps147
  go_wp2_with (go_at_call 45; refine (implwithin_any _ _ _ _).mono ?_; rintro e w' ⟨rfl, rfl⟩)
  go_ret
  exact ⟨rfl, rfl⟩
theorem implIsLvalue_any (k : Int) (w : World) : Calls Tryz.prog 146 #[.int .i64 k] w fun e w' => e = .returned (.bool (isLvalueB k)) ∧ w' = w := by
  go_enter Tryz.func146, Tryz.ntmps146
  go_wp2
  all_goals go_ret
  all_goals exact ⟨ret_bool (by unfold isLvalueB; simp_all), rfl⟩
theorem specIsLvalue_any (k : Int) (w : World) : Calls Tryz.prog 99 #[.int .i64 k] w fun e w' => e = .returned (.bool (isLvalueB k)) ∧ w' = w := by
  go_enter Tryz.func99, Tryz.ntmps99
  go_wp2
  all_goals go_ret
  all_goals exact ⟨ret_bool (by unfold isLvalueB; simp_all), rfl⟩
theorem implisStep_any (op : Int) (w : World) : Calls Tryz.prog 163 #[.int .i64 op] w fun e w' => e = .returned (.bool (isStepB op)) ∧ w' = w := by
  go_enter Tryz.func163, Tryz.ntmps163
  go_wp2
  all_goals go_ret
  all_goals exact ⟨ret_bool (by unfold isStepB; simp_all), rfl⟩
theorem implOpLevel_any (op : Int) (w : World) : Calls Tryz.prog 121 #[.int .i64 op] w fun e w' => e = .returned (.int .i64 (opLevelB op)) ∧ w' = w := by
  go_enter Tryz.func121, Tryz.ntmps121
  go_wp2
  all_goals go_ret
  all_goals exact ⟨ret_int (by unfold opLevelB; simp_all), rfl⟩
def isBinB (op : Int) : Bool := opLevelB op != 0
theorem specl7IsBin_any (op : Int) (w : World) : Calls Tryz.prog 125 #[.int .i64 op] w fun e w' => e = .returned (.bool (isBinB op)) ∧ w' = w := by
  go_enter Tryz.func125, Tryz.ntmps125
  go_wp2
  all_goals go_ret
  all_goals exact ⟨ret_bool (by unfold isBinB opLevelB; simp_all), rfl⟩
theorem implisAssign_any (op : Int) (w : World) : Calls Tryz.prog 164 #[.int .i64 op] w fun e w' => e = .returned (.bool (isAssignB op)) ∧ w' = w := by
  have h1 := implwithin_any op 38 43 w
  unfold isAssignB
  generalize inB op 38 43 = b at h1 ⊢
  by_cases h : op = 54
  · subst h
    go_enter Tryz.func164, Tryz.ntmps164
    go_wp2
    go_ret
    exact ⟨ret_bool (by simp), rfl⟩
  · go_enter Tryz.func164, Tryz.ntmps164
    go_wp2_with (go_at_call 45; refine h1.mono ?_; rintro e w' ⟨rfl, rfl⟩)
    go_ret
    exact ⟨ret_bool (by simp [h]), rfl⟩
theorem specl7IsAssign_any (op : Int) (w : World) : Calls Tryz.prog 126 #[.int .i64 op] w fun e w' => e = .returned (.bool (isAssignB op)) ∧ w' = w := by
  have h1 := specl1In_any op 38 43 w
  unfold isAssignB
  generalize inB op 38 43 = b at h1 ⊢
  by_cases h : op = 54
  · subst h
    go_enter Tryz.func126, Tryz.ntmps126
    go_wp2
    go_ret
    exact ⟨ret_bool (by simp), rfl⟩
  · go_enter Tryz.func126, Tryz.ntmps126
    go_wp2_with (go_at_call 52; refine h1.mono ?_; rintro e w' ⟨rfl, rfl⟩)
    go_ret
    exact ⟨ret_bool (by simp [h]), rfl⟩
end Go.Proofs.YtkelhmgdajiocaaGreatDoor
