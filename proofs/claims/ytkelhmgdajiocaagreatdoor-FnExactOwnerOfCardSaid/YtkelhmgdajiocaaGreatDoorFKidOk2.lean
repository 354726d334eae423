/- Walks and lemmas of this seat (FKidOk2): what each theorem says of the functions that it names. Conditions: those that each theorem states. -/
import Derived.Test.YtkelhmgdajiocaaGreatDoorGKO
namespace Go.Proofs.YtkelhmgdajiocaaGreatDoor
set_option linter.unusedVariables false
set_option linter.unusedSimpArgs false
open Go.RowKit

/-! May a kid be of its kind: both sides. -/
set_option maxRecDepth 100000 in
set_option maxHeartbeats 3200000 in
theorem specl7Kid_any (k op : Int) (text other : ByteArray) (ka : Option Addr) (kn kc : Nat) (j kid : Int) (w : World) (hn : kn ≤ 1048576) (hj : 0 ≤ j) :
    Calls Tryz.prog 75 #[.agg #[.int .i64 k, .int .i64 op, .string text, .string other, .slice ka kn kc], .int .i64 j, .int .i64 kid] w fun e w' => e = .returned (.bool (kidOkS k op kn j kid)) ∧ Below w.heap.size w w' := by
  have hL := hid (specIsLvalue_any kid)
  have hX := hid (specIsExpr_any kid)
  have hS := hid (specIsStmt_any kid)
  have hI : Hid (∀ w : World, Calls Tryz.prog 52 #[.int .i64 kid, .int .i64 40, .int .i64 44] w fun e w' => e = .returned (.bool (isItemB kid)) ∧ w = w') := hid (fun w => specl1In_any kid 40 44 w)
  obtain ⟨ans, hans⟩ : ∃ b, b = kidOkS k op kn j kid := ⟨_, rfl⟩
  rw [← hans]
  unfold kidOkS at hans
  generalize isLvalueB kid = bL at hL hans
  generalize isExprB kid = bX at hX hans
  generalize isStmtB kid = bS at hS hans
  generalize isItemB kid = bI at hI hans
  replace hans := hid hans
  rcases kind_cases k with rfl | rfl | rfl | rfl | rfl | rfl | rfl | rfl | rfl | rfl | rfl | rfl | rfl | rfl | rfl | ⟨n0, n1, n2, n3, n4, n5, n6, n7, n8, n9, n10, n11, n12, n13, n14⟩
  all_goals go_enter Tryz.func75, Tryz.ntmps75
  all_goals go_wp2_with (first | (go_at_call 99; refine (hL.out _).mono ?_; rintro e w' ⟨rfl, rfl⟩) | (go_at_call 51; refine (hX.out _).mono ?_; rintro e w' ⟨rfl, rfl⟩) | (go_at_call 100; refine (hS.out _).mono ?_; rintro e w' ⟨rfl, rfl⟩) | (go_at_call 52; refine (hI.out _).mono ?_; rintro e w' ⟨rfl, rfl⟩))
  all_goals first | go_ret | fail
  all_goals refine ⟨ret_bool ?_, by repeat (first | exact Below.refl _ _ | refine Below.alloc ?_ (by first | omega | (simp; done) | (simp; omega)) _ | refine Below.drew ?_)⟩
  all_goals replace hans := hans.out
  all_goals clear hL hX hS hI
  all_goals rw [hans]
  all_goals clear hans
  all_goals first
    | (simp_all; done)
    | (simp_all; omega)
    | (rw [Bool.eq_iff_iff]; simp_all; omega)
end Go.Proofs.YtkelhmgdajiocaaGreatDoor
