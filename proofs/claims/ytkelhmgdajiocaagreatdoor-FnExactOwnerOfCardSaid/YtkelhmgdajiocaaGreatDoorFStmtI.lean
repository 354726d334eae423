/- Walks and lemmas of this seat (FStmtI): what each theorem says of the functions that it names. Conditions: those that each theorem states. -/
import Derived.Test.YtkelhmgdajiocaaGreatDoorGST
namespace Go.Proofs.YtkelhmgdajiocaaGreatDoor
set_option linter.unusedVariables false
set_option linter.unusedSimpArgs false
open Go.RowKit Go.Lib

set_option maxRecDepth 100000 in
set_option maxHeartbeats 3200000 in
theorem implitemForm_40 (op : Int) (text other : ByteArray) (ka : Option Addr) (kn kc : Nat) (w : World) (ht : text.size ≤ 1048576) (ho : other.size ≤ 1048576) (hE : WordEnv w) : Calls Tryz.prog 145 #[.agg #[.int .i64 40, .int .i64 op, .string text, .string other, .slice ka kn kc]] w fun e w' => e = .returned (formW 40 op text other) ∧ Below w.heap.size w w' := by
  go_enter Tryz.func145, Tryz.ntmps145
  go_wp2
  all_goals refine bodyPost_ret (v := formW 40 op text other) ?_ rfl ⟨rfl, by repeat (first | exact Below.refl _ _ | refine Below.alloc ?_ (by first | omega | (simp; done) | (simp; omega)) _ | refine Below.drew ?_)⟩
  all_goals first | (simp [results, Tryz.results145, go_sem, formW, opOk, textE, otherE, saysOf, leastI, least, most, isEmp_iff]; done) | (simp_all [results, Tryz.results145, go_sem, formW, opOk, textE, otherE, saysOf, leastI, least, most, isEmp_iff]; done) | trace_state
  all_goals sorry
set_option maxRecDepth 100000 in
set_option maxHeartbeats 3200000 in
theorem implitemForm_41 (op : Int) (text other : ByteArray) (ka : Option Addr) (kn kc : Nat) (w : World) (ht : text.size ≤ 1048576) (ho : other.size ≤ 1048576) (hE : WordEnv w) : Calls Tryz.prog 145 #[.agg #[.int .i64 41, .int .i64 op, .string text, .string other, .slice ka kn kc]] w fun e w' => e = .returned (formW 41 op text other) ∧ Below w.heap.size w w' := by
  go_enter Tryz.func145, Tryz.ntmps145
  go_wp2
  all_goals refine bodyPost_ret (v := formW 41 op text other) ?_ rfl ⟨rfl, by repeat (first | exact Below.refl _ _ | refine Below.alloc ?_ (by first | omega | (simp; done) | (simp; omega)) _ | refine Below.drew ?_)⟩
  all_goals first | (simp [results, Tryz.results145, go_sem, formW, opOk, textE, otherE, saysOf, leastI, least, most, isEmp_iff]; done) | (simp_all [results, Tryz.results145, go_sem, formW, opOk, textE, otherE, saysOf, leastI, least, most, isEmp_iff]; done) | trace_state
  all_goals sorry
set_option maxRecDepth 100000 in
set_option maxHeartbeats 3200000 in
theorem implitemForm_42 (op : Int) (text other : ByteArray) (ka : Option Addr) (kn kc : Nat) (w : World) (ht : text.size ≤ 1048576) (ho : other.size ≤ 1048576) (hE : WordEnv w) : Calls Tryz.prog 145 #[.agg #[.int .i64 42, .int .i64 op, .string text, .string other, .slice ka kn kc]] w fun e w' => e = .returned (formW 42 op text other) ∧ Below w.heap.size w w' := by
  go_enter Tryz.func145, Tryz.ntmps145
  go_wp2_with (go_at_call 45; refine (implwithin_any _ _ _ _).mono ?_; rintro e w9 ⟨rfl, rfl⟩)
  all_goals refine bodyPost_ret (v := formW 42 op text other) ?_ rfl ⟨rfl, by repeat (first | exact Below.refl _ _ | refine Below.alloc ?_ (by first | omega | (simp; done) | (simp; omega)) _ | refine Below.drew ?_)⟩
  all_goals first | (simp [results, Tryz.results145, go_sem, formW, opOk, textE, otherE, saysOf, leastI, least, most, isEmp_iff]; done) | (simp_all [results, Tryz.results145, go_sem, formW, opOk, textE, otherE, saysOf, leastI, least, most, isEmp_iff]; done) | trace_state
  all_goals sorry
set_option maxRecDepth 100000 in
set_option maxHeartbeats 3200000 in
theorem implitemForm_43 (op : Int) (text other : ByteArray) (ka : Option Addr) (kn kc : Nat) (w : World) (ht : text.size ≤ 1048576) (ho : other.size ≤ 1048576) (hE : WordEnv w) : Calls Tryz.prog 145 #[.agg #[.int .i64 43, .int .i64 op, .string text, .string other, .slice ka kn kc]] w fun e w' => e = .returned (formW 43 op text other) ∧ Below w.heap.size w w' := by
  go_enter Tryz.func145, Tryz.ntmps145
  go_wp2
  all_goals refine bodyPost_ret (v := formW 43 op text other) ?_ rfl ⟨rfl, by repeat (first | exact Below.refl _ _ | refine Below.alloc ?_ (by first | omega | (simp; done) | (simp; omega)) _ | refine Below.drew ?_)⟩
  all_goals first | (simp [results, Tryz.results145, go_sem, formW, opOk, textE, otherE, saysOf, leastI, least, most, isEmp_iff]; done) | (simp_all [results, Tryz.results145, go_sem, formW, opOk, textE, otherE, saysOf, leastI, least, most, isEmp_iff]; done) | trace_state
  all_goals sorry
set_option maxRecDepth 100000 in
set_option maxHeartbeats 3200000 in
theorem implitemForm_44 (op : Int) (text other : ByteArray) (ka : Option Addr) (kn kc : Nat) (w : World) (ht : text.size ≤ 1048576) (ho : other.size ≤ 1048576) (hE : WordEnv w) : Calls Tryz.prog 145 #[.agg #[.int .i64 44, .int .i64 op, .string text, .string other, .slice ka kn kc]] w fun e w' => e = .returned (formW 44 op text other) ∧ Below w.heap.size w w' := by
  go_enter Tryz.func145, Tryz.ntmps145
  go_wp2_with (go_at_call 160; refine (implNameOk_any _ _ (by assumption) (hE.below (by repeat (first | exact Below.refl _ _ | refine Below.alloc ?_ (by first | omega | (simp; done) | (simp; omega)) _ | refine Below.drew ?_)))).mono ?_; rintro e w9 ⟨rfl, rfl⟩)
  all_goals refine bodyPost_ret (v := formW 44 op text other) ?_ rfl ⟨rfl, by repeat (first | exact Below.refl _ _ | refine Below.alloc ?_ (by first | omega | (simp; done) | (simp; omega)) _ | refine Below.drew ?_)⟩
  all_goals first | (simp [results, Tryz.results145, go_sem, formW, opOk, textE, otherE, saysOf, leastI, least, most, isEmp_iff]; done) | (simp_all [results, Tryz.results145, go_sem, formW, opOk, textE, otherE, saysOf, leastI, least, most, isEmp_iff]; done) | trace_state
  all_goals sorry
set_option maxRecDepth 100000 in
set_option maxHeartbeats 3200000 in
theorem implitemForm_45 (op : Int) (text other : ByteArray) (ka : Option Addr) (kn kc : Nat) (w : World) (ht : text.size ≤ 1048576) (ho : other.size ≤ 1048576) (hE : WordEnv w) : Calls Tryz.prog 145 #[.agg #[.int .i64 45, .int .i64 op, .string text, .string other, .slice ka kn kc]] w fun e w' => e = .returned (formW 45 op text other) ∧ Below w.heap.size w w' := by
  go_enter Tryz.func145, Tryz.ntmps145
  go_wp2
  all_goals refine bodyPost_ret (v := formW 45 op text other) ?_ rfl ⟨rfl, by repeat (first | exact Below.refl _ _ | refine Below.alloc ?_ (by first | omega | (simp; done) | (simp; omega)) _ | refine Below.drew ?_)⟩
  all_goals first | (simp [results, Tryz.results145, go_sem, formW, opOk, textE, otherE, saysOf, leastI, least, most, isEmp_iff]; done) | (simp_all [results, Tryz.results145, go_sem, formW, opOk, textE, otherE, saysOf, leastI, least, most, isEmp_iff]; done) | trace_state
  all_goals sorry
end Go.Proofs.YtkelhmgdajiocaaGreatDoor
