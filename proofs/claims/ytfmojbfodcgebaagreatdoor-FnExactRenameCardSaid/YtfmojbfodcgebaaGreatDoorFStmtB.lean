/- Walks and lemmas of this seat (FStmtB): what each theorem says of the functions that it names. Conditions: those that each theorem states. -/
import Derived.Test.YtfmojbfodcgebaaGreatDoorFStmt
namespace Go.Proofs.YtfmojbfodcgebaaGreatDoor
set_option linter.unusedVariables false
set_option linter.unusedSimpArgs false
open Go.RowKit Go.Lib

set_option maxRecDepth 100000 in
set_option maxHeartbeats 3200000 in
theorem implstmtForm_27 (op : Int) (text other : ByteArray) (ka : Option Addr) (kn kc : Nat) (w : World) (ht : text.size ≤ 1048576) (ho : other.size ≤ 1048576) (hE : WordEnv w) : Calls Tryz.prog 168 #[.agg #[.int .i64 27, .int .i64 op, .string text, .string other, .slice ka kn kc]] w fun e w' => e = .returned (formW 27 op text other) ∧ Below w.heap.size w w' := by
  go_enter Tryz.func168, Tryz.ntmps168
  go_wp2_with (go_at_call 87; refine (implNameOk_any _ _ (by assumption) (hE.below (by repeat (first | exact Below.refl _ _ | refine Below.alloc ?_ (by first | omega | (simp; done) | (simp; omega)) _ | refine Below.drew ?_)))).mono ?_; rintro e w9 ⟨rfl, rfl⟩)
  all_goals refine bodyPost_ret (v := formW 27 op text other) ?_ rfl ⟨rfl, by repeat (first | exact Below.refl _ _ | refine Below.alloc ?_ (by first | omega | (simp; done) | (simp; omega)) _ | refine Below.drew ?_)⟩
  all_goals first | (simp [results, Tryz.results168, go_sem, formW, opOk, textE, otherE, saysOf, leastI, least, most, isEmp_iff]; done) | (simp_all [results, Tryz.results168, go_sem, formW, opOk, textE, otherE, saysOf, leastI, least, most, isEmp_iff]; done) | trace_state
  all_goals sorry
set_option maxRecDepth 100000 in
set_option maxHeartbeats 3200000 in
theorem implstmtForm_28 (op : Int) (text other : ByteArray) (ka : Option Addr) (kn kc : Nat) (w : World) (ht : text.size ≤ 1048576) (ho : other.size ≤ 1048576) (hE : WordEnv w) : Calls Tryz.prog 168 #[.agg #[.int .i64 28, .int .i64 op, .string text, .string other, .slice ka kn kc]] w fun e w' => e = .returned (formW 28 op text other) ∧ Below w.heap.size w w' := by
  go_enter Tryz.func168, Tryz.ntmps168
  go_wp2
  all_goals refine bodyPost_ret (v := formW 28 op text other) ?_ rfl ⟨rfl, by repeat (first | exact Below.refl _ _ | refine Below.alloc ?_ (by first | omega | (simp; done) | (simp; omega)) _ | refine Below.drew ?_)⟩
  all_goals first | (simp [results, Tryz.results168, go_sem, formW, opOk, textE, otherE, saysOf, leastI, least, most, isEmp_iff]; done) | (simp_all [results, Tryz.results168, go_sem, formW, opOk, textE, otherE, saysOf, leastI, least, most, isEmp_iff]; done) | trace_state
  all_goals sorry
set_option maxRecDepth 100000 in
set_option maxHeartbeats 3200000 in
theorem implstmtForm_29 (op : Int) (text other : ByteArray) (ka : Option Addr) (kn kc : Nat) (w : World) (ht : text.size ≤ 1048576) (ho : other.size ≤ 1048576) (hE : WordEnv w) : Calls Tryz.prog 168 #[.agg #[.int .i64 29, .int .i64 op, .string text, .string other, .slice ka kn kc]] w fun e w' => e = .returned (formW 29 op text other) ∧ Below w.heap.size w w' := by
  go_enter Tryz.func168, Tryz.ntmps168
  go_wp2
  all_goals refine bodyPost_ret (v := formW 29 op text other) ?_ rfl ⟨rfl, by repeat (first | exact Below.refl _ _ | refine Below.alloc ?_ (by first | omega | (simp; done) | (simp; omega)) _ | refine Below.drew ?_)⟩
  all_goals first | (simp [results, Tryz.results168, go_sem, formW, opOk, textE, otherE, saysOf, leastI, least, most, isEmp_iff]; done) | (simp_all [results, Tryz.results168, go_sem, formW, opOk, textE, otherE, saysOf, leastI, least, most, isEmp_iff]; done) | trace_state
  all_goals sorry
set_option maxRecDepth 100000 in
set_option maxHeartbeats 3200000 in
theorem implstmtForm_30 (op : Int) (text other : ByteArray) (ka : Option Addr) (kn kc : Nat) (w : World) (ht : text.size ≤ 1048576) (ho : other.size ≤ 1048576) (hE : WordEnv w) : Calls Tryz.prog 168 #[.agg #[.int .i64 30, .int .i64 op, .string text, .string other, .slice ka kn kc]] w fun e w' => e = .returned (formW 30 op text other) ∧ Below w.heap.size w w' := by
  go_enter Tryz.func168, Tryz.ntmps168
  go_wp2
  all_goals refine bodyPost_ret (v := formW 30 op text other) ?_ rfl ⟨rfl, by repeat (first | exact Below.refl _ _ | refine Below.alloc ?_ (by first | omega | (simp; done) | (simp; omega)) _ | refine Below.drew ?_)⟩
  all_goals first | (simp [results, Tryz.results168, go_sem, formW, opOk, textE, otherE, saysOf, leastI, least, most, isEmp_iff]; done) | (simp_all [results, Tryz.results168, go_sem, formW, opOk, textE, otherE, saysOf, leastI, least, most, isEmp_iff]; done) | trace_state
  all_goals sorry
set_option maxRecDepth 100000 in
set_option maxHeartbeats 3200000 in
theorem implstmtForm_31 (op : Int) (text other : ByteArray) (ka : Option Addr) (kn kc : Nat) (w : World) (ht : text.size ≤ 1048576) (ho : other.size ≤ 1048576) (hE : WordEnv w) : Calls Tryz.prog 168 #[.agg #[.int .i64 31, .int .i64 op, .string text, .string other, .slice ka kn kc]] w fun e w' => e = .returned (formW 31 op text other) ∧ Below w.heap.size w w' := by
  go_enter Tryz.func168, Tryz.ntmps168
  go_wp2
  all_goals refine bodyPost_ret (v := formW 31 op text other) ?_ rfl ⟨rfl, by repeat (first | exact Below.refl _ _ | refine Below.alloc ?_ (by first | omega | (simp; done) | (simp; omega)) _ | refine Below.drew ?_)⟩
  all_goals first | (simp [results, Tryz.results168, go_sem, formW, opOk, textE, otherE, saysOf, leastI, least, most, isEmp_iff]; done) | (simp_all [results, Tryz.results168, go_sem, formW, opOk, textE, otherE, saysOf, leastI, least, most, isEmp_iff]; done) | trace_state
  all_goals sorry
end Go.Proofs.YtfmojbfodcgebaaGreatDoor
