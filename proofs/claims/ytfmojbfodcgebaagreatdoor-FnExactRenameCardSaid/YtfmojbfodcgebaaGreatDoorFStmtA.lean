/- Walks and lemmas of this seat (FStmtA): what each theorem says of the functions that it names. Conditions: those that each theorem states. -/
import Derived.Test.YtfmojbfodcgebaaGreatDoorFStmt
namespace Go.Proofs.YtfmojbfodcgebaaGreatDoor
set_option linter.unusedVariables false
set_option linter.unusedSimpArgs false
open Go.RowKit Go.Lib

set_option maxRecDepth 100000 in
set_option maxHeartbeats 3200000 in
theorem implstmtForm_20 (op : Int) (text other : ByteArray) (ka : Option Addr) (kn kc : Nat) (w : World) (ht : text.size ≤ 1048576) (ho : other.size ≤ 1048576) (hE : WordEnv w) : Calls Tryz.prog 168 #[.agg #[.int .i64 20, .int .i64 op, .string text, .string other, .slice ka kn kc]] w fun e w' => e = .returned (formW 20 op text other) ∧ Below w.heap.size w w' := by
  go_enter Tryz.func168, Tryz.ntmps168
  go_wp2
  all_goals refine bodyPost_ret (v := formW 20 op text other) ?_ rfl ⟨rfl, by repeat (first | exact Below.refl _ _ | refine Below.alloc ?_ (by first | omega | (simp; done) | (simp; omega)) _ | refine Below.drew ?_)⟩
  all_goals first | (simp [results, Tryz.results168, go_sem, formW, opOk, textE, otherE, saysOf, leastI, least, most, isEmp_iff]; done) | (simp_all [results, Tryz.results168, go_sem, formW, opOk, textE, otherE, saysOf, leastI, least, most, isEmp_iff]; done) | trace_state
  all_goals sorry
set_option maxRecDepth 100000 in
set_option maxHeartbeats 3200000 in
theorem implstmtForm_21 (op : Int) (text other : ByteArray) (ka : Option Addr) (kn kc : Nat) (w : World) (ht : text.size ≤ 1048576) (ho : other.size ≤ 1048576) (hE : WordEnv w) : Calls Tryz.prog 168 #[.agg #[.int .i64 21, .int .i64 op, .string text, .string other, .slice ka kn kc]] w fun e w' => e = .returned (formW 21 op text other) ∧ Below w.heap.size w w' := by
  go_enter Tryz.func168, Tryz.ntmps168
  go_wp2_with (go_at_call 76; refine (hasOut _ _ _ _ (by simp)).mono ?_; rintro e w9 ⟨rfl, rfl⟩)
  all_goals refine bodyPost_ret (v := formW 21 op text other) ?_ rfl ⟨rfl, by repeat (first | exact Below.refl _ _ | refine Below.alloc ?_ (by first | omega | (simp; done) | (simp; omega)) _ | refine Below.drew ?_)⟩
  all_goals rw [form21]
  all_goals first
    | (simp [results, Tryz.results168, go_sem]; done)
    | (simp_all [results, Tryz.results168, go_sem]; done)
    | (simp_all [results, Tryz.results168, go_sem, show wrap64 1 = 1 from by unfold wrap64; omega, show wrap64 2 = 2 from by unfold wrap64; omega]; done)
set_option maxRecDepth 100000 in
set_option maxHeartbeats 3200000 in
theorem implstmtForm_22 (op : Int) (text other : ByteArray) (ka : Option Addr) (kn kc : Nat) (w : World) (ht : text.size ≤ 1048576) (ho : other.size ≤ 1048576) (hE : WordEnv w) : Calls Tryz.prog 168 #[.agg #[.int .i64 22, .int .i64 op, .string text, .string other, .slice ka kn kc]] w fun e w' => e = .returned (formW 22 op text other) ∧ Below w.heap.size w w' := by
  go_enter Tryz.func168, Tryz.ntmps168
  go_wp2
  all_goals refine bodyPost_ret (v := formW 22 op text other) ?_ rfl ⟨rfl, by repeat (first | exact Below.refl _ _ | refine Below.alloc ?_ (by first | omega | (simp; done) | (simp; omega)) _ | refine Below.drew ?_)⟩
  all_goals first | (simp [results, Tryz.results168, go_sem, formW, opOk, textE, otherE, saysOf, leastI, least, most, isEmp_iff]; done) | (simp_all [results, Tryz.results168, go_sem, formW, opOk, textE, otherE, saysOf, leastI, least, most, isEmp_iff]; done) | trace_state
  all_goals sorry
set_option maxRecDepth 100000 in
set_option maxHeartbeats 3200000 in
theorem implstmtForm_23 (op : Int) (text other : ByteArray) (ka : Option Addr) (kn kc : Nat) (w : World) (ht : text.size ≤ 1048576) (ho : other.size ≤ 1048576) (hE : WordEnv w) : Calls Tryz.prog 168 #[.agg #[.int .i64 23, .int .i64 op, .string text, .string other, .slice ka kn kc]] w fun e w' => e = .returned (formW 23 op text other) ∧ Below w.heap.size w w' := by
  go_enter Tryz.func168, Tryz.ntmps168
  go_wp2
  all_goals refine bodyPost_ret (v := formW 23 op text other) ?_ rfl ⟨rfl, by repeat (first | exact Below.refl _ _ | refine Below.alloc ?_ (by first | omega | (simp; done) | (simp; omega)) _ | refine Below.drew ?_)⟩
  all_goals first | (simp [results, Tryz.results168, go_sem, formW, opOk, textE, otherE, saysOf, leastI, least, most, isEmp_iff]; done) | (simp_all [results, Tryz.results168, go_sem, formW, opOk, textE, otherE, saysOf, leastI, least, most, isEmp_iff]; done) | trace_state
  all_goals sorry
set_option maxRecDepth 100000 in
set_option maxHeartbeats 3200000 in
theorem implstmtForm_24 (op : Int) (text other : ByteArray) (ka : Option Addr) (kn kc : Nat) (w : World) (ht : text.size ≤ 1048576) (ho : other.size ≤ 1048576) (hE : WordEnv w) : Calls Tryz.prog 168 #[.agg #[.int .i64 24, .int .i64 op, .string text, .string other, .slice ka kn kc]] w fun e w' => e = .returned (formW 24 op text other) ∧ Below w.heap.size w w' := by
  go_enter Tryz.func168, Tryz.ntmps168
  go_wp2
  all_goals refine bodyPost_ret (v := formW 24 op text other) ?_ rfl ⟨rfl, by repeat (first | exact Below.refl _ _ | refine Below.alloc ?_ (by first | omega | (simp; done) | (simp; omega)) _ | refine Below.drew ?_)⟩
  all_goals first | (simp [results, Tryz.results168, go_sem, formW, opOk, textE, otherE, saysOf, leastI, least, most, isEmp_iff]; done) | (simp_all [results, Tryz.results168, go_sem, formW, opOk, textE, otherE, saysOf, leastI, least, most, isEmp_iff]; done) | trace_state
  all_goals sorry
set_option maxRecDepth 100000 in
set_option maxHeartbeats 3200000 in
theorem implstmtForm_25 (op : Int) (text other : ByteArray) (ka : Option Addr) (kn kc : Nat) (w : World) (ht : text.size ≤ 1048576) (ho : other.size ≤ 1048576) (hE : WordEnv w) : Calls Tryz.prog 168 #[.agg #[.int .i64 25, .int .i64 op, .string text, .string other, .slice ka kn kc]] w fun e w' => e = .returned (formW 25 op text other) ∧ Below w.heap.size w w' := by
  go_enter Tryz.func168, Tryz.ntmps168
  go_wp2
  all_goals refine bodyPost_ret (v := formW 25 op text other) ?_ rfl ⟨rfl, by repeat (first | exact Below.refl _ _ | refine Below.alloc ?_ (by first | omega | (simp; done) | (simp; omega)) _ | refine Below.drew ?_)⟩
  all_goals first | (simp [results, Tryz.results168, go_sem, formW, opOk, textE, otherE, saysOf, leastI, least, most, isEmp_iff]; done) | (simp_all [results, Tryz.results168, go_sem, formW, opOk, textE, otherE, saysOf, leastI, least, most, isEmp_iff]; done) | trace_state
  all_goals sorry
set_option maxRecDepth 100000 in
set_option maxHeartbeats 3200000 in
theorem implstmtForm_26 (op : Int) (text other : ByteArray) (ka : Option Addr) (kn kc : Nat) (w : World) (ht : text.size ≤ 1048576) (ho : other.size ≤ 1048576) (hE : WordEnv w) : Calls Tryz.prog 168 #[.agg #[.int .i64 26, .int .i64 op, .string text, .string other, .slice ka kn kc]] w fun e w' => e = .returned (formW 26 op text other) ∧ Below w.heap.size w w' := by
  go_enter Tryz.func168, Tryz.ntmps168
  go_wp2
  all_goals refine bodyPost_ret (v := formW 26 op text other) ?_ rfl ⟨rfl, by repeat (first | exact Below.refl _ _ | refine Below.alloc ?_ (by first | omega | (simp; done) | (simp; omega)) _ | refine Below.drew ?_)⟩
  all_goals first | (simp [results, Tryz.results168, go_sem, formW, opOk, textE, otherE, saysOf, leastI, least, most, isEmp_iff]; done) | (simp_all [results, Tryz.results168, go_sem, formW, opOk, textE, otherE, saysOf, leastI, least, most, isEmp_iff]; done) | trace_state
  all_goals sorry
end Go.Proofs.YtfmojbfodcgebaaGreatDoor
