/- Walks and lemmas of this seat (FStmtC): what each theorem says of the functions that it names. Conditions: those that each theorem states. -/
import Derived.Test.YtfmojbfodcgebaaGreatDoorFStmt
namespace Go.Proofs.YtfmojbfodcgebaaGreatDoor
set_option linter.unusedVariables false
set_option linter.unusedSimpArgs false
open Go.RowKit Go.Lib

set_option maxRecDepth 100000 in
set_option maxHeartbeats 3200000 in
theorem implstmtForm_32 (op : Int) (text other : ByteArray) (ka : Option Addr) (kn kc : Nat) (w : World) (ht : text.size ≤ 1048576) (ho : other.size ≤ 1048576) (hE : WordEnv w) : Calls Tryz.prog 168 #[.agg #[.int .i64 32, .int .i64 op, .string text, .string other, .slice ka kn kc]] w fun e w' => e = .returned (formW 32 op text other) ∧ Below w.heap.size w w' := by
  go_enter Tryz.func168, Tryz.ntmps168
  go_wp2_with fail
  go_region_law (first | (go_simp; go_at_call 87; refine (implNameOk_any _ _ (by assumption) (hE.below (by repeat (first | exact Below.refl _ _ | refine Below.alloc ?_ (by first | omega | (simp; done) | (simp; omega)) _ | refine Below.drew ?_)))).mono ?_; rintro e w9 ⟨rfl, rfl⟩))
  all_goals go_wp2
  all_goals refine bodyPost_ret (v := formW 32 op text other) ?_ rfl ⟨rfl, by repeat (first | exact Below.refl _ _ | refine Below.alloc ?_ (by first | omega | (simp; done) | (simp; omega)) _ | refine Below.drew ?_)⟩
  all_goals first | (simp [results, Tryz.results168, go_sem, formW, opOk, textE, otherE, saysOf, leastI, least, most, isEmp_iff]; done) | (simp_all [results, Tryz.results168, go_sem, formW, opOk, textE, otherE, saysOf, leastI, least, most, isEmp_iff]; done) | trace_state
  all_goals sorry
set_option maxRecDepth 100000 in
set_option maxHeartbeats 3200000 in
theorem implstmtForm_33 (op : Int) (text other : ByteArray) (ka : Option Addr) (kn kc : Nat) (w : World) (ht : text.size ≤ 1048576) (ho : other.size ≤ 1048576) (hE : WordEnv w) : Calls Tryz.prog 168 #[.agg #[.int .i64 33, .int .i64 op, .string text, .string other, .slice ka kn kc]] w fun e w' => e = .returned (formW 33 op text other) ∧ Below w.heap.size w w' := by
  go_enter Tryz.func168, Tryz.ntmps168
  go_wp2
  all_goals refine bodyPost_ret (v := formW 33 op text other) ?_ rfl ⟨rfl, by repeat (first | exact Below.refl _ _ | refine Below.alloc ?_ (by first | omega | (simp; done) | (simp; omega)) _ | refine Below.drew ?_)⟩
  all_goals first | (simp [results, Tryz.results168, go_sem, formW, opOk, textE, otherE, saysOf, leastI, least, most, isEmp_iff]; done) | (simp_all [results, Tryz.results168, go_sem, formW, opOk, textE, otherE, saysOf, leastI, least, most, isEmp_iff]; done) | trace_state
  all_goals sorry
set_option maxRecDepth 100000 in
set_option maxHeartbeats 3200000 in
theorem implstmtForm_34 (op : Int) (text other : ByteArray) (ka : Option Addr) (kn kc : Nat) (w : World) (ht : text.size ≤ 1048576) (ho : other.size ≤ 1048576) (hE : WordEnv w) : Calls Tryz.prog 168 #[.agg #[.int .i64 34, .int .i64 op, .string text, .string other, .slice ka kn kc]] w fun e w' => e = .returned (formW 34 op text other) ∧ Below w.heap.size w w' := by
  go_enter Tryz.func168, Tryz.ntmps168
  go_wp2_with fail
  refine (implTokenOk_com text 0 _ ht).mono ?_; rintro e w9 ⟨rfl, hb9⟩
  have hB9 : Below w.heap.size w w9 := (by repeat (first | exact Below.refl _ _ | refine Below.alloc ?_ (by first | omega | (simp; done) | (simp; omega)) _ | refine Below.drew ?_) : Below w.heap.size w _).trans (hb9.mono (by simp; omega))
  have hN0 := stmt_box0 hb9
  have hN1 := stmt_box1 hb9
  have hN2 := stmt_box2 hb9
  obtain ⟨r0, r1, r2, r3, r4⟩ := box_cells hN1
  obtain ⟨z0, z1, z2, z3, z4⟩ := box_cells hN2
  have fr := box_frozen hN1
  have fz := box_frozen hN2
  clear hb9
  go_wp2
  refine form_done (formW 34 op text other) (b := w.heap.size + 1) ((heap_setCell_other w9 ⟨w.heap.size + 1 + 1, 1, none⟩ (w.heap.size + 1) _ (by simp)).trans hN1) ?_ rfl ⟨rfl, five_below (hB9.setCell (p := ⟨w.heap.size + 1 + 1, 1, none⟩) (by show w.heap.size ≤ w.heap.size + 1 + 1; omega) _) (by omega)⟩
  intro W hW
  obtain ⟨s0, s1, s2, s3, s4⟩ := box_cells hW
  simp [results, Tryz.results168, go_sem, formW, opOk, textE, otherE, saysOf, leastI, least, most, isEmp_iff, s0, s1, s2, s3, s4]
end Go.Proofs.YtfmojbfodcgebaaGreatDoor
