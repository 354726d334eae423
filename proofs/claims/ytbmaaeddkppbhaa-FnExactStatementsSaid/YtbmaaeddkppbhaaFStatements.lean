/- Walks and lemmas of this seat (FStatements): what each theorem says of the functions that it names. Conditions: those that each theorem states. -/
import Derived.Test.YtbmaaeddkppbhaaRows
import Derived.Test.YtbmaaeddkppbhaaDataNode
import Derived.Test.YtbmaaeddkppbhaaFKinds
namespace Go.Proofs.Ytbmaaeddkppbhaa
set_option linter.unusedVariables false
set_option linter.unusedSimpArgs false
open Go.RowKit

def isStmtB (k : Int) : Bool := inB k 20 34
theorem implIsStmt_any (k : Int) (w : World) : Calls Try.prog 81 #[.int .i64 k] w fun e w' => e = .returned (.bool (isStmtB k)) ∧ w = w' := by
  go_enter Try.func81, Try.ntmps81
  go_wp2_with (go_at_call 85; refine (implwithin_any _ _ _ _).mono ?_; rintro e w' ⟨rfl, rfl⟩)
  go_ret
  exact ⟨rfl, rfl⟩
theorem specIsStmt_any (k : Int) (w : World) : Calls Try.prog 79 #[.int .i64 k] w fun e w' => e = .returned (.bool (isStmtB k)) ∧ w = w' := by
  go_enter Try.func79, Try.ntmps79
  go_wp2_with (go_at_call 84; refine (specl1In_any _ _ _ _).mono ?_; rintro e w' ⟨rfl, rfl⟩)
  go_ret
  exact ⟨rfl, rfl⟩
def isStatementB (x : Node) : Bool := isStmtB x.kind && !(x.kind == 33) && !(x.kind == 34)

set_option maxRecDepth 100000 in
set_option maxHeartbeats 800000 in
theorem specStatements_any (l0 : List Node) (v0 : Value) (w : World) (hx0 : ∀ x ∈ l0, x.Ok) (hn0 : bulk Node.sizes l0 ≤ 1048576) (hv0 : NodeSlc w v0 l0) :
    Calls Try.prog 51 #[v0] w fun e w' => e = .returned (.int .i64 ((l0.countP isStatementB : Nat))) ∧ Below w.heap.size w w' := by
  obtain ⟨a, cap, rfl, hm, hc, hsl⟩ := hv0.shape
  go_enter Try.func51, Try.ntmps51
  go_wp2
  go_loopw [3, 4] (fun n i wr => ∃ (k q : Nat), i = .int .i64 k ∧ k ≤ l0.length ∧ n = .int .i64 q ∧ q ≤ k ∧ Below w.heap.size w wr ∧ Hid (l0.countP isStatementB = q + (l0.drop k).countP isStatementB)) (fun _ i _ => l0.length - (intOf i).toNat)
  case atStart => exact ⟨0, 0, rfl, by omega, rfl, by omega, by repeat (first | exact Below.refl _ _ | refine Below.alloc ?_ (by first | omega | (simp; done) | (simp; omega)) _ | refine Below.drew ?_), by show l0.countP isStatementB = 0 + l0.countP isStatementB; omega⟩
  obtain ⟨k, q, rfl, hk, rfl, hq, hb, hrel⟩ := hrel
  have hbs := hb.size
  by_cases hlt : k < l0.length
  · obtain ⟨x, ka, kc, b, off, hx, rfl, c0, c1, c2, c3, c4, hkd⟩ := hsl.at hb (Nat.le_refl _) hlt
    have hmem := List.mem_of_getElem? hx
    rw [drop_cons hx] at hrel
    have HX := hid hx
    clear hx
    go_wp2_with (go_at_call 79; refine (specIsStmt_any _ _).mono ?_; rintro e w' ⟨rfl, rfl⟩)
    all_goals go_roundw
    all_goals first
      | (simp [intOf]; omega)
      | exact ⟨k + 1, q + 1, by go_num, by omega, by go_num, by omega, by repeat (first | exact hb | refine Below.alloc ?_ (by first | omega | (simp; done) | (simp; omega)) _ | refine Below.drew ?_), hid (by rw [hrel.out, List.countP_cons, if_pos (by simp_all [isStatementB])]; omega)⟩
      | exact ⟨k + 1, q, by go_num, by omega, rfl, by omega, by repeat (first | exact hb | refine Below.alloc ?_ (by first | omega | (simp; done) | (simp; omega)) _ | refine Below.drew ?_), hid (by rw [hrel.out, List.countP_cons, if_neg (by simp_all [isStatementB])]; omega)⟩
  · go_wp2
    go_ret
    exact ⟨ret_int (by rw [hrel.out, List.drop_of_length_le (by omega)]; simp), hb⟩

set_option maxRecDepth 100000 in
set_option maxHeartbeats 800000 in
theorem implStatements_any (l0 : List Node) (v0 : Value) (w : World) (hx0 : ∀ x ∈ l0, x.Ok) (hn0 : bulk Node.sizes l0 ≤ 1048576) (hv0 : NodeSlc w v0 l0) :
    Calls Try.prog 53 #[v0] w fun e w' => e = .returned (.int .i64 ((l0.countP isStatementB : Nat))) ∧ Below w.heap.size w w' := by
  obtain ⟨a, cap, rfl, hm, hc, hsl⟩ := hv0.shape
  go_enter Try.func53, Try.ntmps53
  go_wp2
  go_loopw [3, 8] (fun n i wr => ∃ (k q : Nat), i = .int .i64 k ∧ k ≤ l0.length ∧ n = .int .i64 q ∧ q ≤ k ∧ Below w.heap.size w wr ∧ Hid (l0.countP isStatementB = q + (l0.drop k).countP isStatementB)) (fun _ i _ => l0.length - (intOf i).toNat)
  case atStart => exact ⟨0, 0, rfl, by omega, rfl, by omega, by repeat (first | exact Below.refl _ _ | refine Below.alloc ?_ (by first | omega | (simp; done) | (simp; omega)) _ | refine Below.drew ?_), by show l0.countP isStatementB = 0 + l0.countP isStatementB; omega⟩
  obtain ⟨k, q, rfl, hk, rfl, hq, hb, hrel⟩ := hrel
  have hbs := hb.size
  by_cases hlt : k < l0.length
  · obtain ⟨x, ka, kc, b, off, hx, rfl, c0, c1, c2, c3, c4, hkd⟩ := hsl.at hb (Nat.le_refl _) hlt
    have hmem := List.mem_of_getElem? hx
    rw [drop_cons hx] at hrel
    have HX := hid hx
    clear hx
    go_wp2_with (go_at_call 81; refine (implIsStmt_any _ _).mono ?_; rintro e w' ⟨rfl, rfl⟩)
    all_goals go_roundw
    all_goals first
      | (simp [intOf]; omega)
      | exact ⟨k + 1, q + 1, by go_num, by omega, by go_num, by omega, by repeat (first | exact hb | refine Below.alloc ?_ (by first | omega | (simp; done) | (simp; omega)) _ | refine Below.drew ?_), hid (by rw [hrel.out, List.countP_cons, if_pos (by simp_all [isStatementB])]; omega)⟩
      | exact ⟨k + 1, q, by go_num, by omega, rfl, by omega, by repeat (first | exact hb | refine Below.alloc ?_ (by first | omega | (simp; done) | (simp; omega)) _ | refine Below.drew ?_), hid (by rw [hrel.out, List.countP_cons, if_neg (by simp_all [isStatementB])]; omega)⟩
  · go_wp2
    go_ret
    exact ⟨ret_int (by rw [hrel.out, List.drop_of_length_le (by omega)]; simp), hb⟩

end Go.Proofs.Ytbmaaeddkppbhaa
