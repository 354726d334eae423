/- Walks and lemmas of this seat (FBranches): what each theorem says of the functions that it names. Conditions: those that each theorem states. -/
import Derived.Test.YtagoeiegdlnalaaRows
import Derived.Test.YtagoeiegdlnalaaDataNode
namespace Go.Proofs.Ytagoeiegdlnalaa
set_option linter.unusedVariables false
set_option linter.unusedSimpArgs false
open Go.RowKit

def isBranchB (x : Node) : Bool := x.kind == 28 || x.kind == 29 || x.kind == 30 || x.kind == 31 || x.kind == 32 || x.kind == 14 || x.kind == 43 || (x.kind == 12 && (x.op == 45 || x.op == 44)) || (x.kind == 42 && x.op != 2)

theorem specl26Branch_any (x : Node) (kv : Value) (w : World) : Calls Try.prog 66 #[.agg #[.int .i64 x.kind, .int .i64 x.op, .string x.text, .string x.other, kv]] w fun e w' => e = .returned (.bool (isBranchB x)) ∧ Below w.heap.size w w' := by
  go_enter Try.func66, Try.ntmps66
  go_wp2
  all_goals go_ret
  all_goals exact ⟨ret_bool (by unfold isBranchB; simp_all), by repeat (first | exact Below.refl _ _ | refine Below.alloc ?_ (by first | omega | (simp; done) | (simp; omega)) _ | refine Below.drew ?_)⟩
theorem implbranches_any (x : Node) (kv : Value) (w : World) : Calls Try.prog 67 #[.agg #[.int .i64 x.kind, .int .i64 x.op, .string x.text, .string x.other, kv]] w fun e w' => e = .returned (.bool (isBranchB x)) ∧ Below w.heap.size w w' := by
  go_enter Try.func67, Try.ntmps67
  go_wp2
  all_goals go_ret
  all_goals exact ⟨ret_bool (by unfold isBranchB; simp_all), by repeat (first | exact Below.refl _ _ | refine Below.alloc ?_ (by first | omega | (simp; done) | (simp; omega)) _ | refine Below.drew ?_)⟩
set_option maxRecDepth 100000 in
set_option maxHeartbeats 800000 in
theorem specBranches_any (l0 : List Node) (v0 : Value) (w : World) (hx0 : ∀ x ∈ l0, x.Ok) (hn0 : bulk Node.sizes l0 ≤ 1048576) (hv0 : NodeSlc w v0 l0) :
    Calls Try.prog 25 #[v0] w fun e w' => e = .returned (.int .i64 ((l0.countP isBranchB : Nat))) ∧ Below w.heap.size w w' := by
  obtain ⟨a, cap, rfl, hm, hc, hsl⟩ := hv0.shape
  go_enter Try.func25, Try.ntmps25
  go_wp2
  go_loopw [3, 4] (fun n i wr => ∃ (k q : Nat), i = .int .i64 k ∧ k ≤ l0.length ∧ n = .int .i64 q ∧ q ≤ k ∧ Below w.heap.size w wr ∧ Hid (l0.countP isBranchB = q + (l0.drop k).countP isBranchB)) (fun _ i _ => l0.length - (intOf i).toNat)
  case atStart => exact ⟨0, 0, rfl, by omega, rfl, by omega, by repeat (first | exact Below.refl _ _ | refine Below.alloc ?_ (by first | omega | (simp; done) | (simp; omega)) _ | refine Below.drew ?_), by show l0.countP isBranchB = 0 + l0.countP isBranchB; omega⟩
  obtain ⟨k, q, rfl, hk, rfl, hq, hb, hrel⟩ := hrel
  have hbs := hb.size
  by_cases hlt : k < l0.length
  · obtain ⟨x, ka, kc, b, off, hx, rfl, c0, c1, c2, c3, c4, hkd⟩ := hsl.at hb (Nat.le_refl _) hlt
    have hmem := List.mem_of_getElem? hx
    rw [drop_cons hx] at hrel
    have HX := hid hx
    clear hx
    go_wp2_with (go_at_call 66; refine (specl26Branch_any x _ _).mono ?_; rintro e w' ⟨rfl, hb1⟩; have hb2 := (show Below w.heap.size w _ from by repeat (first | exact hb | refine Below.alloc ?_ (by first | omega | (simp; done) | (simp; omega)) _ | refine Below.drew ?_)).trans (hb1.mono (by first | omega | (simp; omega))))
    all_goals go_roundw
    all_goals first
      | (simp [intOf]; omega)
      | exact ⟨k + 1, q + 1, by go_num, by omega, by go_num, by omega, by repeat (first | exact hb2 | exact hb | refine Below.alloc ?_ (by first | omega | (simp; done) | (simp; omega)) _ | refine Below.drew ?_), hid (by rw [hrel.out, List.countP_cons, if_pos (by simp_all [isBranchB])]; omega)⟩
      | exact ⟨k + 1, q, by go_num, by omega, rfl, by omega, by repeat (first | exact hb2 | exact hb | refine Below.alloc ?_ (by first | omega | (simp; done) | (simp; omega)) _ | refine Below.drew ?_), hid (by rw [hrel.out, List.countP_cons, if_neg (by simp_all [isBranchB])]; omega)⟩
  · go_wp2
    go_ret
    exact ⟨ret_int (by rw [hrel.out, List.drop_of_length_le (by omega)]; simp), hb⟩

set_option maxRecDepth 100000 in
set_option maxHeartbeats 800000 in
theorem implBranches_any (l0 : List Node) (v0 : Value) (w : World) (hx0 : ∀ x ∈ l0, x.Ok) (hn0 : bulk Node.sizes l0 ≤ 1048576) (hv0 : NodeSlc w v0 l0) :
    Calls Try.prog 26 #[v0] w fun e w' => e = .returned (.int .i64 ((l0.countP isBranchB : Nat))) ∧ Below w.heap.size w w' := by
  obtain ⟨a, cap, rfl, hm, hc, hsl⟩ := hv0.shape
  go_enter Try.func26, Try.ntmps26
  go_wp2
  go_loopw [3, 8] (fun n i wr => ∃ (k q : Nat), i = .int .i64 k ∧ k ≤ l0.length ∧ n = .int .i64 q ∧ q ≤ k ∧ Below w.heap.size w wr ∧ Hid (l0.countP isBranchB = q + (l0.drop k).countP isBranchB)) (fun _ i _ => l0.length - (intOf i).toNat)
  case atStart => exact ⟨0, 0, rfl, by omega, rfl, by omega, by repeat (first | exact Below.refl _ _ | refine Below.alloc ?_ (by first | omega | (simp; done) | (simp; omega)) _ | refine Below.drew ?_), by show l0.countP isBranchB = 0 + l0.countP isBranchB; omega⟩
  obtain ⟨k, q, rfl, hk, rfl, hq, hb, hrel⟩ := hrel
  have hbs := hb.size
  by_cases hlt : k < l0.length
  · obtain ⟨x, ka, kc, b, off, hx, rfl, c0, c1, c2, c3, c4, hkd⟩ := hsl.at hb (Nat.le_refl _) hlt
    have hmem := List.mem_of_getElem? hx
    rw [drop_cons hx] at hrel
    have HX := hid hx
    clear hx
    go_wp2_with (go_at_call 67; refine (implbranches_any x _ _).mono ?_; rintro e w' ⟨rfl, hb1⟩; have hb2 := (show Below w.heap.size w _ from by repeat (first | exact hb | refine Below.alloc ?_ (by first | omega | (simp; done) | (simp; omega)) _ | refine Below.drew ?_)).trans (hb1.mono (by first | omega | (simp; omega))))
    all_goals go_roundw
    all_goals first
      | (simp [intOf]; omega)
      | exact ⟨k + 1, q + 1, by go_num, by omega, by go_num, by omega, by repeat (first | exact hb2 | exact hb | refine Below.alloc ?_ (by first | omega | (simp; done) | (simp; omega)) _ | refine Below.drew ?_), hid (by rw [hrel.out, List.countP_cons, if_pos (by simp_all [isBranchB])]; omega)⟩
      | exact ⟨k + 1, q, by go_num, by omega, rfl, by omega, by repeat (first | exact hb2 | exact hb | refine Below.alloc ?_ (by first | omega | (simp; done) | (simp; omega)) _ | refine Below.drew ?_), hid (by rw [hrel.out, List.countP_cons, if_neg (by simp_all [isBranchB])]; omega)⟩
  · go_wp2
    go_ret
    exact ⟨ret_int (by rw [hrel.out, List.drop_of_length_le (by omega)]; simp), hb⟩

end Go.Proofs.Ytagoeiegdlnalaa
