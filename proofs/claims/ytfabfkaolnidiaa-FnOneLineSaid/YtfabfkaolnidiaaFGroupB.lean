/- Walks and lemmas of this seat (FGroupB): what each theorem says of the functions that it names. Conditions: those that each theorem states. -/
import Derived.Test.YtfabfkaolnidiaaRows
import Derived.Test.YtfabfkaolnidiaaDataDNode
namespace Go.Proofs.Ytfabfkaolnidiaa
set_option linter.unusedVariables false
set_option linter.unusedSimpArgs false
open Go.RowKit

def isGroupB (x : DNode) : Bool := x.kind == 5

set_option maxRecDepth 100000 in
set_option maxHeartbeats 800000 in
theorem implGroupsIn_any (l0 : List DNode) (v0 : Value) (w : World) (hx0 : ∀ x ∈ l0, x.Ok) (hn0 : bulk DNode.sizes l0 ≤ 1048576) (hv0 : DNodeSlc w v0 l0) :
    Calls Try.prog 29 #[v0] w fun e w' => e = .returned (.int .i64 ((l0.countP isGroupB : Nat))) ∧ Below w.heap.size w w' := by
  obtain ⟨a, cap, rfl, hm, hc, hsl⟩ := hv0.shape
  go_enter Try.func29, Try.ntmps29
  go_wp2
  go_loopw [3, 8] (fun n i wr => ∃ (k q : Nat), i = .int .i64 k ∧ k ≤ l0.length ∧ n = .int .i64 q ∧ q ≤ k ∧ Below w.heap.size w wr ∧ Hid (l0.countP isGroupB = q + (l0.drop k).countP isGroupB)) (fun _ i _ => l0.length - (intOf i).toNat)
  case atStart => exact ⟨0, 0, rfl, by omega, rfl, by omega, by repeat (first | exact Below.refl _ _ | refine Below.alloc ?_ (by first | omega | (simp; done) | (simp; omega)) _ | refine Below.drew ?_), by show l0.countP isGroupB = 0 + l0.countP isGroupB; omega⟩
  obtain ⟨k, q, rfl, hk, rfl, hq, hb, hrel⟩ := hrel
  have hbs := hb.size
  by_cases hlt : k < l0.length
  · obtain ⟨x, ka, kc, b, off, hx, rfl, c0, c1, c2, c3, hkd⟩ := hsl.at hb (Nat.le_refl _) hlt
    have hmem := List.mem_of_getElem? hx
    rw [drop_cons hx] at hrel
    have HX := hid hx
    clear hx
    go_wp2
    all_goals go_roundw
    all_goals first
      | (simp [intOf]; omega)
      | exact ⟨k + 1, q + 1, by go_num, by omega, by go_num, by omega, by repeat (first | exact hb | refine Below.alloc ?_ (by first | omega | (simp; done) | (simp; omega)) _ | refine Below.drew ?_), hid (by rw [hrel.out, List.countP_cons, if_pos (by simp_all [isGroupB])]; omega)⟩
      | exact ⟨k + 1, q, by go_num, by omega, rfl, by omega, by repeat (first | exact hb | refine Below.alloc ?_ (by first | omega | (simp; done) | (simp; omega)) _ | refine Below.drew ?_), hid (by rw [hrel.out, List.countP_cons, if_neg (by simp_all [isGroupB])]; omega)⟩
  · go_wp2
    go_ret
    exact ⟨ret_int (by rw [hrel.out, List.drop_of_length_le (by omega)]; simp), hb⟩

end Go.Proofs.Ytfabfkaolnidiaa
