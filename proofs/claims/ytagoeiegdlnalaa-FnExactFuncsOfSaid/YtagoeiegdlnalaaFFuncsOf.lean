/- Walks and lemmas of this seat (FFuncsOf): what each theorem says of the functions that it names. Conditions: those that each theorem states. -/
import Derived.Test.YtagoeiegdlnalaaRows
import Derived.Test.YtagoeiegdlnalaaDataNode
import Derived.Test.YtagoeiegdlnalaaHInt
namespace Go.Proofs.Ytagoeiegdlnalaa
set_option linter.unusedVariables false
set_option linter.unusedSimpArgs false
open Go.RowKit

def funcsOf : Nat → List Node → List Int
  | _, [] => []
  | k, x :: l => if x.kind = 44 then (k : Int) :: funcsOf (k + 1) l else funcsOf (k + 1) l
theorem funcsOf_len (l : List Node) : ∀ k, (funcsOf k l).length ≤ l.length := by
  induction l with
  | nil => intro k; simp [funcsOf]
  | cons x l ih => intro k; have := ih (k + 1); unfold funcsOf; split <;> simp <;> omega

set_option maxRecDepth 100000 in
theorem specFuncsOf_any (l0 : List Node) (v0 : Value) (w : World) (hx0 : ∀ x ∈ l0, x.Ok) (hn0 : bulk Node.sizes l0 ≤ 1048576) (hv0 : NodeSlc w v0 l0) :
    Calls Try.prog 27 #[v0] w fun e w' => ∃ v', e = .returned v' ∧ Below w.heap.size w w' ∧ w'.ownsRow w.heap.size 3 1 v' (funcsOf 0 l0).length ((funcsOf 0 l0).flatMap int1) := by
  obtain ⟨a, cap, rfl, hm, hc, hsl⟩ := hv0.shape
  have hn := length_bulk Node.sizes l0
  obtain ⟨i0, hi, hz0, hz1, hz2⟩ := info_parts Try.info3
  go_enter Try.func27, Try.ntmps27
  go_wp2
  go_loopw [3, 4] (fun v i wr => ∃ (k : Nat) (acc : List Int), i = .int .i64 k ∧ k ≤ l0.length ∧ acc.length ≤ k ∧ Below w.heap.size w wr ∧ wr.ownsRow w.heap.size 3 1 v acc.length (acc.flatMap int1) ∧ Hid (funcsOf 0 l0 = acc ++ funcsOf k (l0.drop k))) (fun _ i _ => l0.length - (intOf i).toNat)
  case atStart => exact ⟨0, [], rfl, by omega, by simp, by repeat (first | exact Below.refl _ _ | refine Below.alloc ?_ (by first | omega | (simp; done) | (simp; omega)) _ | refine Below.drew ?_), own_new0 _ _ _, hid rfl⟩
  obtain ⟨k, acc, rfl, hk, hacc, hb, hown, hrel⟩ := hrel
  by_cases hlt : k < l0.length
  · obtain ⟨x, ka, kc, b, off, hx, rfl, c0, c1, c2, c3, c4, hkd⟩ := hsl.at hb (Nat.le_refl _) hlt
    have hmem := List.mem_of_getElem? hx
    rw [drop_cons hx] at hrel
    have HX := hid hx
    clear hx
    have hbs := hb.size
    go_wp2_with (at_builtin; refine wpList_append_own _ rfl _ _ 36 rfl w.heap.size 3 i0 _ 1 8 Try.underlying36 hi hz0 hz1 hz2 rfl (by decide) _ acc.length (acc.flatMap int1) rfl (hown.alloc _) _ _ _ (int1 (k : Int)) rfl rfl (new_cells_at _ _ _ _ _ rfl (by first | rfl | simp)) (by intro u hu; simp [int1] at hu; rcases hu with rfl | rfl | rfl | rfl | rfl <;> rfl) (by unfold maxLen; omega) (by omega) (by first | omega | (simp; done) | (simp; omega)) ?_; intro v2 w2 hown2 hgr2 hiff; clear hiff; have hb2 := app_below (hb.alloc (by first | omega | (simp; done) | (simp; omega)) _) (hown.alloc _) hgr2)
    all_goals go_roundw
    all_goals first
      | (simp [intOf]; omega)
      | exact ⟨k + 1, acc ++ [(k : Int)], by go_num, by omega, by simp; omega, hb2, by simpa using hown2, hid (by rw [hrel.out, funcsOf, if_pos (by simp_all)]; simp)⟩
      | exact ⟨k + 1, acc, by go_num, by omega, by omega, by repeat (first | exact hb | refine Below.alloc ?_ (by first | omega | (simp; done) | (simp; omega)) _ | refine Below.drew ?_), by repeat (first | exact hown | refine World.ownsRow.alloc ?_ _), hid (by rw [hrel.out, funcsOf, if_neg (by simp_all)])⟩
  · go_wp2
    go_ret
    rw [hrel.out, List.drop_of_length_le (by omega)]
    simp only [funcsOf, List.append_nil]
    exact ⟨_, rfl, hb, hown⟩

set_option maxRecDepth 100000 in
theorem implFuncsOf_any (l0 : List Node) (v0 : Value) (w : World) (hx0 : ∀ x ∈ l0, x.Ok) (hn0 : bulk Node.sizes l0 ≤ 1048576) (hv0 : NodeSlc w v0 l0) :
    Calls Try.prog 28 #[v0] w fun e w' => ∃ v', e = .returned v' ∧ Below w.heap.size w w' ∧ w'.ownsRow w.heap.size 3 1 v' (funcsOf 0 l0).length ((funcsOf 0 l0).flatMap int1) := by
  obtain ⟨a, cap, rfl, hm, hc, hsl⟩ := hv0.shape
  have hn := length_bulk Node.sizes l0
  obtain ⟨i0, hi, hz0, hz1, hz2⟩ := info_parts Try.info3
  go_enter Try.func28, Try.ntmps28
  go_wp2
  go_loopw [3, 9] (fun v i wr => ∃ (k : Nat) (acc : List Int), i = .int .i64 k ∧ k ≤ l0.length ∧ acc.length ≤ k ∧ Below w.heap.size w wr ∧ wr.ownsRow w.heap.size 3 1 v acc.length (acc.flatMap int1) ∧ Hid (funcsOf 0 l0 = acc ++ funcsOf k (l0.drop k))) (fun _ i _ => l0.length - (intOf i).toNat)
  case atStart => exact ⟨0, [], rfl, by omega, by simp, by repeat (first | exact Below.refl _ _ | refine Below.alloc ?_ (by first | omega | (simp; done) | (simp; omega)) _ | refine Below.drew ?_), own_new0 _ _ _, hid rfl⟩
  obtain ⟨k, acc, rfl, hk, hacc, hb, hown, hrel⟩ := hrel
  by_cases hlt : k < l0.length
  · obtain ⟨x, ka, kc, b, off, hx, rfl, c0, c1, c2, c3, c4, hkd⟩ := hsl.at hb (Nat.le_refl _) hlt
    have hmem := List.mem_of_getElem? hx
    rw [drop_cons hx] at hrel
    have HX := hid hx
    clear hx
    have hbs := hb.size
    go_wp2_with (at_builtin; refine wpList_append_own _ rfl _ _ 36 rfl w.heap.size 3 i0 _ 1 8 Try.underlying36 hi hz0 hz1 hz2 rfl (by decide) _ acc.length (acc.flatMap int1) rfl ((hown.alloc _).alloc _) _ _ _ (int1 (k : Int)) rfl rfl (new_cells_at _ _ _ _ _ rfl (by first | rfl | simp)) (by intro u hu; simp [int1] at hu; rcases hu with rfl | rfl | rfl | rfl | rfl <;> rfl) (by unfold maxLen; omega) (by omega) (by first | omega | (simp; done) | (simp; omega)) ?_; intro v2 w2 hown2 hgr2 hiff; clear hiff; have hb2 := app_below ((hb.alloc (by first | omega | (simp; done) | (simp; omega)) _).alloc (by first | omega | (simp; done) | (simp; omega)) _) ((hown.alloc _).alloc _) hgr2)
    all_goals go_roundw
    all_goals first
      | (simp [intOf]; omega)
      | exact ⟨k + 1, acc ++ [(k : Int)], by go_num, by omega, by simp; omega, hb2, by simpa using hown2, hid (by rw [hrel.out, funcsOf, if_pos (by simp_all)]; simp)⟩
      | exact ⟨k + 1, acc, by go_num, by omega, by omega, by repeat (first | exact hb | refine Below.alloc ?_ (by first | omega | (simp; done) | (simp; omega)) _ | refine Below.drew ?_), by repeat (first | exact hown | refine World.ownsRow.alloc ?_ _), hid (by rw [hrel.out, funcsOf, if_neg (by simp_all)])⟩
  · go_wp2
    go_ret
    rw [hrel.out, List.drop_of_length_le (by omega)]
    simp only [funcsOf, List.append_nil]
    exact ⟨_, rfl, hb, hown⟩

end Go.Proofs.Ytagoeiegdlnalaa
