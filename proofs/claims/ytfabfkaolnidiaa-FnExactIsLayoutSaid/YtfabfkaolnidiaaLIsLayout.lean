/- Walks and lemmas of this seat (LIsLayout): what each theorem says of the functions that it names. Conditions: those that each theorem states. -/
import Derived.Test.YtfabfkaolnidiaaHDNode
import Derived.Test.YtfabfkaolnidiaaFIsLay
namespace Go.Proofs.Ytfabfkaolnidiaa
set_option linter.unusedVariables false
set_option linter.unusedSimpArgs false
open Go.RowKit

set_option maxRecDepth 100000 in
set_option maxHeartbeats 1600000 in
theorem lawIsLayout {w : World} (l0 : List DNode) (v0 : Value) (hx0 : ∀ x ∈ l0, x.Ok) (hv0 : DNodeSlc w v0 l0) (s1 : ByteArray) (hs1 : s1.size ≤ maxLen) :
    Calls Try.prog 4 #[v0, .string s1] w fun e w' => e = .returned (.bool true) ∧ Below w.heap.size w w' := by
  unfold maxLen at hs1
  by_cases hbig0 : 1048576 < bulk DNode.sizes l0
  · have hz0 := szList_eq DNode.sizes l0 1048576 (by omega)
    rw [if_pos (by omega)] at hz0
    have hlo0 : szList DNode.sizes l0 1048576 < 0 := by omega
    clear hz0
    clear hbig0
    go_enter Try.func4, Try.ntmps4
    go_wp2_with fail
    · go_ret
      exact ⟨rfl, by repeat (first | exact Below.refl _ _ | refine Below.alloc ?_ (by first | omega | (simp; done) | (simp; omega)) _ | refine Below.drew ?_)⟩
    refine (szDNodeS_any l0 v0 1048576 (by omega) (by omega) _ hx0 hv0).mono ?_; rintro e w1 ⟨rfl, hb1⟩
    have hB1 := hb1
    go_wp2_with fail
    go_ret
    exact ⟨rfl, hB1⟩
  have hz0 := szList_eq DNode.sizes l0 1048576 (by omega)
  rw [if_neg (by omega)] at hz0
  have hlo0 : 0 ≤ szList DNode.sizes l0 1048576 := by omega
  have hhi0 : szList DNode.sizes l0 1048576 ≤ 1048576 := by omega
  have hn0 : bulk DNode.sizes l0 ≤ 1048576 := by omega
  have hlen0 : l0.length ≤ 1048576 := by have := length_bulk DNode.sizes l0; omega
  clear hz0
  clear hbig0
  have hself0 := eqList_self eqDNode eqDNode_iff l0
  go_enter Try.func4, Try.ntmps4
  go_wp2_with fail
  · go_ret
    exact ⟨rfl, by repeat (first | exact Below.refl _ _ | refine Below.alloc ?_ (by first | omega | (simp; done) | (simp; omega)) _ | refine Below.drew ?_)⟩
  refine (szDNodeS_any l0 v0 1048576 (by omega) (by omega) _ hx0 hv0).mono ?_; rintro e w1 ⟨rfl, hb1⟩
  have hs1 := hb1.size
  have hB1 := hb1
  go_wp2_with fail
  refine (toDNodeS_any l0 v0 _ hn0 (hv0.mono hB1 (Nat.le_refl _))).mono ?_; rintro e w2 ⟨yp0, rfl, hb2, hop0⟩
  have hs2 := hb2.size
  have hB2 := hB1.trans (hb2.mono hB1.size)
  go_wp2_with fail
  refine (specIsLayout_any l0 yp0 s1 _ hx0 hn0 hop0.slc).mono ?_; rintro e w3 ⟨rfl, hb3⟩
  have hs3 := hb3.size
  have hB3 := hB2.trans (hb3.mono hB2.size)
  have hop0_3 := hop0.below hb3 (Nat.le_refl _)
  go_wp2_with fail
  refine (toDNodeS_any l0 v0 _ hn0 (hv0.mono hB3 (Nat.le_refl _))).mono ?_; rintro e w4 ⟨yx0, rfl, hb4, hox0⟩
  have hs4 := hb4.size
  have hB4 := hB3.trans (hb4.mono hB3.size)
  go_wp2_with fail
  refine (implIsLayout_any l0 yx0 s1 _ hx0 hn0 hox0.slc).mono ?_; rintro e w5 ⟨rfl, hb5⟩
  have hs5 := hb5.size
  have hB5 := hB4.trans (hb5.mono hB4.size)
  have hox0_5 := hox0.below hb5 (Nat.le_refl _)
  go_wp2_with fail
  refine (toDNodeS_any l0 v0 _ hn0 (hv0.mono hB5 (Nat.le_refl _))).mono ?_; rintro e w6 ⟨yz0, rfl, hb6, hoz0⟩
  have hs6 := hb6.size
  have hB6 := hB5.trans (hb6.mono hB5.size)
  have hox0_6 := hox0_5.below hb6 (Nat.le_refl _)
  go_wp2_with fail
  refine (eqDNodeS_any l0 l0 yx0 yz0 _ hox0_6.slc hoz0.slc).mono ?_; rintro e w7 ⟨rfl, hb7⟩
  have hs7 := hb7.size
  have hB7 := hB6.trans (hb7.mono hB6.size)
  have hox0_7 := hox0_6.below hb7 (Nat.le_refl _)
  have hoz0_7 := hoz0.below hb7 (Nat.le_refl _)
  go_wp2_with fail
  go_ret
  exact ⟨rfl, hB7⟩

end Go.Proofs.Ytfabfkaolnidiaa
