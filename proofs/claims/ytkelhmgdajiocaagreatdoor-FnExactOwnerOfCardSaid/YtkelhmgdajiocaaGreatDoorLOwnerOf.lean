/- Walks and lemmas of this seat (LOwnerOf): what each theorem says of the functions that it names. Conditions: those that each theorem states. -/
import Derived.Test.YtkelhmgdajiocaaGreatDoorGA
import Derived.Test.YtkelhmgdajiocaaGreatDoorGHM
import Derived.Test.YtkelhmgdajiocaaGreatDoorGTC
namespace Go.Proofs.YtkelhmgdajiocaaGreatDoor
set_option linter.unusedVariables false
set_option linter.unusedSimpArgs false
open Go.RowKit

set_option maxRecDepth 100000 in
set_option maxHeartbeats 1600000 in
theorem lawOwnerOf {w : World} (l0 : List Node) (v0 : Value) (hx0 : ∀ x ∈ l0, x.Ok) (hv0 : NodeSlc w v0 l0) (a1 : Pos) (ha1 : a1.Ok) (a2 : Int) (ha2 : I64 a2) (hWordEnv : WordEnv w) :
    Calls Tryz.prog 4 #[v0, .agg #[.int .i64 a1.level, .bool a1.dollar, .bool a1.noIn, .bool a1.noGt, .bool a1.noSign], .int .i64 a2] w fun e w' => e = .returned (.bool true) ∧ Below w.heap.size w w' := by
  by_cases hbig0 : 1048576 < bulk Node.sizes l0
  · have hz0 := szList_eq Node.sizes l0 1048576 (by omega)
    rw [if_pos (by omega)] at hz0
    have hlo0 : szList Node.sizes l0 1048576 < 0 := by omega
    clear hz0
    clear hbig0
    go_enter Tryz.func4, Tryz.ntmps4
    go_wp2_with fail
    have hb1 : Below w.heap.size w (w.alloc (.cells #[.int .i64 a1.level, .bool a1.dollar, .bool a1.noIn, .bool a1.noGt, .bool a1.noSign] 34)) := (Below.refl _ _).alloc (Nat.le_refl _) _
    generalize w.alloc (.cells #[.int .i64 a1.level, .bool a1.dollar, .bool a1.noIn, .bool a1.noGt, .bool a1.noSign] 34) = w1 at *
    have hB1 := hb1
    refine (szNodeS_any l0 v0 1048576 (by omega) (by omega) _ hx0 (hv0.mono hB1 (Nat.le_refl _))).mono ?_; rintro e w2 ⟨rfl, hb2⟩
    have hB2 := hB1.trans (hb2.mono hB1.size)
    go_wp2_with fail
    go_ret
    exact ⟨rfl, hB2⟩
  have hz0 := szList_eq Node.sizes l0 1048576 (by omega)
  rw [if_neg (by omega)] at hz0
  have hlo0 : 0 ≤ szList Node.sizes l0 1048576 := by omega
  have hhi0 : szList Node.sizes l0 1048576 ≤ 1048576 := by omega
  have hn0 : bulk Node.sizes l0 ≤ 1048576 := by omega
  have hlen0 : l0.length ≤ 1048576 := by have := length_bulk Node.sizes l0; omega
  clear hz0
  clear hbig0
  have hself0 := eqList_self eqNode eqNode_iff l0
  go_enter Tryz.func4, Tryz.ntmps4
  go_wp2_with fail
  have hb1 : Below w.heap.size w (w.alloc (.cells #[.int .i64 a1.level, .bool a1.dollar, .bool a1.noIn, .bool a1.noGt, .bool a1.noSign] 34)) := (Below.refl _ _).alloc (Nat.le_refl _) _
  have hobox := own_box w #[.int .i64 a1.level, .bool a1.dollar, .bool a1.noIn, .bool a1.noGt, .bool a1.noSign] 34 5 rfl
  generalize w.alloc (.cells #[.int .i64 a1.level, .bool a1.dollar, .bool a1.noIn, .bool a1.noGt, .bool a1.noSign] 34) = w1 at *
  have hB1 := hb1
  have hs1 := hb1.size
  have hlw : w.heap.size < w1.heap.size := (hobox.lt _ rfl).2
  have p0_1 : w1.cell? ⟨w.heap.size, 0, none⟩ = some (.int .i64 a1.level) := hobox.cellAt 0 (by decide)
  have p1_1 : w1.cell? ⟨w.heap.size, 1, none⟩ = some (.bool a1.dollar) := hobox.cellAt 1 (by decide)
  have p2_1 : w1.cell? ⟨w.heap.size, 2, none⟩ = some (.bool a1.noIn) := hobox.cellAt 2 (by decide)
  have p3_1 : w1.cell? ⟨w.heap.size, 3, none⟩ = some (.bool a1.noGt) := hobox.cellAt 3 (by decide)
  have p4_1 : w1.cell? ⟨w.heap.size, 4, none⟩ = some (.bool a1.noSign) := hobox.cellAt 4 (by decide)
  refine (szNodeS_any l0 v0 1048576 (by omega) (by omega) _ hx0 (hv0.mono hB1 (Nat.le_refl _))).mono ?_; rintro e w2 ⟨rfl, hb2⟩
  clear p0_1 p1_1 p2_1 p3_1 p4_1
  have hs2 := hb2.size
  have hB2 := hB1.trans (hb2.mono hB1.size)
  have hobox_2 := own_below hobox hb2 (Nat.le_refl _)
  have p0_2 : w2.cell? ⟨w.heap.size, 0, none⟩ = some (.int .i64 a1.level) := hobox_2.cellAt 0 (by decide)
  have p1_2 : w2.cell? ⟨w.heap.size, 1, none⟩ = some (.bool a1.dollar) := hobox_2.cellAt 1 (by decide)
  have p2_2 : w2.cell? ⟨w.heap.size, 2, none⟩ = some (.bool a1.noIn) := hobox_2.cellAt 2 (by decide)
  have p3_2 : w2.cell? ⟨w.heap.size, 3, none⟩ = some (.bool a1.noGt) := hobox_2.cellAt 3 (by decide)
  have p4_2 : w2.cell? ⟨w.heap.size, 4, none⟩ = some (.bool a1.noSign) := hobox_2.cellAt 4 (by decide)
  go_wp2_with fail
  go_region_held3 (fun W => Below w2.heap.size w2 W ∧ W.cell? ⟨w.heap.size, 0, none⟩ = some (.int .i64 a1.level) ∧ W.cell? ⟨w.heap.size, 1, none⟩ = some (.bool a1.dollar) ∧ W.cell? ⟨w.heap.size, 2, none⟩ = some (.bool a1.noIn) ∧ W.cell? ⟨w.heap.size, 3, none⟩ = some (.bool a1.noGt) ∧ W.cell? ⟨w.heap.size, 4, none⟩ = some (.bool a1.noSign)) (first | exact ⟨(Below.refl _ _).drew, p0_2, p1_2, p2_2, p3_2, p4_2⟩ | exact (fun h3 => ⟨h3, (h3.cell (p := ⟨w.heap.size, 0, none⟩) (by show w.heap.size < _; omega)).trans p0_2, (h3.cell (p := ⟨w.heap.size, 1, none⟩) (by show w.heap.size < _; omega)).trans p1_2, (h3.cell (p := ⟨w.heap.size, 2, none⟩) (by show w.heap.size < _; omega)).trans p2_2, (h3.cell (p := ⟨w.heap.size, 3, none⟩) (by show w.heap.size < _; omega)).trans p3_2, (h3.cell (p := ⟨w.heap.size, 4, none⟩) (by show w.heap.size < _; omega)).trans p4_2⟩) (keep_b2 (by assumption) hb3) | exact (fun h3 => ⟨h3, (h3.cell (p := ⟨w.heap.size, 0, none⟩) (by show w.heap.size < _; omega)).trans p0_2, (h3.cell (p := ⟨w.heap.size, 1, none⟩) (by show w.heap.size < _; omega)).trans p1_2, (h3.cell (p := ⟨w.heap.size, 2, none⟩) (by show w.heap.size < _; omega)).trans p2_2, (h3.cell (p := ⟨w.heap.size, 3, none⟩) (by show w.heap.size < _; omega)).trans p3_2, (h3.cell (p := ⟨w.heap.size, 4, none⟩) (by show w.heap.size < _; omega)).trans p4_2⟩) (keep_b (by assumption) hb3) | exact (fun h3 => ⟨h3, (h3.cell (p := ⟨w.heap.size, 0, none⟩) (by show w.heap.size < _; omega)).trans p0_2, (h3.cell (p := ⟨w.heap.size, 1, none⟩) (by show w.heap.size < _; omega)).trans p1_2, (h3.cell (p := ⟨w.heap.size, 2, none⟩) (by show w.heap.size < _; omega)).trans p2_2, (h3.cell (p := ⟨w.heap.size, 3, none⟩) (by show w.heap.size < _; omega)).trans p3_2, (h3.cell (p := ⟨w.heap.size, 4, none⟩) (by show w.heap.size < _; omega)).trans p4_2⟩) (keep_b2 (by assumption) hb4) | exact (fun h3 => ⟨h3, (h3.cell (p := ⟨w.heap.size, 0, none⟩) (by show w.heap.size < _; omega)).trans p0_2, (h3.cell (p := ⟨w.heap.size, 1, none⟩) (by show w.heap.size < _; omega)).trans p1_2, (h3.cell (p := ⟨w.heap.size, 2, none⟩) (by show w.heap.size < _; omega)).trans p2_2, (h3.cell (p := ⟨w.heap.size, 3, none⟩) (by show w.heap.size < _; omega)).trans p3_2, (h3.cell (p := ⟨w.heap.size, 4, none⟩) (by show w.heap.size < _; omega)).trans p4_2⟩) (keep_b (by assumption) hb4) | exact (fun h3 => ⟨h3, (h3.cell (p := ⟨w.heap.size, 0, none⟩) (by show w.heap.size < _; omega)).trans p0_2, (h3.cell (p := ⟨w.heap.size, 1, none⟩) (by show w.heap.size < _; omega)).trans p1_2, (h3.cell (p := ⟨w.heap.size, 2, none⟩) (by show w.heap.size < _; omega)).trans p2_2, (h3.cell (p := ⟨w.heap.size, 3, none⟩) (by show w.heap.size < _; omega)).trans p3_2, (h3.cell (p := ⟨w.heap.size, 4, none⟩) (by show w.heap.size < _; omega)).trans p4_2⟩) (keep_b2 (by assumption) hb5) | exact (fun h3 => ⟨h3, (h3.cell (p := ⟨w.heap.size, 0, none⟩) (by show w.heap.size < _; omega)).trans p0_2, (h3.cell (p := ⟨w.heap.size, 1, none⟩) (by show w.heap.size < _; omega)).trans p1_2, (h3.cell (p := ⟨w.heap.size, 2, none⟩) (by show w.heap.size < _; omega)).trans p2_2, (h3.cell (p := ⟨w.heap.size, 3, none⟩) (by show w.heap.size < _; omega)).trans p3_2, (h3.cell (p := ⟨w.heap.size, 4, none⟩) (by show w.heap.size < _; omega)).trans p4_2⟩) (keep_b (by assumption) hb5)) (first | (go_at_call 10; refine (toNodeS_any l0 v0 _ hn0 (hv0.mono hB2.drew (Nat.le_refl _))).mono ?_; rintro e w3 ⟨yp0, rfl, hb3, hop0⟩; have hB3 := (hB2.drew).trans (hb3.mono (hB2.drew).size); have hs3 : w2.heap.size ≤ w3.heap.size := hb3.size) | (go_at_call 18; refine (toPos_any a1 _).mono ?_; rintro e w4 ⟨rfl, hb4⟩; have hB4 := (hB3).trans (hb4.mono (hB3).size); have hs4 : w3.heap.size ≤ w4.heap.size := hb4.size) | (go_at_call 17; refine (specOwnerOf_any l0 yp0 a1 a2 _ hx0 hn0 (hop0.below hb4 (Nat.le_refl _)).slc ha1 ha2).mono ?_; rintro e w5 ⟨rfl, hb5⟩; have hB5 := (hB4).trans (hb5.mono (hB4).size); have hs5 : w4.heap.size ≤ w5.heap.size := hb5.size))
  have hobox_5 := (own_below (own_below (own_below (own_drew hobox_2) hb3 (Nat.le_refl _)) hb4 (Nat.le_refl _)) hb5 (Nat.le_refl _))
  clear p0_2 p1_2 p2_2 p3_2 p4_2
  have p0_5 : w5.cell? ⟨w.heap.size, 0, none⟩ = some (.int .i64 a1.level) := hobox_5.cellAt 0 (by decide)
  have p1_5 : w5.cell? ⟨w.heap.size, 1, none⟩ = some (.bool a1.dollar) := hobox_5.cellAt 1 (by decide)
  have p2_5 : w5.cell? ⟨w.heap.size, 2, none⟩ = some (.bool a1.noIn) := hobox_5.cellAt 2 (by decide)
  have p3_5 : w5.cell? ⟨w.heap.size, 3, none⟩ = some (.bool a1.noGt) := hobox_5.cellAt 3 (by decide)
  have p4_5 : w5.cell? ⟨w.heap.size, 4, none⟩ = some (.bool a1.noSign) := hobox_5.cellAt 4 (by decide)
  go_wp2_with fail
  refine (toNodeS_any l0 v0 _ hn0 (hv0.mono hB5 (Nat.le_refl _))).mono ?_; rintro e w6 ⟨yx0, rfl, hb6, hox0⟩
  clear p0_5 p1_5 p2_5 p3_5 p4_5
  have hs6 := hb6.size
  have hB6 := hB5.trans (hb6.mono hB5.size)
  have hobox_6 := own_below hobox_5 hb6 (Nat.le_refl _)
  have p0_6 : w6.cell? ⟨w.heap.size, 0, none⟩ = some (.int .i64 a1.level) := hobox_6.cellAt 0 (by decide)
  have p1_6 : w6.cell? ⟨w.heap.size, 1, none⟩ = some (.bool a1.dollar) := hobox_6.cellAt 1 (by decide)
  have p2_6 : w6.cell? ⟨w.heap.size, 2, none⟩ = some (.bool a1.noIn) := hobox_6.cellAt 2 (by decide)
  have p3_6 : w6.cell? ⟨w.heap.size, 3, none⟩ = some (.bool a1.noGt) := hobox_6.cellAt 3 (by decide)
  have p4_6 : w6.cell? ⟨w.heap.size, 4, none⟩ = some (.bool a1.noSign) := hobox_6.cellAt 4 (by decide)
  go_wp2_with fail
  refine (toPos_any a1 _).mono ?_; rintro e w7 ⟨rfl, hb7⟩
  clear p0_6 p1_6 p2_6 p3_6 p4_6
  have hs7 := hb7.size
  have hB7 := hB6.trans (hb7.mono hB6.size)
  have hobox_7 := own_below hobox_6 hb7 (Nat.le_refl _)
  have hox0_7 := hox0.below hb7 (Nat.le_refl _)
  have p0_7 : w7.cell? ⟨w.heap.size, 0, none⟩ = some (.int .i64 a1.level) := hobox_7.cellAt 0 (by decide)
  have p1_7 : w7.cell? ⟨w.heap.size, 1, none⟩ = some (.bool a1.dollar) := hobox_7.cellAt 1 (by decide)
  have p2_7 : w7.cell? ⟨w.heap.size, 2, none⟩ = some (.bool a1.noIn) := hobox_7.cellAt 2 (by decide)
  have p3_7 : w7.cell? ⟨w.heap.size, 3, none⟩ = some (.bool a1.noGt) := hobox_7.cellAt 3 (by decide)
  have p4_7 : w7.cell? ⟨w.heap.size, 4, none⟩ = some (.bool a1.noSign) := hobox_7.cellAt 4 (by decide)
  go_wp2_with fail
  refine (implOwnerOf_any l0 yx0 a1 a2 _ hx0 hn0 hox0_7.slc ha1 ha2 (hWordEnv.below hB7)).mono ?_; rintro e w8 ⟨rfl, hb8⟩
  clear p0_7 p1_7 p2_7 p3_7 p4_7
  have hs8 := hb8.size
  have hB8 := hB7.trans (hb8.mono hB7.size)
  have hobox_8 := own_below hobox_7 hb8 (Nat.le_refl _)
  have hox0_8 := hox0_7.below hb8 (Nat.le_refl _)
  have p0_8 : w8.cell? ⟨w.heap.size, 0, none⟩ = some (.int .i64 a1.level) := hobox_8.cellAt 0 (by decide)
  have p1_8 : w8.cell? ⟨w.heap.size, 1, none⟩ = some (.bool a1.dollar) := hobox_8.cellAt 1 (by decide)
  have p2_8 : w8.cell? ⟨w.heap.size, 2, none⟩ = some (.bool a1.noIn) := hobox_8.cellAt 2 (by decide)
  have p3_8 : w8.cell? ⟨w.heap.size, 3, none⟩ = some (.bool a1.noGt) := hobox_8.cellAt 3 (by decide)
  have p4_8 : w8.cell? ⟨w.heap.size, 4, none⟩ = some (.bool a1.noSign) := hobox_8.cellAt 4 (by decide)
  go_wp2_with fail
  refine (toNodeS_any l0 v0 _ hn0 (hv0.mono hB8 (Nat.le_refl _))).mono ?_; rintro e w9 ⟨yz0, rfl, hb9, hoz0⟩
  clear p0_8 p1_8 p2_8 p3_8 p4_8
  have hs9 := hb9.size
  have hB9 := hB8.trans (hb9.mono hB8.size)
  have hobox_9 := own_below hobox_8 hb9 (Nat.le_refl _)
  have hox0_9 := hox0_8.below hb9 (Nat.le_refl _)
  have p0_9 : w9.cell? ⟨w.heap.size, 0, none⟩ = some (.int .i64 a1.level) := hobox_9.cellAt 0 (by decide)
  have p1_9 : w9.cell? ⟨w.heap.size, 1, none⟩ = some (.bool a1.dollar) := hobox_9.cellAt 1 (by decide)
  have p2_9 : w9.cell? ⟨w.heap.size, 2, none⟩ = some (.bool a1.noIn) := hobox_9.cellAt 2 (by decide)
  have p3_9 : w9.cell? ⟨w.heap.size, 3, none⟩ = some (.bool a1.noGt) := hobox_9.cellAt 3 (by decide)
  have p4_9 : w9.cell? ⟨w.heap.size, 4, none⟩ = some (.bool a1.noSign) := hobox_9.cellAt 4 (by decide)
  go_wp2_with fail
  refine (eqNodeS_any l0 l0 yx0 yz0 _ hox0_9.slc hoz0.slc).mono ?_; rintro e w10 ⟨rfl, hb10⟩
  clear p0_9 p1_9 p2_9 p3_9 p4_9
  have hs10 := hb10.size
  have hB10 := hB9.trans (hb10.mono hB9.size)
  have hobox_10 := own_below hobox_9 hb10 (Nat.le_refl _)
  have hox0_10 := hox0_9.below hb10 (Nat.le_refl _)
  have hoz0_10 := hoz0.below hb10 (Nat.le_refl _)
  have p0_10 : w10.cell? ⟨w.heap.size, 0, none⟩ = some (.int .i64 a1.level) := hobox_10.cellAt 0 (by decide)
  have p1_10 : w10.cell? ⟨w.heap.size, 1, none⟩ = some (.bool a1.dollar) := hobox_10.cellAt 1 (by decide)
  have p2_10 : w10.cell? ⟨w.heap.size, 2, none⟩ = some (.bool a1.noIn) := hobox_10.cellAt 2 (by decide)
  have p3_10 : w10.cell? ⟨w.heap.size, 3, none⟩ = some (.bool a1.noGt) := hobox_10.cellAt 3 (by decide)
  have p4_10 : w10.cell? ⟨w.heap.size, 4, none⟩ = some (.bool a1.noSign) := hobox_10.cellAt 4 (by decide)
  go_wp2_with fail
  go_ret
  exact ⟨rfl, hB10⟩

end Go.Proofs.YtkelhmgdajiocaaGreatDoor
