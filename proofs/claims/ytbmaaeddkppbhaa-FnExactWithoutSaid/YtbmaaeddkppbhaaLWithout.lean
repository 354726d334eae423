/- Walks and lemmas of this seat (LWithout): what each theorem says of the functions that it names. Conditions: those that each theorem states. -/
import Derived.Test.YtbmaaeddkppbhaaHToken
import Derived.Test.YtbmaaeddkppbhaaHSpan
import Derived.Test.YtbmaaeddkppbhaaHTokenM
import Derived.Test.YtbmaaeddkppbhaaFWithout
namespace Go.Proofs.Ytbmaaeddkppbhaa
set_option linter.unusedVariables false
set_option linter.unusedSimpArgs false
open Go.RowKit

set_option maxRecDepth 100000 in
set_option maxHeartbeats 1600000 in
theorem lawWithout {w : World} (l0 : List Token) (v0 : Value) (hx0 : ∀ x ∈ l0, x.Ok) (hv0 : Slc w v0 3 l0.length (l0.flatMap Token.cells)) (a1 : Span) (ha1 : a1.Ok) :
    Calls Try.prog 11 #[v0, .agg #[.int .i64 a1.lo, .int .i64 a1.hi]] w fun e w' => e = .returned (.bool true) ∧ Below w.heap.size w w' := by
  by_cases hbig0 : 1048576 < bulk Token.sizes l0
  · have hz0 := szList_eq Token.sizes l0 1048576 (by omega)
    rw [if_pos (by omega)] at hz0
    have hlo0 : szList Token.sizes l0 1048576 < 0 := by omega
    clear hz0
    clear hbig0
    go_enter Try.func11, Try.ntmps11
    go_wp2_with fail
    have hb1 : Below w.heap.size w (w.alloc (.cells #[.int .i64 a1.lo, .int .i64 a1.hi] 54)) := (Below.refl _ _).alloc (Nat.le_refl _) _
    generalize w.alloc (.cells #[.int .i64 a1.lo, .int .i64 a1.hi] 54) = w1 at *
    have hB1 := hb1
    refine (szTokenS_any l0 v0 1048576 (by omega) (by omega) _ hx0 (hv0.mono hB1 (Nat.le_refl _))).mono ?_; rintro e w2 ⟨rfl, hb2⟩
    have hB2 := hB1.trans (hb2.mono hB1.size)
    go_wp2_with fail
    go_ret
    exact ⟨rfl, hB2⟩
  have hz0 := szList_eq Token.sizes l0 1048576 (by omega)
  rw [if_neg (by omega)] at hz0
  have hlo0 : 0 ≤ szList Token.sizes l0 1048576 := by omega
  have hhi0 : szList Token.sizes l0 1048576 ≤ 1048576 := by omega
  have hn0 : bulk Token.sizes l0 ≤ 1048576 := by omega
  have hlen0 : l0.length ≤ 1048576 := by have := length_bulk Token.sizes l0; omega
  clear hz0
  clear hbig0
  have hself0 := eqList_self eqToken eqToken_iff l0
  have hselfR := eqList_self eqToken eqToken_iff (without a1.lo a1.hi 0 l0)
  go_enter Try.func11, Try.ntmps11
  go_wp2_with fail
  have hb1 : Below w.heap.size w (w.alloc (.cells #[.int .i64 a1.lo, .int .i64 a1.hi] 54)) := (Below.refl _ _).alloc (Nat.le_refl _) _
  have hobox := own_box w #[.int .i64 a1.lo, .int .i64 a1.hi] 54 2 rfl
  generalize w.alloc (.cells #[.int .i64 a1.lo, .int .i64 a1.hi] 54) = w1 at *
  have hB1 := hb1
  have hs1 := hb1.size
  have hlw : w.heap.size < w1.heap.size := (hobox.lt _ rfl).2
  have p0_1 : w1.cell? ⟨w.heap.size, 0, none⟩ = some (.int .i64 a1.lo) := hobox.cellAt 0 (by decide)
  have p1_1 : w1.cell? ⟨w.heap.size, 1, none⟩ = some (.int .i64 a1.hi) := hobox.cellAt 1 (by decide)
  refine (szTokenS_any l0 v0 1048576 (by omega) (by omega) _ hx0 (hv0.mono hB1 (Nat.le_refl _))).mono ?_; rintro e w2 ⟨rfl, hb2⟩
  clear p0_1 p1_1
  have hs2 := hb2.size
  have hB2 := hB1.trans (hb2.mono hB1.size)
  have hobox_2 := own_below hobox hb2 (Nat.le_refl _)
  have p0_2 : w2.cell? ⟨w.heap.size, 0, none⟩ = some (.int .i64 a1.lo) := hobox_2.cellAt 0 (by decide)
  have p1_2 : w2.cell? ⟨w.heap.size, 1, none⟩ = some (.int .i64 a1.hi) := hobox_2.cellAt 1 (by decide)
  go_wp2_with fail
  go_region_held3 (fun W => Below w2.heap.size w2 W ∧ W.cell? ⟨w.heap.size, 0, none⟩ = some (.int .i64 a1.lo) ∧ W.cell? ⟨w.heap.size, 1, none⟩ = some (.int .i64 a1.hi)) (first | exact ⟨(Below.refl _ _).drew, p0_2, p1_2⟩ | exact (fun h3 => ⟨h3, (h3.cell (p := ⟨w.heap.size, 0, none⟩) (by show w.heap.size < _; omega)).trans p0_2, (h3.cell (p := ⟨w.heap.size, 1, none⟩) (by show w.heap.size < _; omega)).trans p1_2⟩) (keep_b2 (by assumption) hb3) | exact (fun h3 => ⟨h3, (h3.cell (p := ⟨w.heap.size, 0, none⟩) (by show w.heap.size < _; omega)).trans p0_2, (h3.cell (p := ⟨w.heap.size, 1, none⟩) (by show w.heap.size < _; omega)).trans p1_2⟩) (keep_b (by assumption) hb3) | exact (fun h3 => ⟨h3, (h3.cell (p := ⟨w.heap.size, 0, none⟩) (by show w.heap.size < _; omega)).trans p0_2, (h3.cell (p := ⟨w.heap.size, 1, none⟩) (by show w.heap.size < _; omega)).trans p1_2⟩) (keep_b2 (by assumption) hb4) | exact (fun h3 => ⟨h3, (h3.cell (p := ⟨w.heap.size, 0, none⟩) (by show w.heap.size < _; omega)).trans p0_2, (h3.cell (p := ⟨w.heap.size, 1, none⟩) (by show w.heap.size < _; omega)).trans p1_2⟩) (keep_b (by assumption) hb4) | exact (fun h3 => ⟨h3, (h3.cell (p := ⟨w.heap.size, 0, none⟩) (by show w.heap.size < _; omega)).trans p0_2, (h3.cell (p := ⟨w.heap.size, 1, none⟩) (by show w.heap.size < _; omega)).trans p1_2⟩) (keep_b2 (by assumption) hb5) | exact (fun h3 => ⟨h3, (h3.cell (p := ⟨w.heap.size, 0, none⟩) (by show w.heap.size < _; omega)).trans p0_2, (h3.cell (p := ⟨w.heap.size, 1, none⟩) (by show w.heap.size < _; omega)).trans p1_2⟩) (keep_b (by assumption) hb5)) (first | (go_at_call 33; refine (toTokenS_any l0 v0 _ hlen0 (hv0.mono hB2.drew (Nat.le_refl _))).mono ?_; rintro e w3 ⟨yp0, rfl, hb3, hop0⟩; have hB3 := (hB2.drew).trans (hb3.mono (hB2.drew).size); have hs3 : w2.heap.size ≤ w3.heap.size := hb3.size) | (go_at_call 46; refine (toSpan_any a1 _).mono ?_; rintro e w4 ⟨rfl, hb4⟩; have hB4 := (hB3).trans (hb4.mono (hB3).size); have hs4 : w3.heap.size ≤ w4.heap.size := hb4.size) | (go_at_call 45; refine (specWithout_any l0 yp0 a1 _ hx0 hn0 (Slc.of_own (own_below hop0 hb4 (Nat.le_refl _))) ha1).mono ?_; rintro e w5 ⟨w0, rfl, hb5, how0⟩; have hB5 := (hB4).trans (hb5.mono (hB4).size); have hs5 : w4.heap.size ≤ w5.heap.size := hb5.size))
  have hobox_5 := (own_below (own_below (own_below (own_drew hobox_2) hb3 (Nat.le_refl _)) hb4 (Nat.le_refl _)) hb5 (Nat.le_refl _))
  clear p0_2 p1_2
  have p0_5 : w5.cell? ⟨w.heap.size, 0, none⟩ = some (.int .i64 a1.lo) := hobox_5.cellAt 0 (by decide)
  have p1_5 : w5.cell? ⟨w.heap.size, 1, none⟩ = some (.int .i64 a1.hi) := hobox_5.cellAt 1 (by decide)
  go_wp2_with fail
  refine (toTokenS_any l0 v0 _ hlen0 (hv0.mono hB5 (Nat.le_refl _))).mono ?_; rintro e w6 ⟨yx0, rfl, hb6, hox0⟩
  clear p0_5 p1_5
  have hs6 := hb6.size
  have hB6 := hB5.trans (hb6.mono hB5.size)
  have hobox_6 := own_below hobox_5 hb6 (Nat.le_refl _)
  have how0_6 := own_below how0 hb6 (Nat.le_refl _)
  have p0_6 : w6.cell? ⟨w.heap.size, 0, none⟩ = some (.int .i64 a1.lo) := hobox_6.cellAt 0 (by decide)
  have p1_6 : w6.cell? ⟨w.heap.size, 1, none⟩ = some (.int .i64 a1.hi) := hobox_6.cellAt 1 (by decide)
  go_wp2_with fail
  refine (toSpan_any a1 _).mono ?_; rintro e w7 ⟨rfl, hb7⟩
  clear p0_6 p1_6
  have hs7 := hb7.size
  have hB7 := hB6.trans (hb7.mono hB6.size)
  have hobox_7 := own_below hobox_6 hb7 (Nat.le_refl _)
  have how0_7 := own_below how0_6 hb7 (Nat.le_refl _)
  have hox0_7 := own_below hox0 hb7 (Nat.le_refl _)
  have p0_7 : w7.cell? ⟨w.heap.size, 0, none⟩ = some (.int .i64 a1.lo) := hobox_7.cellAt 0 (by decide)
  have p1_7 : w7.cell? ⟨w.heap.size, 1, none⟩ = some (.int .i64 a1.hi) := hobox_7.cellAt 1 (by decide)
  go_wp2_with fail
  refine (implWithout_any l0 yx0 a1 _ hx0 hn0 (Slc.of_own hox0_7) ha1).mono ?_; rintro e w8 ⟨g0, rfl, hb8, hog0⟩
  clear p0_7 p1_7
  have hs8 := hb8.size
  have hB8 := hB7.trans (hb8.mono hB7.size)
  have hobox_8 := own_below hobox_7 hb8 (Nat.le_refl _)
  have how0_8 := own_below how0_7 hb8 (Nat.le_refl _)
  have hox0_8 := own_below hox0_7 hb8 (Nat.le_refl _)
  have p0_8 : w8.cell? ⟨w.heap.size, 0, none⟩ = some (.int .i64 a1.lo) := hobox_8.cellAt 0 (by decide)
  have p1_8 : w8.cell? ⟨w.heap.size, 1, none⟩ = some (.int .i64 a1.hi) := hobox_8.cellAt 1 (by decide)
  go_wp2_with fail
  refine (eqTokenS_any (without a1.lo a1.hi 0 l0) (without a1.lo a1.hi 0 l0) g0 w0 _ (Slc.of_own hog0) (Slc.of_own how0_8)).mono ?_; rintro e w9 ⟨rfl, hb9⟩
  clear p0_8 p1_8
  have hs9 := hb9.size
  have hB9 := hB8.trans (hb9.mono hB8.size)
  have hobox_9 := own_below hobox_8 hb9 (Nat.le_refl _)
  have how0_9 := own_below how0_8 hb9 (Nat.le_refl _)
  have hox0_9 := own_below hox0_8 hb9 (Nat.le_refl _)
  have hog0_9 := own_below hog0 hb9 (Nat.le_refl _)
  have p0_9 : w9.cell? ⟨w.heap.size, 0, none⟩ = some (.int .i64 a1.lo) := hobox_9.cellAt 0 (by decide)
  have p1_9 : w9.cell? ⟨w.heap.size, 1, none⟩ = some (.int .i64 a1.hi) := hobox_9.cellAt 1 (by decide)
  go_wp2_with fail
  refine (toTokenS_any l0 v0 _ hlen0 (hv0.mono hB9 (Nat.le_refl _))).mono ?_; rintro e w10 ⟨yz0, rfl, hb10, hoz0⟩
  clear p0_9 p1_9
  have hs10 := hb10.size
  have hB10 := hB9.trans (hb10.mono hB9.size)
  have hobox_10 := own_below hobox_9 hb10 (Nat.le_refl _)
  have how0_10 := own_below how0_9 hb10 (Nat.le_refl _)
  have hox0_10 := own_below hox0_9 hb10 (Nat.le_refl _)
  have hog0_10 := own_below hog0_9 hb10 (Nat.le_refl _)
  have p0_10 : w10.cell? ⟨w.heap.size, 0, none⟩ = some (.int .i64 a1.lo) := hobox_10.cellAt 0 (by decide)
  have p1_10 : w10.cell? ⟨w.heap.size, 1, none⟩ = some (.int .i64 a1.hi) := hobox_10.cellAt 1 (by decide)
  go_wp2_with fail
  refine (eqTokenS_any l0 l0 yx0 yz0 _ (Slc.of_own hox0_10) (Slc.of_own hoz0)).mono ?_; rintro e w11 ⟨rfl, hb11⟩
  clear p0_10 p1_10
  have hs11 := hb11.size
  have hB11 := hB10.trans (hb11.mono hB10.size)
  have hobox_11 := own_below hobox_10 hb11 (Nat.le_refl _)
  have how0_11 := own_below how0_10 hb11 (Nat.le_refl _)
  have hox0_11 := own_below hox0_10 hb11 (Nat.le_refl _)
  have hog0_11 := own_below hog0_10 hb11 (Nat.le_refl _)
  have hoz0_11 := own_below hoz0 hb11 (Nat.le_refl _)
  have p0_11 : w11.cell? ⟨w.heap.size, 0, none⟩ = some (.int .i64 a1.lo) := hobox_11.cellAt 0 (by decide)
  have p1_11 : w11.cell? ⟨w.heap.size, 1, none⟩ = some (.int .i64 a1.hi) := hobox_11.cellAt 1 (by decide)
  go_wp2_with fail
  have hlenR : (without a1.lo a1.hi 0 l0).length ≤ 1048576 := Nat.le_trans (without_len a1.lo a1.hi l0 0) hlen0
  refine (markTokenS_any l0 yx0 1 _ (by omega) (by omega) hox0_11).mono ?_; rintro e w12 ⟨rfl, hg12, hm12⟩
  clear p0_11 p1_11
  have hs12 := hg12.size
  have hB12 := below_mark hB11 hg12 hox0_11 hB5.size
  have hobox_12 := own_grown hobox_11 hg12 (own_apart2 hobox hox0 (by omega))
  have how0_12 := own_grown how0_11 hg12 (own_apart2 how0 hox0 (by omega))
  have hog0_12 := own_grown hog0_11 hg12 (own_apart hox0 hog0 (by omega))
  have p0_12 : w12.cell? ⟨w.heap.size, 0, none⟩ = some (.int .i64 a1.lo) := hobox_12.cellAt 0 (by decide)
  have p1_12 : w12.cell? ⟨w.heap.size, 1, none⟩ = some (.int .i64 a1.hi) := hobox_12.cellAt 1 (by decide)
  go_wp2_with fail
  refine (eqTokenS_any (without a1.lo a1.hi 0 l0) (without a1.lo a1.hi 0 l0) g0 w0 _ (Slc.of_own hog0_12) (Slc.of_own how0_12)).mono ?_; rintro e w13 ⟨rfl, hb13⟩
  clear p0_12 p1_12
  have hs13 := hb13.size
  have hB13 := hB12.trans (hb13.mono hB12.size)
  have hobox_13 := own_below hobox_12 hb13 (Nat.le_refl _)
  have how0_13 := own_below how0_12 hb13 (Nat.le_refl _)
  have hog0_13 := own_below hog0_12 hb13 (Nat.le_refl _)
  have p0_13 : w13.cell? ⟨w.heap.size, 0, none⟩ = some (.int .i64 a1.lo) := hobox_13.cellAt 0 (by decide)
  have p1_13 : w13.cell? ⟨w.heap.size, 1, none⟩ = some (.int .i64 a1.hi) := hobox_13.cellAt 1 (by decide)
  go_wp2_with fail
  refine (markTokenS_any (without a1.lo a1.hi 0 l0) g0 1 _ (by omega) (by omega) hog0_13).mono ?_; rintro e w14 ⟨rfl, hg14, hm14⟩
  clear p0_13 p1_13
  have hs14 := hg14.size
  have hB14 := below_mark hB13 hg14 hog0_13 hB7.size
  have hobox_14 := own_grown hobox_13 hg14 (own_apart2 hobox hog0 (by omega))
  have how0_14 := own_grown how0_13 hg14 (own_apart2 how0 hog0 (by omega))
  have p0_14 : w14.cell? ⟨w.heap.size, 0, none⟩ = some (.int .i64 a1.lo) := hobox_14.cellAt 0 (by decide)
  have p1_14 : w14.cell? ⟨w.heap.size, 1, none⟩ = some (.int .i64 a1.hi) := hobox_14.cellAt 1 (by decide)
  go_wp2_with fail
  refine (heldTokenS_any (without a1.lo a1.hi 0 l0).length g0 1 _ (by omega) (by omega) (Slc.of_own hm14)).mono ?_; rintro e w15 ⟨rfl, hb15⟩
  clear p0_14 p1_14
  have hs15 := hb15.size
  have hB15 := hB14.trans (hb15.mono hB14.size)
  have hobox_15 := own_below hobox_14 hb15 (Nat.le_refl _)
  have how0_15 := own_below how0_14 hb15 (Nat.le_refl _)
  have hog0_15 := own_below hm14 hb15 (Nat.le_refl _)
  have p0_15 : w15.cell? ⟨w.heap.size, 0, none⟩ = some (.int .i64 a1.lo) := hobox_15.cellAt 0 (by decide)
  have p1_15 : w15.cell? ⟨w.heap.size, 1, none⟩ = some (.int .i64 a1.hi) := hobox_15.cellAt 1 (by decide)
  go_wp2_with fail
  go_region_held3 (fun W => Below w15.heap.size w15 W ∧ W.cell? ⟨w.heap.size, 0, none⟩ = some (.int .i64 a1.lo) ∧ W.cell? ⟨w.heap.size, 1, none⟩ = some (.int .i64 a1.hi)) (first | exact ⟨(Below.refl _ _).drew, p0_15, p1_15⟩ | exact (fun h3 => ⟨h3, (h3.cell (p := ⟨w.heap.size, 0, none⟩) (by show w.heap.size < _; omega)).trans p0_15, (h3.cell (p := ⟨w.heap.size, 1, none⟩) (by show w.heap.size < _; omega)).trans p1_15⟩) (keep_b2 (by assumption) hb16) | exact (fun h3 => ⟨h3, (h3.cell (p := ⟨w.heap.size, 0, none⟩) (by show w.heap.size < _; omega)).trans p0_15, (h3.cell (p := ⟨w.heap.size, 1, none⟩) (by show w.heap.size < _; omega)).trans p1_15⟩) (keep_b (by assumption) hb16) | exact (fun h3 => ⟨h3, (h3.cell (p := ⟨w.heap.size, 0, none⟩) (by show w.heap.size < _; omega)).trans p0_15, (h3.cell (p := ⟨w.heap.size, 1, none⟩) (by show w.heap.size < _; omega)).trans p1_15⟩) (keep_b2 (by assumption) hb17) | exact (fun h3 => ⟨h3, (h3.cell (p := ⟨w.heap.size, 0, none⟩) (by show w.heap.size < _; omega)).trans p0_15, (h3.cell (p := ⟨w.heap.size, 1, none⟩) (by show w.heap.size < _; omega)).trans p1_15⟩) (keep_b (by assumption) hb17) | exact (fun h3 => ⟨h3, (h3.cell (p := ⟨w.heap.size, 0, none⟩) (by show w.heap.size < _; omega)).trans p0_15, (h3.cell (p := ⟨w.heap.size, 1, none⟩) (by show w.heap.size < _; omega)).trans p1_15⟩) (keep_b2 (by assumption) hb18) | exact (fun h3 => ⟨h3, (h3.cell (p := ⟨w.heap.size, 0, none⟩) (by show w.heap.size < _; omega)).trans p0_15, (h3.cell (p := ⟨w.heap.size, 1, none⟩) (by show w.heap.size < _; omega)).trans p1_15⟩) (keep_b (by assumption) hb18)) (first | (go_at_call 33; refine (toTokenS_any l0 v0 _ hlen0 (hv0.mono hB15.drew (Nat.le_refl _))).mono ?_; rintro e w16 ⟨yq0, rfl, hb16, hoq0⟩; have hB16 := (hB15.drew).trans (hb16.mono (hB15.drew).size); have hs16 : w15.heap.size ≤ w16.heap.size := hb16.size) | (go_at_call 46; refine (toSpan_any a1 _).mono ?_; rintro e w17 ⟨rfl, hb17⟩; have hB17 := (hB16).trans (hb17.mono (hB16).size); have hs17 : w16.heap.size ≤ w17.heap.size := hb17.size) | (go_at_call 47; refine (implWithout_any l0 yq0 a1 _ hx0 hn0 (Slc.of_own (own_below hoq0 hb17 (Nat.le_refl _))) ha1).mono ?_; rintro e w18 ⟨h0, rfl, hb18, hoh0⟩; have hB18 := (hB17).trans (hb18.mono (hB17).size); have hs18 : w17.heap.size ≤ w18.heap.size := hb18.size))
  have hobox_18 := (own_below (own_below (own_below (own_drew hobox_15) hb16 (Nat.le_refl _)) hb17 (Nat.le_refl _)) hb18 (Nat.le_refl _))
  have how0_18 := (own_below (own_below (own_below (own_drew how0_15) hb16 (Nat.le_refl _)) hb17 (Nat.le_refl _)) hb18 (Nat.le_refl _))
  have hog0_18 := (own_below (own_below (own_below (own_drew hog0_15) hb16 (Nat.le_refl _)) hb17 (Nat.le_refl _)) hb18 (Nat.le_refl _))
  clear p0_15 p1_15
  have p0_18 : w18.cell? ⟨w.heap.size, 0, none⟩ = some (.int .i64 a1.lo) := hobox_18.cellAt 0 (by decide)
  have p1_18 : w18.cell? ⟨w.heap.size, 1, none⟩ = some (.int .i64 a1.hi) := hobox_18.cellAt 1 (by decide)
  go_wp2_with fail
  refine (eqTokenS_any (without a1.lo a1.hi 0 l0) (without a1.lo a1.hi 0 l0) h0 w0 _ (Slc.of_own hoh0) (Slc.of_own how0_18)).mono ?_; rintro e w19 ⟨rfl, hb19⟩
  clear p0_18 p1_18
  have hs19 := hb19.size
  have hB19 := hB18.trans (hb19.mono hB18.size)
  have hobox_19 := own_below hobox_18 hb19 (Nat.le_refl _)
  have how0_19 := own_below how0_18 hb19 (Nat.le_refl _)
  have hog0_19 := own_below hog0_18 hb19 (Nat.le_refl _)
  have hoh0_19 := own_below hoh0 hb19 (Nat.le_refl _)
  have p0_19 : w19.cell? ⟨w.heap.size, 0, none⟩ = some (.int .i64 a1.lo) := hobox_19.cellAt 0 (by decide)
  have p1_19 : w19.cell? ⟨w.heap.size, 1, none⟩ = some (.int .i64 a1.hi) := hobox_19.cellAt 1 (by decide)
  go_wp2_with fail
  refine (heldTokenS_any (without a1.lo a1.hi 0 l0).length g0 1 _ (by omega) (by omega) (Slc.of_own hog0_19)).mono ?_; rintro e w20 ⟨rfl, hb20⟩
  clear p0_19 p1_19
  have hs20 := hb20.size
  have hB20 := hB19.trans (hb20.mono hB19.size)
  have hobox_20 := own_below hobox_19 hb20 (Nat.le_refl _)
  have how0_20 := own_below how0_19 hb20 (Nat.le_refl _)
  have hog0_20 := own_below hog0_19 hb20 (Nat.le_refl _)
  have hoh0_20 := own_below hoh0_19 hb20 (Nat.le_refl _)
  have p0_20 : w20.cell? ⟨w.heap.size, 0, none⟩ = some (.int .i64 a1.lo) := hobox_20.cellAt 0 (by decide)
  have p1_20 : w20.cell? ⟨w.heap.size, 1, none⟩ = some (.int .i64 a1.hi) := hobox_20.cellAt 1 (by decide)
  go_wp2_with fail
  go_ret
  exact ⟨rfl, hB20⟩

end Go.Proofs.Ytbmaaeddkppbhaa
