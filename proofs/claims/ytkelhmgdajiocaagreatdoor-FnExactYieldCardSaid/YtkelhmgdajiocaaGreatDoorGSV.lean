/- Walks and lemmas of this seat (FSpecT): what each theorem says of the functions that it names. Conditions: those that each theorem states. -/
import Derived.Test.YtkelhmgdajiocaaGreatDoorFSpecS
import Derived.Test.YtkelhmgdajiocaaGreatDoorFSpecN
namespace Go.Proofs.YtkelhmgdajiocaaGreatDoor
set_option linter.unusedVariables false
set_option linter.unusedSimpArgs false
open Go.RowKit

set_option maxRecDepth 100000 in
set_option maxHeartbeats 6400000 in
theorem specl10Sides_99 {w0 : World} {l0 : List Node} {a0 : Option Addr} {cap : Nat} {full : Bool} {k0 k1 kb koff kc : Nat} {a b2 : ByteArray} {p : Pos} (hp : posOkB p = true) (har : arity 12 2) (hop : ((12 : Nat) : Int) = 12 → opLevelB 99 ≠ 0)  (hat0 : SAtC w0 l0 a0 cap full k0) (hat1 : SAtC w0 l0 a0 cap full k1) (hlen0 : ∀ q, ((treeIx l0 k0).tks full q).length ≤ 10000) (hlen1 : ∀ q, ((treeIx l0 k1).tks full q).length ≤ 10000) (W : World) (hbW : Below w0.heap.size w0 W) (kc0 : W.cell? ⟨kb, koff, none⟩ = some (.int .i64 (k0 : Nat))) (kc1 : W.cell? ⟨kb, koff + 1, none⟩ = some (.int .i64 (k1 : Nat))) (hkc : 2 ≤ kc) (hkm : kc ≤ maxLen) :
    Calls Tryz.prog 105 #[.agg #[.slice a0 l0.length cap, .bool full], .agg #[.int .i64 12, .int .i64 99, .string a, .string b2, .slice (some ⟨kb, koff, none⟩) 2 kc], .agg #[.int .i64 p.level, .bool p.dollar, .bool p.noIn, .bool p.noGt, .bool p.noSign]] W fun e w' => TokPost W ((treeIx l0 k0).tks full (kidPosB 12 99 2 0 p) ++ (treeIx l0 k1).tks full (kidPosB 12 99 2 1 p)) e w' := by
  have hkl : kb < W.heap.size := World.block_lt_of_cell? W _ kc0
  have hq0 := hid (kidPos_ok (k := 12) (o := 99) (n := 2) (j := 0) hp (by omega) (levelB_pos har.1 hop))
  have hkp0 := hid (fun W' => show Calls Tryz.prog 103 #[.agg #[.int .i64 12, .int .i64 99, .string a, .string b2, .slice (some ⟨kb, koff, none⟩) 2 kc], .int .i64 0, .agg #[.int .i64 p.level, .bool p.dollar, .bool p.noIn, .bool p.noGt, .bool p.noSign]] W' fun e w' => e = .returned (.agg #[.int .i64 (kidPosB 12 99 2 0 p).level, .bool (kidPosB 12 99 2 0 p).dollar, .bool (kidPosB 12 99 2 0 p).noIn, .bool (kidPosB 12 99 2 0 p).noGt, .bool (kidPosB 12 99 2 0 p).noSign]) ∧ Below W'.heap.size W' w' from specKidPos_any 12 99 a b2 (some ⟨kb, koff, none⟩) 2 kc 0 p W' hp (by omega) har hop)
  have hatt0 := hid (fun W' (hW : Below W.heap.size W W') => hat0 (kidPosB 12 99 2 0 p) W' hq0.out (hbW.trans (hW.mono hbW.size)))
  have hq1 := hid (kidPos_ok (k := 12) (o := 99) (n := 2) (j := 1) hp (by omega) (levelB_pos har.1 hop))
  have hkp1 := hid (fun W' => show Calls Tryz.prog 103 #[.agg #[.int .i64 12, .int .i64 99, .string a, .string b2, .slice (some ⟨kb, koff, none⟩) 2 kc], .int .i64 1, .agg #[.int .i64 p.level, .bool p.dollar, .bool p.noIn, .bool p.noGt, .bool p.noSign]] W' fun e w' => e = .returned (.agg #[.int .i64 (kidPosB 12 99 2 1 p).level, .bool (kidPosB 12 99 2 1 p).dollar, .bool (kidPosB 12 99 2 1 p).noIn, .bool (kidPosB 12 99 2 1 p).noGt, .bool (kidPosB 12 99 2 1 p).noSign]) ∧ Below W'.heap.size W' w' from specKidPos_any 12 99 a b2 (some ⟨kb, koff, none⟩) 2 kc 1 p W' hp (by omega) har hop)
  have hatt1 := hid (fun W' (hW : Below W.heap.size W W') => hat1 (kidPosB 12 99 2 1 p) W' hq1.out (hbW.trans (hW.mono hbW.size)))
  replace hlen0 := hlen0 (kidPosB 12 99 2 0 p)
  replace hlen1 := hlen1 (kidPosB 12 99 2 1 p)
  unfold TokPost at hatt0 hatt1
  generalize (treeIx l0 k0).tks full (kidPosB 12 99 2 0 p) = R0 at *
  generalize kidPosB 12 99 2 0 p = p0 at *
  generalize (treeIx l0 k1).tks full (kidPosB 12 99 2 1 p) = R1 at *
  generalize kidPosB 12 99 2 1 p = p1 at *
  have hB1 := hid (show Below W.heap.size W (((W.alloc (.cells #[.slice a0 l0.length cap, .bool full] 80)).alloc (.cells #[.int .i64 12, .int .i64 99, .string a, .string b2, .slice (some ⟨kb, koff, none⟩) 2 kc] 58)).alloc (.cells #[.int .i64 p.level, .bool p.dollar, .bool p.noIn, .bool p.noGt, .bool p.noSign] 36)) from (((Below.refl _ _).alloc (Nat.le_refl _) _).alloc (by simp) _).alloc (by simp <;> omega) _)
  obtain ⟨hx0, hx1, hx3⟩ := alloc3 W (.cells #[.slice a0 l0.length cap, .bool full] 80) (.cells #[.int .i64 12, .int .i64 99, .string a, .string b2, .slice (some ⟨kb, koff, none⟩) 2 kc] 58) (.cells #[.int .i64 p.level, .bool p.dollar, .bool p.noIn, .bool p.noGt, .bool p.noSign] 36)
  replace hx0 := hid hx0
  replace hx1 := hid hx1
  replace hx3 := hid hx3
  have kd0 := (hB1.out.cell (p := ⟨kb, koff, none⟩) hkl).trans kc0
  have kd1 := (hB1.out.cell (p := ⟨kb, koff + 1, none⟩) hkl).trans kc1
  have hkl1 : kb < (((W.alloc (.cells #[.slice a0 l0.length cap, .bool full] 80)).alloc (.cells #[.int .i64 12, .int .i64 99, .string a, .string b2, .slice (some ⟨kb, koff, none⟩) 2 kc] 58)).alloc (.cells #[.int .i64 p.level, .bool p.dollar, .bool p.noIn, .bool p.noGt, .bool p.noSign] 36)).heap.size := Nat.lt_of_lt_of_le hkl hB1.out.size
  unfold maxLen at hkm
  clear hat0 hat1 hop har
  go_enter Tryz.func105, Tryz.ntmps105
  go_wp2_with fail
  generalize ((W.alloc (.cells #[.slice a0 l0.length cap, .bool full] 80)).alloc (.cells #[.int .i64 12, .int .i64 99, .string a, .string b2, .slice (some ⟨kb, koff, none⟩) 2 kc] 58)).alloc (.cells #[.int .i64 p.level, .bool p.dollar, .bool p.noIn, .bool p.noGt, .bool p.noSign] 36) = W1 at hB1 hx0 hx1 hx3 kd0 kd1 hkl1 ⊢
  have q1 := boxb hx1.out (Below.refl _ _)
  have y0 := (box_cells q1).1
  have y1 := (box_cells q1).2.1
  have y2 := (box_cells q1).2.2.1
  have y3 := (box_cells q1).2.2.2.1
  have y4 := (box_cells q1).2.2.2.2
  clear q1
  have hS := hid (show ∀ W', Below W1.heap.size W1 W' → W'.cell? ⟨W.heap.size + 1, 0, none⟩ = some (.int .i64 12) ∧ W'.cell? ⟨W.heap.size + 1, 1, none⟩ = some (.int .i64 99) ∧ W'.cell? ⟨W.heap.size + 1, 2, none⟩ = some (.string a) ∧ W'.cell? ⟨W.heap.size + 1, 3, none⟩ = some (.string b2) ∧ W'.cell? ⟨W.heap.size + 1, 4, none⟩ = some (.slice (some ⟨kb, koff, none⟩) 2 kc) ∧ W'.cell? ⟨W.heap.size, 0, none⟩ = some (.slice a0 l0.length cap) ∧ W'.cell? ⟨W.heap.size, 1, none⟩ = some (.bool full) ∧ W'.cell? ⟨W.heap.size + 1 + 1, 0, none⟩ = some (.int .i64 p.level) ∧ W'.cell? ⟨W.heap.size + 1 + 1, 1, none⟩ = some (.bool p.dollar) ∧ W'.cell? ⟨W.heap.size + 1 + 1, 2, none⟩ = some (.bool p.noIn) ∧ W'.cell? ⟨W.heap.size + 1 + 1, 3, none⟩ = some (.bool p.noGt) ∧ W'.cell? ⟨W.heap.size + 1 + 1, 4, none⟩ = some (.bool p.noSign) ∧ W'.cell? ⟨kb, koff, none⟩ = some (.int .i64 (k0 : Nat)) from fun W' hW => ⟨box_cell (boxb hx1.out hW) rfl, box_cell (boxb hx1.out hW) rfl, box_cell (boxb hx1.out hW) rfl, box_cell (boxb hx1.out hW) rfl, box_cell (boxb hx1.out hW) rfl, box_cell (boxb hx0.out hW) rfl, box_cell (boxb hx0.out hW) rfl, box_cell (boxb hx3.out hW) rfl, box_cell (boxb hx3.out hW) rfl, box_cell (boxb hx3.out hW) rfl, box_cell (boxb hx3.out hW) rfl, box_cell (boxb hx3.out hW) rfl, (hW.cell (p := ⟨kb, koff, none⟩) hkl1).trans kd0⟩)
  go_region_held3 (fun W' => W'.cell? ⟨W.heap.size + 1, 0, none⟩ = some (.int .i64 12) ∧ W'.cell? ⟨W.heap.size + 1, 1, none⟩ = some (.int .i64 99) ∧ W'.cell? ⟨W.heap.size + 1, 2, none⟩ = some (.string a) ∧ W'.cell? ⟨W.heap.size + 1, 3, none⟩ = some (.string b2) ∧ W'.cell? ⟨W.heap.size + 1, 4, none⟩ = some (.slice (some ⟨kb, koff, none⟩) 2 kc) ∧ W'.cell? ⟨W.heap.size, 0, none⟩ = some (.slice a0 l0.length cap) ∧ W'.cell? ⟨W.heap.size, 1, none⟩ = some (.bool full) ∧ W'.cell? ⟨W.heap.size + 1 + 1, 0, none⟩ = some (.int .i64 p.level) ∧ W'.cell? ⟨W.heap.size + 1 + 1, 1, none⟩ = some (.bool p.dollar) ∧ W'.cell? ⟨W.heap.size + 1 + 1, 2, none⟩ = some (.bool p.noIn) ∧ W'.cell? ⟨W.heap.size + 1 + 1, 3, none⟩ = some (.bool p.noGt) ∧ W'.cell? ⟨W.heap.size + 1 + 1, 4, none⟩ = some (.bool p.noSign) ∧ W'.cell? ⟨kb, koff, none⟩ = some (.int .i64 (k0 : Nat)))
    (first
      | (refine hS.out _ ?_
         with_reducible (first
           | exact (Below.refl _ _).drew
           | exact hBk
           | exact hBl2)))
    (first
      | (go_at_call 103; refine (hkp0.out _).mono ?_; rintro e wk ⟨rfl, hbk0⟩; have hBk : Below W1.heap.size W1 wk := ((Below.refl W1.heap.size W1).drew).trans (hbk0.mono (Nat.le_refl _)); have hBWk := hB1.out.trans (hBk.mono hB1.out.size); clear hbk0)
      | (go_at_call 55; refine (hatt0.out _ hBWk).mono ?_; rintro e w2 ⟨v2, rfl, hTl⟩; have hTl2 := hTl.elder hBk; have hBl2 := hTl2.hb))
  all_goals
    have hT1 := hid hTl2
    have hB2 : Below W1.heap.size W1 w2 := hTl2.hb
    clear hTl hTl2 hBl2 hBk hBWk hS y0 y1 y2 y3 y4
  all_goals
    have hT0 := hT1
  all_goals
    have kdx := (hB2.cell (p := ⟨kb, koff + 1, none⟩) hkl1).trans kd1
    have q1 := boxb hx1.out hB2
    have y0 := (box_cells q1).1
    have y1 := (box_cells q1).2.1
    have y2 := (box_cells q1).2.2.1
    have y3 := (box_cells q1).2.2.2.1
    have y4 := (box_cells q1).2.2.2.2
    clear q1
    go_wp2_with fail
    have hS := hid (show ∀ W', Below W1.heap.size W1 W' → W'.cell? ⟨W.heap.size + 1, 0, none⟩ = some (.int .i64 12) ∧ W'.cell? ⟨W.heap.size + 1, 1, none⟩ = some (.int .i64 99) ∧ W'.cell? ⟨W.heap.size + 1, 2, none⟩ = some (.string a) ∧ W'.cell? ⟨W.heap.size + 1, 3, none⟩ = some (.string b2) ∧ W'.cell? ⟨W.heap.size + 1, 4, none⟩ = some (.slice (some ⟨kb, koff, none⟩) 2 kc) ∧ W'.cell? ⟨W.heap.size, 0, none⟩ = some (.slice a0 l0.length cap) ∧ W'.cell? ⟨W.heap.size, 1, none⟩ = some (.bool full) ∧ W'.cell? ⟨W.heap.size + 1 + 1, 0, none⟩ = some (.int .i64 p.level) ∧ W'.cell? ⟨W.heap.size + 1 + 1, 1, none⟩ = some (.bool p.dollar) ∧ W'.cell? ⟨W.heap.size + 1 + 1, 2, none⟩ = some (.bool p.noIn) ∧ W'.cell? ⟨W.heap.size + 1 + 1, 3, none⟩ = some (.bool p.noGt) ∧ W'.cell? ⟨W.heap.size + 1 + 1, 4, none⟩ = some (.bool p.noSign) ∧ W'.cell? ⟨kb, koff + 1, none⟩ = some (.int .i64 (k1 : Nat)) from fun W' hW => ⟨box_cell (boxb hx1.out hW) rfl, box_cell (boxb hx1.out hW) rfl, box_cell (boxb hx1.out hW) rfl, box_cell (boxb hx1.out hW) rfl, box_cell (boxb hx1.out hW) rfl, box_cell (boxb hx0.out hW) rfl, box_cell (boxb hx0.out hW) rfl, box_cell (boxb hx3.out hW) rfl, box_cell (boxb hx3.out hW) rfl, box_cell (boxb hx3.out hW) rfl, box_cell (boxb hx3.out hW) rfl, box_cell (boxb hx3.out hW) rfl, (hW.cell (p := ⟨kb, koff + 1, none⟩) hkl1).trans kd1⟩)
    go_region_held3 (fun W' => W'.cell? ⟨W.heap.size + 1, 0, none⟩ = some (.int .i64 12) ∧ W'.cell? ⟨W.heap.size + 1, 1, none⟩ = some (.int .i64 99) ∧ W'.cell? ⟨W.heap.size + 1, 2, none⟩ = some (.string a) ∧ W'.cell? ⟨W.heap.size + 1, 3, none⟩ = some (.string b2) ∧ W'.cell? ⟨W.heap.size + 1, 4, none⟩ = some (.slice (some ⟨kb, koff, none⟩) 2 kc) ∧ W'.cell? ⟨W.heap.size, 0, none⟩ = some (.slice a0 l0.length cap) ∧ W'.cell? ⟨W.heap.size, 1, none⟩ = some (.bool full) ∧ W'.cell? ⟨W.heap.size + 1 + 1, 0, none⟩ = some (.int .i64 p.level) ∧ W'.cell? ⟨W.heap.size + 1 + 1, 1, none⟩ = some (.bool p.dollar) ∧ W'.cell? ⟨W.heap.size + 1 + 1, 2, none⟩ = some (.bool p.noIn) ∧ W'.cell? ⟨W.heap.size + 1 + 1, 3, none⟩ = some (.bool p.noGt) ∧ W'.cell? ⟨W.heap.size + 1 + 1, 4, none⟩ = some (.bool p.noSign) ∧ W'.cell? ⟨kb, koff + 1, none⟩ = some (.int .i64 (k1 : Nat)))
      (first
        | (refine hS.out _ ?_
           with_reducible (first
             | exact hT0.out.drew.hb
             | exact hBk
             | exact hBl2
             | exact hT3.hb)))
      (first
        | (go_at_call 103; refine (hkp1.out _).mono ?_; rintro e wk ⟨rfl, hbk0⟩; have hbk : Below w2.heap.size w2 wk := ((Below.refl w2.heap.size w2).drew).trans (hbk0.mono (Nat.le_refl _)); have hTk := hT0.out.below hbk; have hBk := hTk.hb; have hBWk := hB1.out.trans (hBk.mono hB1.out.size); clear hbk0)
        | (go_at_call 55; refine (hatt1.out _ hBWk).mono ?_; rintro e wl ⟨vl, rfl, hTl⟩; have hTl2 := hTk.below hTl.hb; have hBl2 := hTl2.hb)
        | (refine step_append_tok (w := W1) (by rfl) _ _ (by rfl) v2 vl (R0) R1 (by rfl) (by rfl) hTl2 hTl (by first | omega | (simp; omega)) ?_; intro v3 w3 hT3 hfr3))
  all_goals
    have hT4 : Hid (TokAt W w3 v3 (R0 ++ R1)) := hid (by simpa [sgn] using hT3.elder hB1.out)
    obtain ⟨va, vc, rfl, _⟩ := hT4.shape
    clear hT3 hfr3 hS
    go_wp2
    go_ret
    exact ⟨_, rfl, hT4.out⟩
end Go.Proofs.YtkelhmgdajiocaaGreatDoor
/- Walks and lemmas of this seat (FSpecU): what each theorem says of the functions that it names. Conditions: those that each theorem states. -/
namespace Go.Proofs.YtkelhmgdajiocaaGreatDoor
set_option linter.unusedVariables false
set_option linter.unusedSimpArgs false
open Go.RowKit

set_option maxRecDepth 100000 in
set_option maxHeartbeats 6400000 in
theorem specl10Sides_14 {w0 : World} {l0 : List Node} {a0 : Option Addr} {cap : Nat} {full : Bool} {k0 k1 k2 kb koff kc : Nat} {o : Int} {a b2 : ByteArray} {p : Pos} (hp : posOkB p = true) (har : arity 14 3) (hop : ((14 : Nat) : Int) = 12 → opLevelB o ≠ 0)  (hat0 : SAtC w0 l0 a0 cap full k0) (hat1 : SAtC w0 l0 a0 cap full k1) (hat2 : SAtC w0 l0 a0 cap full k2) (hlen0 : ∀ q, ((treeIx l0 k0).tks full q).length ≤ 10000) (hlen1 : ∀ q, ((treeIx l0 k1).tks full q).length ≤ 10000) (hlen2 : ∀ q, ((treeIx l0 k2).tks full q).length ≤ 10000) (W : World) (hbW : Below w0.heap.size w0 W) (kc0 : W.cell? ⟨kb, koff, none⟩ = some (.int .i64 (k0 : Nat))) (kc1 : W.cell? ⟨kb, koff + 1, none⟩ = some (.int .i64 (k1 : Nat))) (kc2 : W.cell? ⟨kb, koff + 2, none⟩ = some (.int .i64 (k2 : Nat))) (hkc : 3 ≤ kc) (hkm : kc ≤ maxLen) :
    Calls Tryz.prog 105 #[.agg #[.slice a0 l0.length cap, .bool full], .agg #[.int .i64 14, .int .i64 o, .string a, .string b2, .slice (some ⟨kb, koff, none⟩) 3 kc], .agg #[.int .i64 p.level, .bool p.dollar, .bool p.noIn, .bool p.noGt, .bool p.noSign]] W fun e w' => TokPost W ((treeIx l0 k0).tks full (kidPosB 14 o 3 0 p) ++ (sgn 65 :: ((treeIx l0 k1).tks full (kidPosB 14 o 3 1 p) ++ (sgn 66 :: (treeIx l0 k2).tks full (kidPosB 14 o 3 2 p))))) e w' := by
  have hkl : kb < W.heap.size := World.block_lt_of_cell? W _ kc0
  have hq0 := hid (kidPos_ok (k := 14) (o := o) (n := 3) (j := 0) hp (by omega) (levelB_pos har.1 hop))
  have hkp0 := hid (fun W' => show Calls Tryz.prog 103 #[.agg #[.int .i64 14, .int .i64 o, .string a, .string b2, .slice (some ⟨kb, koff, none⟩) 3 kc], .int .i64 0, .agg #[.int .i64 p.level, .bool p.dollar, .bool p.noIn, .bool p.noGt, .bool p.noSign]] W' fun e w' => e = .returned (.agg #[.int .i64 (kidPosB 14 o 3 0 p).level, .bool (kidPosB 14 o 3 0 p).dollar, .bool (kidPosB 14 o 3 0 p).noIn, .bool (kidPosB 14 o 3 0 p).noGt, .bool (kidPosB 14 o 3 0 p).noSign]) ∧ Below W'.heap.size W' w' from specKidPos_any 14 o a b2 (some ⟨kb, koff, none⟩) 3 kc 0 p W' hp (by omega) har hop)
  have hatt0 := hid (fun W' (hW : Below W.heap.size W W') => hat0 (kidPosB 14 o 3 0 p) W' hq0.out (hbW.trans (hW.mono hbW.size)))
  have hq1 := hid (kidPos_ok (k := 14) (o := o) (n := 3) (j := 1) hp (by omega) (levelB_pos har.1 hop))
  have hkp1 := hid (fun W' => show Calls Tryz.prog 103 #[.agg #[.int .i64 14, .int .i64 o, .string a, .string b2, .slice (some ⟨kb, koff, none⟩) 3 kc], .int .i64 1, .agg #[.int .i64 p.level, .bool p.dollar, .bool p.noIn, .bool p.noGt, .bool p.noSign]] W' fun e w' => e = .returned (.agg #[.int .i64 (kidPosB 14 o 3 1 p).level, .bool (kidPosB 14 o 3 1 p).dollar, .bool (kidPosB 14 o 3 1 p).noIn, .bool (kidPosB 14 o 3 1 p).noGt, .bool (kidPosB 14 o 3 1 p).noSign]) ∧ Below W'.heap.size W' w' from specKidPos_any 14 o a b2 (some ⟨kb, koff, none⟩) 3 kc 1 p W' hp (by omega) har hop)
  have hatt1 := hid (fun W' (hW : Below W.heap.size W W') => hat1 (kidPosB 14 o 3 1 p) W' hq1.out (hbW.trans (hW.mono hbW.size)))
  have hq2 := hid (kidPos_ok (k := 14) (o := o) (n := 3) (j := 2) hp (by omega) (levelB_pos har.1 hop))
  have hkp2 := hid (fun W' => show Calls Tryz.prog 103 #[.agg #[.int .i64 14, .int .i64 o, .string a, .string b2, .slice (some ⟨kb, koff, none⟩) 3 kc], .int .i64 2, .agg #[.int .i64 p.level, .bool p.dollar, .bool p.noIn, .bool p.noGt, .bool p.noSign]] W' fun e w' => e = .returned (.agg #[.int .i64 (kidPosB 14 o 3 2 p).level, .bool (kidPosB 14 o 3 2 p).dollar, .bool (kidPosB 14 o 3 2 p).noIn, .bool (kidPosB 14 o 3 2 p).noGt, .bool (kidPosB 14 o 3 2 p).noSign]) ∧ Below W'.heap.size W' w' from specKidPos_any 14 o a b2 (some ⟨kb, koff, none⟩) 3 kc 2 p W' hp (by omega) har hop)
  have hatt2 := hid (fun W' (hW : Below W.heap.size W W') => hat2 (kidPosB 14 o 3 2 p) W' hq2.out (hbW.trans (hW.mono hbW.size)))
  replace hlen0 := hlen0 (kidPosB 14 o 3 0 p)
  replace hlen1 := hlen1 (kidPosB 14 o 3 1 p)
  replace hlen2 := hlen2 (kidPosB 14 o 3 2 p)
  unfold TokPost at hatt0 hatt1 hatt2
  generalize (treeIx l0 k0).tks full (kidPosB 14 o 3 0 p) = R0 at *
  generalize kidPosB 14 o 3 0 p = p0 at *
  generalize (treeIx l0 k1).tks full (kidPosB 14 o 3 1 p) = R1 at *
  generalize kidPosB 14 o 3 1 p = p1 at *
  generalize (treeIx l0 k2).tks full (kidPosB 14 o 3 2 p) = R2 at *
  generalize kidPosB 14 o 3 2 p = p2 at *
  have hB1 := hid (show Below W.heap.size W (((W.alloc (.cells #[.slice a0 l0.length cap, .bool full] 80)).alloc (.cells #[.int .i64 14, .int .i64 o, .string a, .string b2, .slice (some ⟨kb, koff, none⟩) 3 kc] 58)).alloc (.cells #[.int .i64 p.level, .bool p.dollar, .bool p.noIn, .bool p.noGt, .bool p.noSign] 36)) from (((Below.refl _ _).alloc (Nat.le_refl _) _).alloc (by simp) _).alloc (by simp <;> omega) _)
  obtain ⟨hx0, hx1, hx3⟩ := alloc3 W (.cells #[.slice a0 l0.length cap, .bool full] 80) (.cells #[.int .i64 14, .int .i64 o, .string a, .string b2, .slice (some ⟨kb, koff, none⟩) 3 kc] 58) (.cells #[.int .i64 p.level, .bool p.dollar, .bool p.noIn, .bool p.noGt, .bool p.noSign] 36)
  replace hx0 := hid hx0
  replace hx1 := hid hx1
  replace hx3 := hid hx3
  have kd0 := (hB1.out.cell (p := ⟨kb, koff, none⟩) hkl).trans kc0
  have kd1 := (hB1.out.cell (p := ⟨kb, koff + 1, none⟩) hkl).trans kc1
  have kd2 := (hB1.out.cell (p := ⟨kb, koff + 2, none⟩) hkl).trans kc2
  have hkl1 : kb < (((W.alloc (.cells #[.slice a0 l0.length cap, .bool full] 80)).alloc (.cells #[.int .i64 14, .int .i64 o, .string a, .string b2, .slice (some ⟨kb, koff, none⟩) 3 kc] 58)).alloc (.cells #[.int .i64 p.level, .bool p.dollar, .bool p.noIn, .bool p.noGt, .bool p.noSign] 36)).heap.size := Nat.lt_of_lt_of_le hkl hB1.out.size
  unfold maxLen at hkm
  clear hat0 hat1 hat2 hop har
  go_enter Tryz.func105, Tryz.ntmps105
  go_wp2_with fail
  generalize ((W.alloc (.cells #[.slice a0 l0.length cap, .bool full] 80)).alloc (.cells #[.int .i64 14, .int .i64 o, .string a, .string b2, .slice (some ⟨kb, koff, none⟩) 3 kc] 58)).alloc (.cells #[.int .i64 p.level, .bool p.dollar, .bool p.noIn, .bool p.noGt, .bool p.noSign] 36) = W1 at hB1 hx0 hx1 hx3 kd0 kd1 kd2 hkl1 ⊢
  have q1 := boxb hx1.out (Below.refl _ _)
  have y0 := (box_cells q1).1
  have y1 := (box_cells q1).2.1
  have y2 := (box_cells q1).2.2.1
  have y3 := (box_cells q1).2.2.2.1
  have y4 := (box_cells q1).2.2.2.2
  clear q1
  have hS := hid (show ∀ W', Below W1.heap.size W1 W' → W'.cell? ⟨W.heap.size + 1, 0, none⟩ = some (.int .i64 14) ∧ W'.cell? ⟨W.heap.size + 1, 1, none⟩ = some (.int .i64 o) ∧ W'.cell? ⟨W.heap.size + 1, 2, none⟩ = some (.string a) ∧ W'.cell? ⟨W.heap.size + 1, 3, none⟩ = some (.string b2) ∧ W'.cell? ⟨W.heap.size + 1, 4, none⟩ = some (.slice (some ⟨kb, koff, none⟩) 3 kc) ∧ W'.cell? ⟨W.heap.size, 0, none⟩ = some (.slice a0 l0.length cap) ∧ W'.cell? ⟨W.heap.size, 1, none⟩ = some (.bool full) ∧ W'.cell? ⟨W.heap.size + 1 + 1, 0, none⟩ = some (.int .i64 p.level) ∧ W'.cell? ⟨W.heap.size + 1 + 1, 1, none⟩ = some (.bool p.dollar) ∧ W'.cell? ⟨W.heap.size + 1 + 1, 2, none⟩ = some (.bool p.noIn) ∧ W'.cell? ⟨W.heap.size + 1 + 1, 3, none⟩ = some (.bool p.noGt) ∧ W'.cell? ⟨W.heap.size + 1 + 1, 4, none⟩ = some (.bool p.noSign) ∧ W'.cell? ⟨kb, koff, none⟩ = some (.int .i64 (k0 : Nat)) from fun W' hW => ⟨box_cell (boxb hx1.out hW) rfl, box_cell (boxb hx1.out hW) rfl, box_cell (boxb hx1.out hW) rfl, box_cell (boxb hx1.out hW) rfl, box_cell (boxb hx1.out hW) rfl, box_cell (boxb hx0.out hW) rfl, box_cell (boxb hx0.out hW) rfl, box_cell (boxb hx3.out hW) rfl, box_cell (boxb hx3.out hW) rfl, box_cell (boxb hx3.out hW) rfl, box_cell (boxb hx3.out hW) rfl, box_cell (boxb hx3.out hW) rfl, (hW.cell (p := ⟨kb, koff, none⟩) hkl1).trans kd0⟩)
  go_region_held3 (fun W' => W'.cell? ⟨W.heap.size + 1, 0, none⟩ = some (.int .i64 14) ∧ W'.cell? ⟨W.heap.size + 1, 1, none⟩ = some (.int .i64 o) ∧ W'.cell? ⟨W.heap.size + 1, 2, none⟩ = some (.string a) ∧ W'.cell? ⟨W.heap.size + 1, 3, none⟩ = some (.string b2) ∧ W'.cell? ⟨W.heap.size + 1, 4, none⟩ = some (.slice (some ⟨kb, koff, none⟩) 3 kc) ∧ W'.cell? ⟨W.heap.size, 0, none⟩ = some (.slice a0 l0.length cap) ∧ W'.cell? ⟨W.heap.size, 1, none⟩ = some (.bool full) ∧ W'.cell? ⟨W.heap.size + 1 + 1, 0, none⟩ = some (.int .i64 p.level) ∧ W'.cell? ⟨W.heap.size + 1 + 1, 1, none⟩ = some (.bool p.dollar) ∧ W'.cell? ⟨W.heap.size + 1 + 1, 2, none⟩ = some (.bool p.noIn) ∧ W'.cell? ⟨W.heap.size + 1 + 1, 3, none⟩ = some (.bool p.noGt) ∧ W'.cell? ⟨W.heap.size + 1 + 1, 4, none⟩ = some (.bool p.noSign) ∧ W'.cell? ⟨kb, koff, none⟩ = some (.int .i64 (k0 : Nat)))
    (first
      | (refine hS.out _ ?_
         with_reducible (first
           | exact (Below.refl _ _).drew
           | exact hBk
           | exact hBl2)))
    (first
      | (go_at_call 103; refine (hkp0.out _).mono ?_; rintro e wk ⟨rfl, hbk0⟩; have hBk : Below W1.heap.size W1 wk := ((Below.refl W1.heap.size W1).drew).trans (hbk0.mono (Nat.le_refl _)); have hBWk := hB1.out.trans (hBk.mono hB1.out.size); clear hbk0)
      | (go_at_call 55; refine (hatt0.out _ hBWk).mono ?_; rintro e w2 ⟨v2, rfl, hTl⟩; have hTl2 := hTl.elder hBk; have hBl2 := hTl2.hb))
  all_goals
    have hT1 := hid hTl2
    have hB2 : Below W1.heap.size W1 w2 := hTl2.hb
    clear hTl hTl2 hBl2 hBk hBWk hS y0 y1 y2 y3 y4
  all_goals
    have q1 := boxb hx1.out hB2
    have y0 := (box_cells q1).1
    have y1 := (box_cells q1).2.1
    have y2 := (box_cells q1).2.2.1
    have y3 := (box_cells q1).2.2.2.1
    have y4 := (box_cells q1).2.2.2.2
    clear q1
    go_wp2_with fail
    refine (specl10Tok_any 65 w2).mono ?_; rintro e wt ⟨rfl, hb1⟩
    have hT1b := hid (hT1.out.below hb1)
    have hlit := hid (TokAt.lit1 (w := W1) hT1b.out.hb 65 (spellB 65))
    have hTo := hid (hT1b.out.alloc (.cells #[.int .i64 65, .string (spellB 65), .int .i64 0] 50))
    clear y0 y1 y2 y3 y4 hB2
    go_wp2_with (at_builtin; refine wpList_append_tok (w := W1) (by rfl) _ _ (by rfl) v2 _ (R0) [⟨65, spellB 65, 0⟩] (by rfl) (by rfl) hTo.out hlit.out (by simp) (by simp; omega) ?_; intro v4 w4 hT2 hfr0)
    have hT0 := hid hT2
    have hB2 : Below W1.heap.size W1 w4 := hT2.hb
    clear hfr0 hlit hTo hT1b hb1 hT1 hT2
  all_goals
    have kdx := (hB2.cell (p := ⟨kb, koff + 1, none⟩) hkl1).trans kd1
    have q1 := boxb hx1.out hB2
    have y0 := (box_cells q1).1
    have y1 := (box_cells q1).2.1
    have y2 := (box_cells q1).2.2.1
    have y3 := (box_cells q1).2.2.2.1
    have y4 := (box_cells q1).2.2.2.2
    clear q1
    go_wp2_with fail
    have hS := hid (show ∀ W', Below W1.heap.size W1 W' → W'.cell? ⟨W.heap.size + 1, 0, none⟩ = some (.int .i64 14) ∧ W'.cell? ⟨W.heap.size + 1, 1, none⟩ = some (.int .i64 o) ∧ W'.cell? ⟨W.heap.size + 1, 2, none⟩ = some (.string a) ∧ W'.cell? ⟨W.heap.size + 1, 3, none⟩ = some (.string b2) ∧ W'.cell? ⟨W.heap.size + 1, 4, none⟩ = some (.slice (some ⟨kb, koff, none⟩) 3 kc) ∧ W'.cell? ⟨W.heap.size, 0, none⟩ = some (.slice a0 l0.length cap) ∧ W'.cell? ⟨W.heap.size, 1, none⟩ = some (.bool full) ∧ W'.cell? ⟨W.heap.size + 1 + 1, 0, none⟩ = some (.int .i64 p.level) ∧ W'.cell? ⟨W.heap.size + 1 + 1, 1, none⟩ = some (.bool p.dollar) ∧ W'.cell? ⟨W.heap.size + 1 + 1, 2, none⟩ = some (.bool p.noIn) ∧ W'.cell? ⟨W.heap.size + 1 + 1, 3, none⟩ = some (.bool p.noGt) ∧ W'.cell? ⟨W.heap.size + 1 + 1, 4, none⟩ = some (.bool p.noSign) ∧ W'.cell? ⟨kb, koff + 1, none⟩ = some (.int .i64 (k1 : Nat)) from fun W' hW => ⟨box_cell (boxb hx1.out hW) rfl, box_cell (boxb hx1.out hW) rfl, box_cell (boxb hx1.out hW) rfl, box_cell (boxb hx1.out hW) rfl, box_cell (boxb hx1.out hW) rfl, box_cell (boxb hx0.out hW) rfl, box_cell (boxb hx0.out hW) rfl, box_cell (boxb hx3.out hW) rfl, box_cell (boxb hx3.out hW) rfl, box_cell (boxb hx3.out hW) rfl, box_cell (boxb hx3.out hW) rfl, box_cell (boxb hx3.out hW) rfl, (hW.cell (p := ⟨kb, koff + 1, none⟩) hkl1).trans kd1⟩)
    go_region_held3 (fun W' => W'.cell? ⟨W.heap.size + 1, 0, none⟩ = some (.int .i64 14) ∧ W'.cell? ⟨W.heap.size + 1, 1, none⟩ = some (.int .i64 o) ∧ W'.cell? ⟨W.heap.size + 1, 2, none⟩ = some (.string a) ∧ W'.cell? ⟨W.heap.size + 1, 3, none⟩ = some (.string b2) ∧ W'.cell? ⟨W.heap.size + 1, 4, none⟩ = some (.slice (some ⟨kb, koff, none⟩) 3 kc) ∧ W'.cell? ⟨W.heap.size, 0, none⟩ = some (.slice a0 l0.length cap) ∧ W'.cell? ⟨W.heap.size, 1, none⟩ = some (.bool full) ∧ W'.cell? ⟨W.heap.size + 1 + 1, 0, none⟩ = some (.int .i64 p.level) ∧ W'.cell? ⟨W.heap.size + 1 + 1, 1, none⟩ = some (.bool p.dollar) ∧ W'.cell? ⟨W.heap.size + 1 + 1, 2, none⟩ = some (.bool p.noIn) ∧ W'.cell? ⟨W.heap.size + 1 + 1, 3, none⟩ = some (.bool p.noGt) ∧ W'.cell? ⟨W.heap.size + 1 + 1, 4, none⟩ = some (.bool p.noSign) ∧ W'.cell? ⟨kb, koff + 1, none⟩ = some (.int .i64 (k1 : Nat)))
      (first
        | (refine hS.out _ ?_
           with_reducible (first
             | exact hT0.out.drew.hb
             | exact hBk
             | exact hBl2
             | exact hT3.hb)))
      (first
        | (go_at_call 103; refine (hkp1.out _).mono ?_; rintro e wk ⟨rfl, hbk0⟩; have hbk : Below w4.heap.size w4 wk := ((Below.refl w4.heap.size w4).drew).trans (hbk0.mono (Nat.le_refl _)); have hTk := hT0.out.below hbk; have hBk := hTk.hb; have hBWk := hB1.out.trans (hBk.mono hB1.out.size); clear hbk0)
        | (go_at_call 55; refine (hatt1.out _ hBWk).mono ?_; rintro e wl ⟨vl, rfl, hTl⟩; have hTl2 := hTk.below hTl.hb; have hBl2 := hTl2.hb)
        | (refine step_append_tok (w := W1) (by rfl) _ _ (by rfl) v4 vl (R0 ++ [⟨65, spellB 65, 0⟩]) R1 (by rfl) (by rfl) hTl2 hTl (by first | omega | (simp; omega)) ?_; intro v5 w5 hT3 hfr3))
  all_goals
    have hT1 := hid hT3
    have hB2 : Below W1.heap.size W1 w5 := hT3.hb
    clear hT3 hfr3 hS hTl hTl2 hBl2 hBk hBWk hTk hT0 kdx y0 y1 y2 y3 y4
  all_goals
    have q1 := boxb hx1.out hB2
    have y0 := (box_cells q1).1
    have y1 := (box_cells q1).2.1
    have y2 := (box_cells q1).2.2.1
    have y3 := (box_cells q1).2.2.2.1
    have y4 := (box_cells q1).2.2.2.2
    clear q1
    go_wp2_with fail
    refine (specl10Tok_any 66 w5).mono ?_; rintro e wt ⟨rfl, hb1⟩
    have hT1b := hid (hT1.out.below hb1)
    have hlit := hid (TokAt.lit1 (w := W1) hT1b.out.hb 66 (spellB 66))
    have hTo := hid (hT1b.out.alloc (.cells #[.int .i64 66, .string (spellB 66), .int .i64 0] 50))
    clear y0 y1 y2 y3 y4 hB2
    go_wp2_with (at_builtin; refine wpList_append_tok (w := W1) (by rfl) _ _ (by rfl) v5 _ ((R0 ++ [⟨65, spellB 65, 0⟩]) ++ R1) [⟨66, spellB 66, 0⟩] (by rfl) (by rfl) hTo.out hlit.out (by simp) (by simp; omega) ?_; intro v6 w6 hT2 hfr0)
    have hT0 := hid hT2
    have hB2 : Below W1.heap.size W1 w6 := hT2.hb
    clear hfr0 hlit hTo hT1b hb1 hT1 hT2
  all_goals
    have kdx := (hB2.cell (p := ⟨kb, koff + 2, none⟩) hkl1).trans kd2
    have q1 := boxb hx1.out hB2
    have y0 := (box_cells q1).1
    have y1 := (box_cells q1).2.1
    have y2 := (box_cells q1).2.2.1
    have y3 := (box_cells q1).2.2.2.1
    have y4 := (box_cells q1).2.2.2.2
    clear q1
    go_wp2_with fail
    have hS := hid (show ∀ W', Below W1.heap.size W1 W' → W'.cell? ⟨W.heap.size + 1, 0, none⟩ = some (.int .i64 14) ∧ W'.cell? ⟨W.heap.size + 1, 1, none⟩ = some (.int .i64 o) ∧ W'.cell? ⟨W.heap.size + 1, 2, none⟩ = some (.string a) ∧ W'.cell? ⟨W.heap.size + 1, 3, none⟩ = some (.string b2) ∧ W'.cell? ⟨W.heap.size + 1, 4, none⟩ = some (.slice (some ⟨kb, koff, none⟩) 3 kc) ∧ W'.cell? ⟨W.heap.size, 0, none⟩ = some (.slice a0 l0.length cap) ∧ W'.cell? ⟨W.heap.size, 1, none⟩ = some (.bool full) ∧ W'.cell? ⟨W.heap.size + 1 + 1, 0, none⟩ = some (.int .i64 p.level) ∧ W'.cell? ⟨W.heap.size + 1 + 1, 1, none⟩ = some (.bool p.dollar) ∧ W'.cell? ⟨W.heap.size + 1 + 1, 2, none⟩ = some (.bool p.noIn) ∧ W'.cell? ⟨W.heap.size + 1 + 1, 3, none⟩ = some (.bool p.noGt) ∧ W'.cell? ⟨W.heap.size + 1 + 1, 4, none⟩ = some (.bool p.noSign) ∧ W'.cell? ⟨kb, koff + 2, none⟩ = some (.int .i64 (k2 : Nat)) from fun W' hW => ⟨box_cell (boxb hx1.out hW) rfl, box_cell (boxb hx1.out hW) rfl, box_cell (boxb hx1.out hW) rfl, box_cell (boxb hx1.out hW) rfl, box_cell (boxb hx1.out hW) rfl, box_cell (boxb hx0.out hW) rfl, box_cell (boxb hx0.out hW) rfl, box_cell (boxb hx3.out hW) rfl, box_cell (boxb hx3.out hW) rfl, box_cell (boxb hx3.out hW) rfl, box_cell (boxb hx3.out hW) rfl, box_cell (boxb hx3.out hW) rfl, (hW.cell (p := ⟨kb, koff + 2, none⟩) hkl1).trans kd2⟩)
    go_region_held3 (fun W' => W'.cell? ⟨W.heap.size + 1, 0, none⟩ = some (.int .i64 14) ∧ W'.cell? ⟨W.heap.size + 1, 1, none⟩ = some (.int .i64 o) ∧ W'.cell? ⟨W.heap.size + 1, 2, none⟩ = some (.string a) ∧ W'.cell? ⟨W.heap.size + 1, 3, none⟩ = some (.string b2) ∧ W'.cell? ⟨W.heap.size + 1, 4, none⟩ = some (.slice (some ⟨kb, koff, none⟩) 3 kc) ∧ W'.cell? ⟨W.heap.size, 0, none⟩ = some (.slice a0 l0.length cap) ∧ W'.cell? ⟨W.heap.size, 1, none⟩ = some (.bool full) ∧ W'.cell? ⟨W.heap.size + 1 + 1, 0, none⟩ = some (.int .i64 p.level) ∧ W'.cell? ⟨W.heap.size + 1 + 1, 1, none⟩ = some (.bool p.dollar) ∧ W'.cell? ⟨W.heap.size + 1 + 1, 2, none⟩ = some (.bool p.noIn) ∧ W'.cell? ⟨W.heap.size + 1 + 1, 3, none⟩ = some (.bool p.noGt) ∧ W'.cell? ⟨W.heap.size + 1 + 1, 4, none⟩ = some (.bool p.noSign) ∧ W'.cell? ⟨kb, koff + 2, none⟩ = some (.int .i64 (k2 : Nat)))
      (first
        | (refine hS.out _ ?_
           with_reducible (first
             | exact hT0.out.drew.hb
             | exact hBk
             | exact hBl2
             | exact hT3.hb)))
      (first
        | (go_at_call 103; refine (hkp2.out _).mono ?_; rintro e wk ⟨rfl, hbk0⟩; have hbk : Below w6.heap.size w6 wk := ((Below.refl w6.heap.size w6).drew).trans (hbk0.mono (Nat.le_refl _)); have hTk := hT0.out.below hbk; have hBk := hTk.hb; have hBWk := hB1.out.trans (hBk.mono hB1.out.size); clear hbk0)
        | (go_at_call 55; refine (hatt2.out _ hBWk).mono ?_; rintro e wl ⟨vl, rfl, hTl⟩; have hTl2 := hTk.below hTl.hb; have hBl2 := hTl2.hb)
        | (refine step_append_tok (w := W1) (by rfl) _ _ (by rfl) v6 vl (((R0 ++ [⟨65, spellB 65, 0⟩]) ++ R1) ++ [⟨66, spellB 66, 0⟩]) R2 (by rfl) (by rfl) hTl2 hTl (by first | omega | (simp; omega)) ?_; intro v7 w7 hT3 hfr3))
  all_goals
    have hT4 : Hid (TokAt W w7 v7 (R0 ++ (sgn 65 :: (R1 ++ (sgn 66 :: R2))))) := hid (by simpa [sgn] using hT3.elder hB1.out)
    obtain ⟨va, vc, rfl, _⟩ := hT4.shape
    clear hT3 hfr3 hS
    go_wp2
    go_ret
    exact ⟨_, rfl, hT4.out⟩
end Go.Proofs.YtkelhmgdajiocaaGreatDoor
/- Walks and lemmas of this seat (FSpecV): what each theorem says of the functions that it names. Conditions: those that each theorem states. -/
namespace Go.Proofs.YtkelhmgdajiocaaGreatDoor
set_option linter.unusedVariables false
set_option linter.unusedSimpArgs false
open Go.RowKit

set_option maxRecDepth 100000 in
set_option maxHeartbeats 6400000 in
theorem specl10Node_12 {w0 : World} {l0 : List Node} {a0 : Option Addr} {cap : Nat} {full : Bool} {i k0 k1 : Nat} {o : Int} {a b2 : ByteArray} (hv : NodeSlc w0 (.slice a0 l0.length cap) l0) (hx : l0[i]? = some ⟨12, o, a, b2, [(k0 : Int), (k1 : Int)]⟩) (har : arity 12 2) (hop : opLevelB o ≠ 0) (hat0 : SAtC w0 l0 a0 cap full k0) (hat1 : SAtC w0 l0 a0 cap full k1) (hlen0 : ∀ q, ((treeIx l0 k0).tks full q).length ≤ 10000) (hlen1 : ∀ q, ((treeIx l0 k1).tks full q).length ≤ 10000) (hT : ∀ p, posOkB p = true → (treeIx l0 i).tkb full p = (treeIx l0 k0).tks full (kidPosB 12 o 2 0 p) ++ ((if o = 99 then [] else [sgn o]) ++ (treeIx l0 k1).tks full (kidPosB 12 o 2 1 p))) : SNodeC w0 l0 a0 cap full i := by
  intro p W hp hbW
  obtain ⟨a1, cap1, he1, hm1, hc1, hsl⟩ := hv.shape
  injection he1 with e1 _ e3
  subst e1; subst e3
  have hi := (List.getElem?_eq_some_iff.1 hx).1
  obtain ⟨x, ka, kc, b, off, hx2, he2, c0, c1, c2, c3, c4, hkd⟩ := hsl.at hbW (Nat.le_refl _) hi
  obtain rfl : x = ⟨12, o, a, b2, [(k0 : Int), (k1 : Int)]⟩ := Option.some.inj (hx2.symm.trans hx)
  subst he2
  obtain ⟨_, _, _, hkv, hkc, hkm, hkrow⟩ := hkd
  simp at hkv
  obtain ⟨rfl, rfl⟩ := hkv
  have hbl : b < W.heap.size := World.block_lt_of_cell? W _ c0
  unfold maxLen at hkm
  obtain ⟨kb, koff, rfl, hkro⟩ := slc_some hkrow (by simp)
  have kc0 : W.cell? ⟨kb, koff, none⟩ = some (.int .i64 (k0 : Nat)) := by
    have := hkro.one int1_len (show [(k0 : Int), (k1 : Int)][0]? = some (k0 : Int) from rfl) rfl
    simpa using this
  have kc1 : W.cell? ⟨kb, koff + 1, none⟩ = some (.int .i64 (k1 : Nat)) := by
    have := hkro.one int1_len (show [(k0 : Int), (k1 : Int)][1]? = some (k1 : Int) from rfl) rfl
    simpa using this
  have hkl : kb < W.heap.size := World.block_lt_of_cell? W _ kc0
  have hside := hid (show ∀ W', Below W.heap.size W W' → Calls Tryz.prog 105 #[.agg #[.slice (some ⟨b, off, none⟩) l0.length cap, .bool full], .agg #[.int .i64 12, .int .i64 o, .string a, .string b2, .slice (some ⟨kb, koff, none⟩) 2 kc], .agg #[.int .i64 p.level, .bool p.dollar, .bool p.noIn, .bool p.noGt, .bool p.noSign]] W' fun e w' => TokPost W' ((treeIx l0 i).tkb full p) e w' from fun W' hW => by
    rw [hT p hp]
    by_cases ho : o = 99
    · subst ho
      rw [if_pos rfl, List.nil_append]
      exact specl10Sides_99 hp har (fun _ => hop) hat0 hat1 hlen0 hlen1 W' (hbW.trans (hW.mono hbW.size)) ((hW.cell (p := ⟨kb, koff, none⟩) hkl).trans kc0) ((hW.cell (p := ⟨kb, koff + 1, none⟩) hkl).trans kc1) (by simpa using hkc) (by unfold maxLen; omega)
    · rw [if_neg ho]
      exact specl10Sides_12 hp har (fun _ => hop) ho hat0 hat1 hlen0 hlen1 W' (hbW.trans (hW.mono hbW.size)) ((hW.cell (p := ⟨kb, koff, none⟩) hkl).trans kc0) ((hW.cell (p := ⟨kb, koff + 1, none⟩) hkl).trans kc1) (by simpa using hkc) (by unfold maxLen; omega))
  generalize (treeIx l0 i).tkb full p = RR at *
  clear hT hat0 hlen0 kc0 hat1 hlen1 kc1 hkro hkrow har hop
  have hB1 := hid (show Below W.heap.size W (((W.alloc (.cells #[.slice (some ⟨b, off, none⟩) l0.length cap, .bool full] 80)).alloc (.cells #[.int .i64 p.level, .bool p.dollar, .bool p.noIn, .bool p.noGt, .bool p.noSign] 36)).alloc (.cells #[.int .i64 12, .int .i64 o, .string a, .string b2, .slice (some ⟨kb, koff, none⟩) 2 kc] 58)) from (((Below.refl _ _).alloc (Nat.le_refl _) _).alloc (by simp) _).alloc (by simp <;> omega) _)
  obtain ⟨hx0, hx1, hx3⟩ := alloc3 W (.cells #[.slice (some ⟨b, off, none⟩) l0.length cap, .bool full] 80) (.cells #[.int .i64 p.level, .bool p.dollar, .bool p.noIn, .bool p.noGt, .bool p.noSign] 36) (.cells #[.int .i64 12, .int .i64 o, .string a, .string b2, .slice (some ⟨kb, koff, none⟩) 2 kc] 58)
  replace hx0 := hid hx0
  replace hx1 := hid hx1
  replace hx3 := hid hx3
  have hleaf := hid (fun w => specl10Leaf_any 12 o a b2 (some ⟨kb, koff, none⟩) 2 kc w)
  rw [show leafTok 12 a = ⟨0, ByteArray.empty, 0⟩ from rfl] at hleaf
  go_enter Tryz.func77, Tryz.ntmps77
  go_wp2_with fail
  generalize ((W.alloc (.cells #[.slice (some ⟨b, off, none⟩) l0.length cap, .bool full] 80)).alloc (.cells #[.int .i64 p.level, .bool p.dollar, .bool p.noIn, .bool p.noGt, .bool p.noSign] 36)).alloc (.cells #[.int .i64 12, .int .i64 o, .string a, .string b2, .slice (some ⟨kb, koff, none⟩) 2 kc] 58) = wa at hB1 hx0 hx1 hx3 ⊢
  refine (hleaf.out wa).mono ?_; rintro e wb ⟨rfl, hbb⟩
  have hB1 := hid (hB1.out.trans (hbb.mono hB1.out.size))
  have hx0 := hid (boxb hx0.out hbb)
  have hx1 := hid (boxb hx1.out hbb)
  have hx3 := hid (boxb hx3.out hbb)
  have ya := fun o' => boxb hx3.out ((Below.refl wb.heap.size wb).alloc (Nat.le_refl _) o')
  have y0 := fun o' => (box_cells (ya o')).1
  have y1 := fun o' => (box_cells (ya o')).2.1
  have y2 := fun o' => (box_cells (ya o')).2.2.1
  have y3 := fun o' => (box_cells (ya o')).2.2.2.1
  have y4 := fun o' => (box_cells (ya o')).2.2.2.2
  clear ya hbb hleaf
  have w0' := fun o' => boxb hx0.out ((Below.refl wb.heap.size wb).alloc (Nat.le_refl _) o')
  have v0 : ∀ o', (wb.alloc o').cell? ⟨W.heap.size, 0, none⟩ = some (.slice (some ⟨b, off, none⟩) l0.length cap) := fun o' => box_cell (w0' o') rfl
  have v1 : ∀ o', (wb.alloc o').cell? ⟨W.heap.size, 1, none⟩ = some (.bool full) := fun o' => box_cell (w0' o') rfl
  clear w0'
  have xa := fun o' => boxb hx1.out ((Below.refl wb.heap.size wb).alloc (Nat.le_refl _) o')
  have x0 := fun o' => (box_cells (xa o')).1
  have x1 := fun o' => (box_cells (xa o')).2.1
  have x2 := fun o' => (box_cells (xa o')).2.2.1
  have x3 := fun o' => (box_cells (xa o')).2.2.2.1
  have x4 := fun o' => (box_cells (xa o')).2.2.2.2
  clear xa
  go_wp2_with fail
  refine (hside.out _ (hB1.out.alloc hB1.out.size _)).mono ?_; rintro e w2 ⟨v2, rfl, hT2⟩
  have hT3 : Hid (TokAt W w2 v2 RR) := hid (hT2.elder (hB1.out.alloc hB1.out.size _))
  obtain ⟨va, vc, rfl, _⟩ := hT2.shape
  clear hT2 hside v0 v1 x0 x1 x2 x3 x4 y0 y1 y2 y3 y4
  go_wp2
  go_ret
  exact ⟨_, rfl, hT3.out⟩
set_option maxRecDepth 100000 in
set_option maxHeartbeats 6400000 in
theorem specl10Node_14 {w0 : World} {l0 : List Node} {a0 : Option Addr} {cap : Nat} {full : Bool} {i k0 k1 k2 : Nat} {o : Int} {a b2 : ByteArray} (hv : NodeSlc w0 (.slice a0 l0.length cap) l0) (hx : l0[i]? = some ⟨14, o, a, b2, [(k0 : Int), (k1 : Int), (k2 : Int)]⟩) (har : arity 14 3) (hat0 : SAtC w0 l0 a0 cap full k0) (hat1 : SAtC w0 l0 a0 cap full k1) (hat2 : SAtC w0 l0 a0 cap full k2) (hlen0 : ∀ q, ((treeIx l0 k0).tks full q).length ≤ 10000) (hlen1 : ∀ q, ((treeIx l0 k1).tks full q).length ≤ 10000) (hlen2 : ∀ q, ((treeIx l0 k2).tks full q).length ≤ 10000) (hT : ∀ p, posOkB p = true → (treeIx l0 i).tkb full p = (treeIx l0 k0).tks full (kidPosB 14 o 3 0 p) ++ (sgn 65 :: ((treeIx l0 k1).tks full (kidPosB 14 o 3 1 p) ++ (sgn 66 :: (treeIx l0 k2).tks full (kidPosB 14 o 3 2 p))))) : SNodeC w0 l0 a0 cap full i := by
  intro p W hp hbW
  obtain ⟨a1, cap1, he1, hm1, hc1, hsl⟩ := hv.shape
  injection he1 with e1 _ e3
  subst e1; subst e3
  have hi := (List.getElem?_eq_some_iff.1 hx).1
  obtain ⟨x, ka, kc, b, off, hx2, he2, c0, c1, c2, c3, c4, hkd⟩ := hsl.at hbW (Nat.le_refl _) hi
  obtain rfl : x = ⟨14, o, a, b2, [(k0 : Int), (k1 : Int), (k2 : Int)]⟩ := Option.some.inj (hx2.symm.trans hx)
  subst he2
  obtain ⟨_, _, _, hkv, hkc, hkm, hkrow⟩ := hkd
  simp at hkv
  obtain ⟨rfl, rfl⟩ := hkv
  have hbl : b < W.heap.size := World.block_lt_of_cell? W _ c0
  unfold maxLen at hkm
  obtain ⟨kb, koff, rfl, hkro⟩ := slc_some hkrow (by simp)
  have kc0 : W.cell? ⟨kb, koff, none⟩ = some (.int .i64 (k0 : Nat)) := by
    have := hkro.one int1_len (show [(k0 : Int), (k1 : Int), (k2 : Int)][0]? = some (k0 : Int) from rfl) rfl
    simpa using this
  have kc1 : W.cell? ⟨kb, koff + 1, none⟩ = some (.int .i64 (k1 : Nat)) := by
    have := hkro.one int1_len (show [(k0 : Int), (k1 : Int), (k2 : Int)][1]? = some (k1 : Int) from rfl) rfl
    simpa using this
  have kc2 : W.cell? ⟨kb, koff + 2, none⟩ = some (.int .i64 (k2 : Nat)) := by
    have := hkro.one int1_len (show [(k0 : Int), (k1 : Int), (k2 : Int)][2]? = some (k2 : Int) from rfl) rfl
    simpa using this
  have hkl : kb < W.heap.size := World.block_lt_of_cell? W _ kc0
  have hside := hid (show ∀ W', Below W.heap.size W W' → Calls Tryz.prog 105 #[.agg #[.slice (some ⟨b, off, none⟩) l0.length cap, .bool full], .agg #[.int .i64 14, .int .i64 o, .string a, .string b2, .slice (some ⟨kb, koff, none⟩) 3 kc], .agg #[.int .i64 p.level, .bool p.dollar, .bool p.noIn, .bool p.noGt, .bool p.noSign]] W' fun e w' => TokPost W' ((treeIx l0 i).tkb full p) e w' from fun W' hW => by
    rw [hT p hp]
    exact specl10Sides_14 hp har (fun h => absurd h (by decide)) hat0 hat1 hat2 hlen0 hlen1 hlen2 W' (hbW.trans (hW.mono hbW.size)) ((hW.cell (p := ⟨kb, koff, none⟩) hkl).trans kc0) ((hW.cell (p := ⟨kb, koff + 1, none⟩) hkl).trans kc1) ((hW.cell (p := ⟨kb, koff + 2, none⟩) hkl).trans kc2) (by simpa using hkc) (by unfold maxLen; omega))
  generalize (treeIx l0 i).tkb full p = RR at *
  clear hT hat0 hlen0 kc0 hat1 hlen1 kc1 hat2 hlen2 kc2 hkro hkrow har
  have hB1 := hid (show Below W.heap.size W (((W.alloc (.cells #[.slice (some ⟨b, off, none⟩) l0.length cap, .bool full] 80)).alloc (.cells #[.int .i64 p.level, .bool p.dollar, .bool p.noIn, .bool p.noGt, .bool p.noSign] 36)).alloc (.cells #[.int .i64 14, .int .i64 o, .string a, .string b2, .slice (some ⟨kb, koff, none⟩) 3 kc] 58)) from (((Below.refl _ _).alloc (Nat.le_refl _) _).alloc (by simp) _).alloc (by simp <;> omega) _)
  obtain ⟨hx0, hx1, hx3⟩ := alloc3 W (.cells #[.slice (some ⟨b, off, none⟩) l0.length cap, .bool full] 80) (.cells #[.int .i64 p.level, .bool p.dollar, .bool p.noIn, .bool p.noGt, .bool p.noSign] 36) (.cells #[.int .i64 14, .int .i64 o, .string a, .string b2, .slice (some ⟨kb, koff, none⟩) 3 kc] 58)
  replace hx0 := hid hx0
  replace hx1 := hid hx1
  replace hx3 := hid hx3
  have hleaf := hid (fun w => specl10Leaf_any 14 o a b2 (some ⟨kb, koff, none⟩) 3 kc w)
  rw [show leafTok 14 a = ⟨0, ByteArray.empty, 0⟩ from rfl] at hleaf
  go_enter Tryz.func77, Tryz.ntmps77
  go_wp2_with fail
  generalize ((W.alloc (.cells #[.slice (some ⟨b, off, none⟩) l0.length cap, .bool full] 80)).alloc (.cells #[.int .i64 p.level, .bool p.dollar, .bool p.noIn, .bool p.noGt, .bool p.noSign] 36)).alloc (.cells #[.int .i64 14, .int .i64 o, .string a, .string b2, .slice (some ⟨kb, koff, none⟩) 3 kc] 58) = wa at hB1 hx0 hx1 hx3 ⊢
  refine (hleaf.out wa).mono ?_; rintro e wb ⟨rfl, hbb⟩
  have hB1 := hid (hB1.out.trans (hbb.mono hB1.out.size))
  have hx0 := hid (boxb hx0.out hbb)
  have hx1 := hid (boxb hx1.out hbb)
  have hx3 := hid (boxb hx3.out hbb)
  have ya := fun o' => boxb hx3.out ((Below.refl wb.heap.size wb).alloc (Nat.le_refl _) o')
  have y0 := fun o' => (box_cells (ya o')).1
  have y1 := fun o' => (box_cells (ya o')).2.1
  have y2 := fun o' => (box_cells (ya o')).2.2.1
  have y3 := fun o' => (box_cells (ya o')).2.2.2.1
  have y4 := fun o' => (box_cells (ya o')).2.2.2.2
  clear ya hbb hleaf
  have w0' := fun o' => boxb hx0.out ((Below.refl wb.heap.size wb).alloc (Nat.le_refl _) o')
  have v0 : ∀ o', (wb.alloc o').cell? ⟨W.heap.size, 0, none⟩ = some (.slice (some ⟨b, off, none⟩) l0.length cap) := fun o' => box_cell (w0' o') rfl
  have v1 : ∀ o', (wb.alloc o').cell? ⟨W.heap.size, 1, none⟩ = some (.bool full) := fun o' => box_cell (w0' o') rfl
  clear w0'
  have xa := fun o' => boxb hx1.out ((Below.refl wb.heap.size wb).alloc (Nat.le_refl _) o')
  have x0 := fun o' => (box_cells (xa o')).1
  have x1 := fun o' => (box_cells (xa o')).2.1
  have x2 := fun o' => (box_cells (xa o')).2.2.1
  have x3 := fun o' => (box_cells (xa o')).2.2.2.1
  have x4 := fun o' => (box_cells (xa o')).2.2.2.2
  clear xa
  go_wp2_with fail
  refine (hside.out _ (hB1.out.alloc hB1.out.size _)).mono ?_; rintro e w2 ⟨v2, rfl, hT2⟩
  have hT3 : Hid (TokAt W w2 v2 RR) := hid (hT2.elder (hB1.out.alloc hB1.out.size _))
  obtain ⟨va, vc, rfl, _⟩ := hT2.shape
  clear hT2 hside v0 v1 x0 x1 x2 x3 x4 y0 y1 y2 y3 y4
  go_wp2
  go_ret
  exact ⟨_, rfl, hT3.out⟩
end Go.Proofs.YtkelhmgdajiocaaGreatDoor
/- Walks and lemmas of this seat (FSpecW): what each theorem says of the functions that it names. Conditions: those that each theorem states. -/
namespace Go.Proofs.YtkelhmgdajiocaaGreatDoor
set_option linter.unusedVariables false
set_option linter.unusedSimpArgs false
open Go.RowKit

set_option maxRecDepth 100000 in
set_option maxHeartbeats 6400000 in
theorem specl10Node_13a {w0 : World} {l0 : List Node} {a0 : Option Addr} {cap : Nat} {full : Bool} {i k0 : Nat} {o : Int} {a b2 : ByteArray} (hv : NodeSlc w0 (.slice a0 l0.length cap) l0) (hx : l0[i]? = some ⟨13, o, a, b2, [(k0 : Int)]⟩) (har : arity 13 1) (hat : SAtC w0 l0 a0 cap full k0) (hlen : ∀ q, ((treeIx l0 k0).tks full q).length ≤ 10000) (hT : ∀ p, posOkB p = true → (treeIx l0 i).tkb full p = (treeIx l0 k0).tks full (kidPosB 13 o 1 0 p) ++ [sgn 24, ⟨6, a, 0⟩]) : SNodeC w0 l0 a0 cap full i := by
  intro p W hp hbW
  obtain ⟨a1, cap1, he1, hm1, hc1, hsl⟩ := hv.shape
  injection he1 with e1 _ e3
  subst e1; subst e3
  have hi := (List.getElem?_eq_some_iff.1 hx).1
  obtain ⟨x, ka, kc, b, off, hx2, he2, c0, c1, c2, c3, c4, hkd⟩ := hsl.at hbW (Nat.le_refl _) hi
  obtain rfl : x = ⟨13, o, a, b2, [(k0 : Int)]⟩ := Option.some.inj (hx2.symm.trans hx)
  subst he2
  obtain ⟨_, _, _, hkv, hkc, hkm, hkrow⟩ := hkd
  simp at hkv
  obtain ⟨rfl, rfl⟩ := hkv
  have hbl : b < W.heap.size := World.block_lt_of_cell? W _ c0
  have hRR := hid (hT p hp)
  unfold maxLen at hkm
  obtain ⟨kb, koff, rfl, hkro⟩ := slc_some hkrow (by simp)
  have kc0 : W.cell? ⟨kb, koff, none⟩ = some (.int .i64 (k0 : Nat)) := by
    have := hkro.one int1_len (show [(k0 : Int)][0]? = some (k0 : Int) from rfl) rfl
    simpa using this
  have hkl : kb < W.heap.size := World.block_lt_of_cell? W _ kc0
  have hq := hid (kidPos_ok (k := 13) (o := o) (n := ((1 : Nat) : Int)) (j := 0) hp (by omega) (levelB_pos har.1 (by intro h; exact absurd h (by decide))))
  have hkp := hid (fun W' => show Calls Tryz.prog 103 #[.agg #[.int .i64 13, .int .i64 o, .string a, .string b2, .slice (some ⟨kb, koff, none⟩) 1 kc], .int .i64 0, .agg #[.int .i64 p.level, .bool p.dollar, .bool p.noIn, .bool p.noGt, .bool p.noSign]] W' fun e w' => e = .returned (.agg #[.int .i64 (kidPosB 13 o ((1 : Nat) : Int) 0 p).level, .bool (kidPosB 13 o ((1 : Nat) : Int) 0 p).dollar, .bool (kidPosB 13 o ((1 : Nat) : Int) 0 p).noIn, .bool (kidPosB 13 o ((1 : Nat) : Int) 0 p).noGt, .bool (kidPosB 13 o ((1 : Nat) : Int) 0 p).noSign]) ∧ Below W'.heap.size W' w' from specKidPos_any 13 o a b2 (some ⟨kb, koff, none⟩) 1 kc 0 p W' hp (by omega) har (by intro h; exact absurd h (by decide)))
  have hat' := hid (fun W' (hW : Below W.heap.size W W') => hat (kidPosB 13 o ((1 : Nat) : Int) 0 p) W' hq.out (hbW.trans (hW.mono hbW.size)))
  have hlen0 := hlen (kidPosB 13 o ((1 : Nat) : Int) 0 p)
  replace hRR : Hid ((treeIx l0 i).tkb full p = (treeIx l0 k0).tks full (kidPosB 13 o ((1 : Nat) : Int) 0 p) ++ [sgn 24, ⟨6, a, 0⟩]) := hRR
  unfold TokPost at hat'
  generalize (treeIx l0 k0).tks full (kidPosB 13 o ((1 : Nat) : Int) 0 p) = R0 at *
  generalize kidPosB 13 o ((1 : Nat) : Int) 0 p = q at *
  generalize (treeIx l0 i).tkb full p = RR at *
  clear hT har hkro hkrow hat hlen
  have hB1 := hid (show Below W.heap.size W (((W.alloc (.cells #[.slice (some ⟨b, off, none⟩) l0.length cap, .bool full] 80)).alloc (.cells #[.int .i64 p.level, .bool p.dollar, .bool p.noIn, .bool p.noGt, .bool p.noSign] 36)).alloc (.cells #[.int .i64 13, .int .i64 o, .string a, .string b2, .slice (some ⟨kb, koff, none⟩) 1 kc] 58)) from (((Below.refl _ _).alloc (Nat.le_refl _) _).alloc (by simp) _).alloc (by simp <;> omega) _)
  obtain ⟨hx0, hx1, hx3⟩ := alloc3 W (.cells #[.slice (some ⟨b, off, none⟩) l0.length cap, .bool full] 80) (.cells #[.int .i64 p.level, .bool p.dollar, .bool p.noIn, .bool p.noGt, .bool p.noSign] 36) (.cells #[.int .i64 13, .int .i64 o, .string a, .string b2, .slice (some ⟨kb, koff, none⟩) 1 kc] 58)
  replace hx0 := hid hx0
  replace hx1 := hid hx1
  replace hx3 := hid hx3
  have hleaf := hid (fun w => specl10Leaf_any 13 o a b2 (some ⟨kb, koff, none⟩) 1 kc w)
  rw [show leafTok 13 a = ⟨0, ByteArray.empty, 0⟩ from rfl] at hleaf
  go_enter Tryz.func77, Tryz.ntmps77
  go_wp2_with fail
  generalize ((W.alloc (.cells #[.slice (some ⟨b, off, none⟩) l0.length cap, .bool full] 80)).alloc (.cells #[.int .i64 p.level, .bool p.dollar, .bool p.noIn, .bool p.noGt, .bool p.noSign] 36)).alloc (.cells #[.int .i64 13, .int .i64 o, .string a, .string b2, .slice (some ⟨kb, koff, none⟩) 1 kc] 58) = wa at hB1 hx0 hx1 hx3 ⊢
  refine (hleaf.out wa).mono ?_; rintro e wb ⟨rfl, hbb⟩
  have hB1 := hid (hB1.out.trans (hbb.mono hB1.out.size))
  have hx0 := hid (boxb hx0.out hbb)
  have hx1 := hid (boxb hx1.out hbb)
  have hx3 := hid (boxb hx3.out hbb)
  have ya := fun o' => boxb hx3.out ((Below.refl wb.heap.size wb).alloc (Nat.le_refl _) o')
  have y0 := fun o' => (box_cells (ya o')).1
  have y1 := fun o' => (box_cells (ya o')).2.1
  have y2 := fun o' => (box_cells (ya o')).2.2.1
  have y3 := fun o' => (box_cells (ya o')).2.2.2.1
  have y4 := fun o' => (box_cells (ya o')).2.2.2.2
  clear ya hbb hleaf
  go_wp2_with fail
  clear y0 y1 y2 y3 y4
  have hbc : Below wb.heap.size wb (wb.alloc (.cells #[.int .i64 0, .string ByteArray.empty, .int .i64 0] 50)) := (Below.refl _ _).alloc (Nat.le_refl _) _
  have hB1 := hid (hB1.out.trans (hbc.mono hB1.out.size))
  have hx0 := hid (boxb hx0.out hbc)
  have hx1 := hid (boxb hx1.out hbc)
  have hx3 := hid (boxb hx3.out hbc)
  clear hbc
  generalize wb.alloc (.cells #[.int .i64 0, .string ByteArray.empty, .int .i64 0] 50) = W1 at hB1 hx0 hx1 hx3 ⊢
  have kc1 := (hB1.out.cell (p := ⟨kb, koff, none⟩) hkl).trans kc0
  have hkl1 : kb < W1.heap.size := Nat.lt_of_lt_of_le hkl hB1.out.size
  clear kc0
  have hS := hid (show ∀ W', Below W1.heap.size W1 W' → W'.cell? ⟨W.heap.size + 1 + 1, 0, none⟩ = some (.int .i64 13) ∧ W'.cell? ⟨W.heap.size + 1 + 1, 1, none⟩ = some (.int .i64 o) ∧ W'.cell? ⟨W.heap.size + 1 + 1, 2, none⟩ = some (.string a) ∧ W'.cell? ⟨W.heap.size + 1 + 1, 3, none⟩ = some (.string b2) ∧ W'.cell? ⟨W.heap.size + 1 + 1, 4, none⟩ = some (.slice (some ⟨kb, koff, none⟩) 1 kc) ∧ W'.cell? ⟨W.heap.size, 0, none⟩ = some (.slice (some ⟨b, off, none⟩) l0.length cap) ∧ W'.cell? ⟨W.heap.size, 1, none⟩ = some (.bool full) ∧ W'.cell? ⟨W.heap.size + 1, 0, none⟩ = some (.int .i64 p.level) ∧ W'.cell? ⟨W.heap.size + 1, 1, none⟩ = some (.bool p.dollar) ∧ W'.cell? ⟨W.heap.size + 1, 2, none⟩ = some (.bool p.noIn) ∧ W'.cell? ⟨W.heap.size + 1, 3, none⟩ = some (.bool p.noGt) ∧ W'.cell? ⟨W.heap.size + 1, 4, none⟩ = some (.bool p.noSign) ∧ W'.cell? ⟨kb, koff, none⟩ = some (.int .i64 (k0 : Nat)) from fun W' hW => ⟨box_cell (boxb hx3.out hW) rfl, box_cell (boxb hx3.out hW) rfl, box_cell (boxb hx3.out hW) rfl, box_cell (boxb hx3.out hW) rfl, box_cell (boxb hx3.out hW) rfl, box_cell (boxb hx0.out hW) rfl, box_cell (boxb hx0.out hW) rfl, box_cell (boxb hx1.out hW) rfl, box_cell (boxb hx1.out hW) rfl, box_cell (boxb hx1.out hW) rfl, box_cell (boxb hx1.out hW) rfl, box_cell (boxb hx1.out hW) rfl, (hW.cell (p := ⟨kb, koff, none⟩) hkl1).trans kc1⟩)
  go_region_held3 (fun W' => W'.cell? ⟨W.heap.size + 1 + 1, 0, none⟩ = some (.int .i64 13) ∧ W'.cell? ⟨W.heap.size + 1 + 1, 1, none⟩ = some (.int .i64 o) ∧ W'.cell? ⟨W.heap.size + 1 + 1, 2, none⟩ = some (.string a) ∧ W'.cell? ⟨W.heap.size + 1 + 1, 3, none⟩ = some (.string b2) ∧ W'.cell? ⟨W.heap.size + 1 + 1, 4, none⟩ = some (.slice (some ⟨kb, koff, none⟩) 1 kc) ∧ W'.cell? ⟨W.heap.size, 0, none⟩ = some (.slice (some ⟨b, off, none⟩) l0.length cap) ∧ W'.cell? ⟨W.heap.size, 1, none⟩ = some (.bool full) ∧ W'.cell? ⟨W.heap.size + 1, 0, none⟩ = some (.int .i64 p.level) ∧ W'.cell? ⟨W.heap.size + 1, 1, none⟩ = some (.bool p.dollar) ∧ W'.cell? ⟨W.heap.size + 1, 2, none⟩ = some (.bool p.noIn) ∧ W'.cell? ⟨W.heap.size + 1, 3, none⟩ = some (.bool p.noGt) ∧ W'.cell? ⟨W.heap.size + 1, 4, none⟩ = some (.bool p.noSign) ∧ W'.cell? ⟨kb, koff, none⟩ = some (.int .i64 (k0 : Nat)))
    (first
      | (refine hS.out _ ?_
         with_reducible (first
           | exact (Below.refl _ _).drew
           | exact hBk
           | exact hBl2)))
    (first
      | (go_at_call 103; refine (hkp.out _).mono ?_; rintro e wk ⟨rfl, hbk0⟩; have hBk : Below W1.heap.size W1 wk := ((Below.refl W1.heap.size W1).drew).trans (hbk0.mono (Nat.le_refl _)); have hBWk := hB1.out.trans (hBk.mono hB1.out.size); clear hbk0)
      | (go_at_call 55; refine (hat'.out _ hBWk).mono ?_; rintro e w2 ⟨v2, rfl, hTl⟩; have hTl2 := hTl.elder hBk; have hBl2 := hTl2.hb))
  all_goals
    have hT1 := hid hTl2
    have hB2 : Below W1.heap.size W1 w2 := hTl2.hb
    clear hTl hTl2 hBk hBWk
    obtain ⟨y0, y1, y2, y3, y4, y5, y6, y7, y8, y9, y10, y11, y12⟩ := hS.out _ hB2
    clear hBl2
    go_wp2_with fail
    clear hS y0 y1 y2 y3 y4 y5 y6 y7 y8 y9 y10 y11 y12
  all_goals
    have hS := hid (show ∀ W', Below W1.heap.size W1 W' → W'.cell? ⟨W.heap.size + 1 + 1, 2, none⟩ = some (.string a) from fun W' hW => box_cell (boxb hx3.out hW) rfl)
    go_region_held3 (fun W' => W'.cell? ⟨W.heap.size + 1 + 1, 2, none⟩ = some (.string a))
      (first
        | (refine hS.out _ ?_
           with_reducible (first
             | exact hT1.out.drew.hb
             | exact hBt
             | exact (hTt.alloc _).hb
             | exact hT3.hb)))
      (first
        | (go_at_call 79; refine (specl10Tok_any 24 _).mono ?_; rintro e wt ⟨rfl, hbt0⟩; have hbt : Below w2.heap.size w2 wt := ((Below.refl w2.heap.size w2).drew).trans (hbt0.mono (Nat.le_refl _)); have hTt := hT1.out.below hbt; have hBt := hTt.hb; clear hbt0)
        | (refine step_append_tok (w := W1) (by rfl) _ _ (by rfl) v2 _ (R0) [⟨24, spellB 24, 0⟩, ⟨6, a, 0⟩] (by rfl) (by rfl) (hTt.alloc _) (TokAt.lit2 (w := W1) hBt 24 6 (spellB 24) a) (by first | omega | (simp; omega)) ?_; intro v3 w3 hT3 hfr3))
  all_goals
    have hT4 : Hid (TokAt W w3 v3 RR) := hid (by rw [hRR.out]; simpa [sgn] using hT3.elder hB1.out)
    obtain ⟨va, vc, rfl, _⟩ := hT4.shape
    clear hT3 hfr3 hS
    go_wp2
    go_ret
    exact ⟨_, rfl, hT4.out⟩
set_option maxRecDepth 100000 in
set_option maxHeartbeats 6400000 in
theorem specl10Node_13b {w0 : World} {l0 : List Node} {a0 : Option Addr} {cap : Nat} {full : Bool} {i : Nat} {o : Int} {a b2 : ByteArray} {ks : List Int} (hv : NodeSlc w0 (.slice a0 l0.length cap) l0) (hx : l0[i]? = some ⟨13, o, a, b2, ks⟩) (har : arity 13 ks.length) (hks : ∀ k ∈ ks, 0 ≤ k ∧ SAtC w0 l0 a0 cap full k.toNat ∧ ((treeIx l0 k.toNat).tks full posTop).length ≤ 10000 ∧ (treeIx l0 k.toNat).tks full posTop ≠ []) (h1n : 1 < ks.length) (hn : ks.length ≤ 10) (hlen : (commas (ks.map fun k => (treeIx l0 k.toNat).tks full posTop)).length ≤ 200000) (hT : ∀ p, posOkB p = true → (treeIx l0 i).tkb full p = (sgn 32 :: (commas (ks.map fun k => (treeIx l0 k.toNat).tks full posTop) ++ [sgn 33])) ++ [sgn 24, ⟨6, a, 0⟩]) : SNodeC w0 l0 a0 cap full i := by
  intro p W hp hbW
  obtain ⟨a1, cap1, he1, hm1, hc1, hsl⟩ := hv.shape
  injection he1 with e1 _ e3
  subst e1; subst e3
  have hi := (List.getElem?_eq_some_iff.1 hx).1
  obtain ⟨x, ka, kc, b, off, hx2, he2, c0, c1, c2, c3, c4, hkd⟩ := hsl.at hbW (Nat.le_refl _) hi
  obtain rfl : x = ⟨13, o, a, b2, ks⟩ := Option.some.inj (hx2.symm.trans hx)
  subst he2
  obtain ⟨_, _, _, hkv, hkc, hkm, hkrow⟩ := hkd
  simp at hkv
  obtain ⟨rfl, rfl⟩ := hkv
  have hbl : b < W.heap.size := World.block_lt_of_cell? W _ c0
  have hRR := hid (hT p hp)
  unfold maxLen at hkm
  obtain ⟨q0, hq0⟩ := get_of_lt (show 0 < ks.length by omega)
  have hq9 := hks q0 (List.mem_of_getElem? hq0)
  obtain ⟨k0, rfl⟩ : ∃ k0 : Nat, q0 = (k0 : Int) := ⟨q0.toNat, by omega⟩
  have hat : SAtC w0 l0 (some ⟨b, off, none⟩) cap full k0 := by have := hq9.2.1; simpa using this
  have hlist := hid (fun W' (hW : Below W.heap.size W W') => specl10List_any ks ka kc hks hn W' (hbW.trans (hW.mono hbW.size)) ((show Slc W (.slice ka ks.length kc) 1 ks.length (ks.flatMap int1) from ⟨flat_len int1 1 int1_len ks, ka, kc, rfl, hkc, by unfold maxLen; omega, hkrow⟩).mono hW (Nat.le_refl _)))
  unfold TokPost at hlist
  generalize commas (ks.map fun k => (treeIx l0 k.toNat).tks full posTop) = R at *
  have hn1 : (1 : Int) < (ks.length : Int) := by omega
  have hn0 : (0 : Int) < (ks.length : Int) := by omega
  have hn00 : 0 < ks.length := by omega
  have hks0 : ks ≠ [] := by intro e; rw [e] at h1n; simp at h1n
  obtain ⟨kb, koff, rfl, hkro⟩ := slc_some hkrow (by show 0 < ks.length; omega)
  have kc0 : W.cell? ⟨kb, koff, none⟩ = some (.int .i64 (k0 : Nat)) := by
    have := hkro.one int1_len (hq0) rfl
    simpa using this
  have hkl : kb < W.heap.size := World.block_lt_of_cell? W _ kc0
  have hq := hid (kidPos_ok (k := 13) (o := o) (n := ((ks.length : Nat) : Int)) (j := 0) hp (by omega) (levelB_pos har.1 (by intro h; exact absurd h (by decide))))
  have hkp := hid (fun W' => show Calls Tryz.prog 103 #[.agg #[.int .i64 13, .int .i64 o, .string a, .string b2, .slice (some ⟨kb, koff, none⟩) ks.length kc], .int .i64 0, .agg #[.int .i64 p.level, .bool p.dollar, .bool p.noIn, .bool p.noGt, .bool p.noSign]] W' fun e w' => e = .returned (.agg #[.int .i64 (kidPosB 13 o ((ks.length : Nat) : Int) 0 p).level, .bool (kidPosB 13 o ((ks.length : Nat) : Int) 0 p).dollar, .bool (kidPosB 13 o ((ks.length : Nat) : Int) 0 p).noIn, .bool (kidPosB 13 o ((ks.length : Nat) : Int) 0 p).noGt, .bool (kidPosB 13 o ((ks.length : Nat) : Int) 0 p).noSign]) ∧ Below W'.heap.size W' w' from specKidPos_any 13 o a b2 (some ⟨kb, koff, none⟩) ks.length kc 0 p W' hp (by omega) har (by intro h; exact absurd h (by decide)))
  have hat' := hid (fun W' (hW : Below W.heap.size W W') => hat (kidPosB 13 o ((ks.length : Nat) : Int) 0 p) W' hq.out (hbW.trans (hW.mono hbW.size)))
  unfold TokPost at hat'
  generalize (treeIx l0 k0).tks full (kidPosB 13 o ((ks.length : Nat) : Int) 0 p) = R0 at *
  generalize kidPosB 13 o ((ks.length : Nat) : Int) 0 p = q at *
  generalize (treeIx l0 i).tkb full p = RR at *
  clear hT har hkro hkrow hks hq9 hat hq0 hn
  have hB1 := hid (show Below W.heap.size W (((W.alloc (.cells #[.slice (some ⟨b, off, none⟩) l0.length cap, .bool full] 80)).alloc (.cells #[.int .i64 p.level, .bool p.dollar, .bool p.noIn, .bool p.noGt, .bool p.noSign] 36)).alloc (.cells #[.int .i64 13, .int .i64 o, .string a, .string b2, .slice (some ⟨kb, koff, none⟩) ks.length kc] 58)) from (((Below.refl _ _).alloc (Nat.le_refl _) _).alloc (by simp) _).alloc (by simp <;> omega) _)
  obtain ⟨hx0, hx1, hx3⟩ := alloc3 W (.cells #[.slice (some ⟨b, off, none⟩) l0.length cap, .bool full] 80) (.cells #[.int .i64 p.level, .bool p.dollar, .bool p.noIn, .bool p.noGt, .bool p.noSign] 36) (.cells #[.int .i64 13, .int .i64 o, .string a, .string b2, .slice (some ⟨kb, koff, none⟩) ks.length kc] 58)
  replace hx0 := hid hx0
  replace hx1 := hid hx1
  replace hx3 := hid hx3
  have hleaf := hid (fun w => specl10Leaf_any 13 o a b2 (some ⟨kb, koff, none⟩) ks.length kc w)
  rw [show leafTok 13 a = ⟨0, ByteArray.empty, 0⟩ from rfl] at hleaf
  go_enter Tryz.func77, Tryz.ntmps77
  go_wp2_with fail
  generalize ((W.alloc (.cells #[.slice (some ⟨b, off, none⟩) l0.length cap, .bool full] 80)).alloc (.cells #[.int .i64 p.level, .bool p.dollar, .bool p.noIn, .bool p.noGt, .bool p.noSign] 36)).alloc (.cells #[.int .i64 13, .int .i64 o, .string a, .string b2, .slice (some ⟨kb, koff, none⟩) ks.length kc] 58) = wa at hB1 hx0 hx1 hx3 ⊢
  refine (hleaf.out wa).mono ?_; rintro e wb ⟨rfl, hbb⟩
  have hB1 := hid (hB1.out.trans (hbb.mono hB1.out.size))
  have hx0 := hid (boxb hx0.out hbb)
  have hx1 := hid (boxb hx1.out hbb)
  have hx3 := hid (boxb hx3.out hbb)
  have ya := fun o' => boxb hx3.out ((Below.refl wb.heap.size wb).alloc (Nat.le_refl _) o')
  have y0 := fun o' => (box_cells (ya o')).1
  have y1 := fun o' => (box_cells (ya o')).2.1
  have y2 := fun o' => (box_cells (ya o')).2.2.1
  have y3 := fun o' => (box_cells (ya o')).2.2.2.1
  have y4 := fun o' => (box_cells (ya o')).2.2.2.2
  clear ya hbb hleaf
  go_wp2_with fail
  clear y0 y1 y2 y3 y4
  have hbc : Below wb.heap.size wb (wb.alloc (.cells #[.int .i64 0, .string ByteArray.empty, .int .i64 0] 50)) := (Below.refl _ _).alloc (Nat.le_refl _) _
  have hB1 := hid (hB1.out.trans (hbc.mono hB1.out.size))
  have hx0 := hid (boxb hx0.out hbc)
  have hx1 := hid (boxb hx1.out hbc)
  have hx3 := hid (boxb hx3.out hbc)
  clear hbc
  generalize wb.alloc (.cells #[.int .i64 0, .string ByteArray.empty, .int .i64 0] 50) = W1 at hB1 hx0 hx1 hx3 ⊢
  have kc1 := (hB1.out.cell (p := ⟨kb, koff, none⟩) hkl).trans kc0
  have hkl1 : kb < W1.heap.size := Nat.lt_of_lt_of_le hkl hB1.out.size
  clear kc0
  have hS := hid (show ∀ W', Below W1.heap.size W1 W' → W'.cell? ⟨W.heap.size + 1 + 1, 0, none⟩ = some (.int .i64 13) ∧ W'.cell? ⟨W.heap.size + 1 + 1, 1, none⟩ = some (.int .i64 o) ∧ W'.cell? ⟨W.heap.size + 1 + 1, 2, none⟩ = some (.string a) ∧ W'.cell? ⟨W.heap.size + 1 + 1, 3, none⟩ = some (.string b2) ∧ W'.cell? ⟨W.heap.size + 1 + 1, 4, none⟩ = some (.slice (some ⟨kb, koff, none⟩) ks.length kc) ∧ W'.cell? ⟨W.heap.size, 0, none⟩ = some (.slice (some ⟨b, off, none⟩) l0.length cap) ∧ W'.cell? ⟨W.heap.size, 1, none⟩ = some (.bool full) ∧ W'.cell? ⟨W.heap.size + 1, 0, none⟩ = some (.int .i64 p.level) ∧ W'.cell? ⟨W.heap.size + 1, 1, none⟩ = some (.bool p.dollar) ∧ W'.cell? ⟨W.heap.size + 1, 2, none⟩ = some (.bool p.noIn) ∧ W'.cell? ⟨W.heap.size + 1, 3, none⟩ = some (.bool p.noGt) ∧ W'.cell? ⟨W.heap.size + 1, 4, none⟩ = some (.bool p.noSign) ∧ W'.cell? ⟨kb, koff, none⟩ = some (.int .i64 (k0 : Nat)) from fun W' hW => ⟨box_cell (boxb hx3.out hW) rfl, box_cell (boxb hx3.out hW) rfl, box_cell (boxb hx3.out hW) rfl, box_cell (boxb hx3.out hW) rfl, box_cell (boxb hx3.out hW) rfl, box_cell (boxb hx0.out hW) rfl, box_cell (boxb hx0.out hW) rfl, box_cell (boxb hx1.out hW) rfl, box_cell (boxb hx1.out hW) rfl, box_cell (boxb hx1.out hW) rfl, box_cell (boxb hx1.out hW) rfl, box_cell (boxb hx1.out hW) rfl, (hW.cell (p := ⟨kb, koff, none⟩) hkl1).trans kc1⟩)
  go_region_held3 (fun W' => W'.cell? ⟨W.heap.size + 1 + 1, 0, none⟩ = some (.int .i64 13) ∧ W'.cell? ⟨W.heap.size + 1 + 1, 1, none⟩ = some (.int .i64 o) ∧ W'.cell? ⟨W.heap.size + 1 + 1, 2, none⟩ = some (.string a) ∧ W'.cell? ⟨W.heap.size + 1 + 1, 3, none⟩ = some (.string b2) ∧ W'.cell? ⟨W.heap.size + 1 + 1, 4, none⟩ = some (.slice (some ⟨kb, koff, none⟩) ks.length kc) ∧ W'.cell? ⟨W.heap.size, 0, none⟩ = some (.slice (some ⟨b, off, none⟩) l0.length cap) ∧ W'.cell? ⟨W.heap.size, 1, none⟩ = some (.bool full) ∧ W'.cell? ⟨W.heap.size + 1, 0, none⟩ = some (.int .i64 p.level) ∧ W'.cell? ⟨W.heap.size + 1, 1, none⟩ = some (.bool p.dollar) ∧ W'.cell? ⟨W.heap.size + 1, 2, none⟩ = some (.bool p.noIn) ∧ W'.cell? ⟨W.heap.size + 1, 3, none⟩ = some (.bool p.noGt) ∧ W'.cell? ⟨W.heap.size + 1, 4, none⟩ = some (.bool p.noSign) ∧ W'.cell? ⟨kb, koff, none⟩ = some (.int .i64 (k0 : Nat)))
    (first
      | (refine hS.out _ ?_
         with_reducible (first
           | exact (Below.refl _ _).drew
           | exact hBk
           | exact hBl2)))
    (first
      | (go_at_call 103; refine (hkp.out _).mono ?_; rintro e wk ⟨rfl, hbk0⟩; have hBk : Below W1.heap.size W1 wk := ((Below.refl W1.heap.size W1).drew).trans (hbk0.mono (Nat.le_refl _)); have hBWk := hB1.out.trans (hBk.mono hB1.out.size); clear hbk0)
      | (go_at_call 55; refine (hat'.out _ hBWk).mono ?_; rintro e w2 ⟨v2, rfl, hTl⟩; have hTl2 := hTl.elder hBk; have hBl2 := hTl2.hb))
  all_goals
    have hT1 := hid hTl2
    have hB2 : Below W1.heap.size W1 w2 := hTl2.hb
    clear hTl hTl2 hBk hBWk
    obtain ⟨y0, y1, y2, y3, y4, y5, y6, y7, y8, y9, y10, y11, y12⟩ := hS.out _ hB2
    clear hBl2
    go_wp2_with fail
    have hB9 := hid (hB1.out.trans (hB2.mono hB1.out.size))
    have hx9 := hid (boxb hx0.out hB2)
    have hx8 := hid (boxb hx3.out hB2)
    clear hS y0 y1 y2 y3 y4 y5 y6 y7 y8 y9 y10 y11 y12 hx0 hx1 hx3 hB1 hB2 hT1 hkl1 kc1
    have hB1 := hB9
    have hx0 := hx9
    have hx3 := hx8
    clear hB9 hx9 hx8
    have hS := hid (show ∀ W', Below w2.heap.size w2 W' → Below w2.heap.size w2 W' ∧ W'.cell? ⟨W.heap.size, 0, none⟩ = some (.slice (some ⟨b, off, none⟩) l0.length cap) ∧ W'.cell? ⟨W.heap.size, 1, none⟩ = some (.bool full) ∧ W'.cell? ⟨W.heap.size + 1 + 1, 4, none⟩ = some (.slice (some ⟨kb, koff, none⟩) ks.length kc) from fun W' hW => ⟨hW, box_cell (boxb hx0.out hW) rfl, box_cell (boxb hx0.out hW) rfl, box_cell (boxb hx3.out hW) rfl⟩)
    go_region_held3 (fun W' => Below w2.heap.size w2 W' ∧ W'.cell? ⟨W.heap.size, 0, none⟩ = some (.slice (some ⟨b, off, none⟩) l0.length cap) ∧ W'.cell? ⟨W.heap.size, 1, none⟩ = some (.bool full) ∧ W'.cell? ⟨W.heap.size + 1 + 1, 4, none⟩ = some (.slice (some ⟨kb, koff, none⟩) ks.length kc))
      (first
        | (refine hS.out _ ?_
           with_reducible (first
             | exact (Below.refl _ _).drew
             | exact hBt
             | exact hBl
             | exact keep_a (by assumption) _
             | exact hT2.hb)))
      (first
        | (go_at_call 79; refine (specl10Tok_any 32 _).mono ?_; rintro e wt ⟨rfl, hbt⟩; have hBt : Below w2.heap.size w2 wt := keep_b2 (by assumption) hbt)
        | (go_at_call 104; refine (hlist.out _ (hB1.out.trans ((keep1 (w := w2) (by assumption)).mono hB1.out.size))).mono ?_; rintro e wl ⟨vl, rfl, hTl⟩; have hBl : Below w2.heap.size w2 wl := keep_b2 (by assumption) hTl.hb; have hTl1 := hTl.elder (keep1 (w := w2) (by assumption)))
        | (refine step_append_tok (w := w2) (by rfl) _ _ (by rfl) _ _ [sgn 32] R (by rfl) (by rfl)
            (by first
              | exact TokAt.lit1 hBt _ _
              | exact TokAt.lit1 hBl _ _
              | exact (TokAt.lit1 hBt _ _).below hTl.hb
              | exact (TokAt.lit1 hBt _ _).drew.below hTl.hb)
            (by first
              | exact hTl
              | exact hTl.alloc _
              | exact (hTl.below hbt).alloc _) (by first | omega | (simp; omega)) ?_; intro v5 w5 hT2 hfr))
  all_goals
    have hT1 := hid hT2
    have hB2 : Below w2.heap.size w2 w5 := hT2.hb
    clear hT2 hfr hS
    go_wp2_with fail
    refine (specl10Tok_any 33 w5).mono ?_; rintro e wt ⟨rfl, hb1⟩
    have hT1b := hid (hT1.out.below hb1)
    have hlit := hid (TokAt.lit1 (w := w2) hT1b.out.hb 33 (spellB 33))
    have hTo := hid (hT1b.out.alloc (.cells #[.int .i64 33, .string (spellB 33), .int .i64 0] 50))
    go_wp2_with (at_builtin; refine wpList_append_tok (w := w2) (by rfl) _ _ (by rfl) v5 _ ([sgn 32] ++ R) [⟨33, spellB 33, 0⟩] (by rfl) (by rfl) hTo.out hlit.out (by simp) (by simp; omega) ?_; intro v6 w6 hT6 hfr0)
    clear hlit hTo hT1b hb1 hT1
    have hT1 := hid hT6
    clear hT6 hfr0
    go_wp2_with fail
  all_goals
    have hS := hid (show ∀ W', Below w2.heap.size w2 W' → W'.cell? ⟨W.heap.size + 1 + 1, 2, none⟩ = some (.string a) from fun W' hW => box_cell (boxb hx3.out hW) rfl)
    go_region_held3 (fun W' => W'.cell? ⟨W.heap.size + 1 + 1, 2, none⟩ = some (.string a))
      (first
        | (refine hS.out _ ?_
           with_reducible (first
             | exact hT1.out.drew.hb
             | exact hBt
             | exact (hTt.alloc _).hb
             | exact hT3.hb)))
      (first
        | (go_at_call 79; refine (specl10Tok_any 24 _).mono ?_; rintro e wt ⟨rfl, hbt0⟩; have hbt : Below w6.heap.size w6 wt := ((Below.refl w6.heap.size w6).drew).trans (hbt0.mono (Nat.le_refl _)); have hTt := hT1.out.below hbt; have hBt := hTt.hb; clear hbt0)
        | (refine step_append_tok (w := w2) (by rfl) _ _ (by rfl) v6 _ (([sgn 32] ++ R) ++ [⟨33, spellB 33, 0⟩]) [⟨24, spellB 24, 0⟩, ⟨6, a, 0⟩] (by rfl) (by rfl) (hTt.alloc _) (TokAt.lit2 (w := w2) hBt 24 6 (spellB 24) a) (by first | omega | (simp; omega)) ?_; intro v3 w3 hT3 hfr3))
  all_goals
    have hT4 : Hid (TokAt W w3 v3 RR) := hid (by rw [hRR.out]; simpa [sgn] using hT3.elder hB1.out)
    obtain ⟨va, vc, rfl, _⟩ := hT4.shape
    clear hT3 hfr3 hS
    go_wp2
    go_ret
    exact ⟨_, rfl, hT4.out⟩
end Go.Proofs.YtkelhmgdajiocaaGreatDoor
