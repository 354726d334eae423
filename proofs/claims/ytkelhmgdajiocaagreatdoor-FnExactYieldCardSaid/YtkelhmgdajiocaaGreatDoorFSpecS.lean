/- Walks and lemmas of this seat (FSpecS): what each theorem says of the functions that it names. Conditions: those that each theorem states. -/
import Derived.Test.YtkelhmgdajiocaaGreatDoorFSpecR
namespace Go.Proofs.YtkelhmgdajiocaaGreatDoor
set_option linter.unusedVariables false
set_option linter.unusedSimpArgs false
open Go.RowKit

set_option maxRecDepth 100000 in
set_option maxHeartbeats 6400000 in
theorem specl10Sides_12 {w0 : World} {l0 : List Node} {a0 : Option Addr} {cap : Nat} {full : Bool} {k0 k1 kb koff kc : Nat} {o : Int} {a b2 : ByteArray} {p : Pos} (hp : posOkB p = true) (har : arity 12 2) (hop : ((12 : Nat) : Int) = 12 → opLevelB o ≠ 0) (ho : o ≠ 99) (hat0 : SAtC w0 l0 a0 cap full k0) (hat1 : SAtC w0 l0 a0 cap full k1) (hlen0 : ∀ q, ((treeIx l0 k0).tks full q).length ≤ 10000) (hlen1 : ∀ q, ((treeIx l0 k1).tks full q).length ≤ 10000) (W : World) (hbW : Below w0.heap.size w0 W) (kc0 : W.cell? ⟨kb, koff, none⟩ = some (.int .i64 (k0 : Nat))) (kc1 : W.cell? ⟨kb, koff + 1, none⟩ = some (.int .i64 (k1 : Nat))) (hkc : 2 ≤ kc) (hkm : kc ≤ maxLen) :
    Calls Tryz.prog 105 #[.agg #[.slice a0 l0.length cap, .bool full], .agg #[.int .i64 12, .int .i64 o, .string a, .string b2, .slice (some ⟨kb, koff, none⟩) 2 kc], .agg #[.int .i64 p.level, .bool p.dollar, .bool p.noIn, .bool p.noGt, .bool p.noSign]] W fun e w' => TokPost W ((treeIx l0 k0).tks full (kidPosB 12 o 2 0 p) ++ ([sgn o] ++ (treeIx l0 k1).tks full (kidPosB 12 o 2 1 p))) e w' := by
  have hkl : kb < W.heap.size := World.block_lt_of_cell? W _ kc0
  have hq0 := hid (kidPos_ok (k := 12) (o := o) (n := 2) (j := 0) hp (by omega) (levelB_pos har.1 hop))
  have hkp0 := hid (fun W' => show Calls Tryz.prog 103 #[.agg #[.int .i64 12, .int .i64 o, .string a, .string b2, .slice (some ⟨kb, koff, none⟩) 2 kc], .int .i64 0, .agg #[.int .i64 p.level, .bool p.dollar, .bool p.noIn, .bool p.noGt, .bool p.noSign]] W' fun e w' => e = .returned (.agg #[.int .i64 (kidPosB 12 o 2 0 p).level, .bool (kidPosB 12 o 2 0 p).dollar, .bool (kidPosB 12 o 2 0 p).noIn, .bool (kidPosB 12 o 2 0 p).noGt, .bool (kidPosB 12 o 2 0 p).noSign]) ∧ Below W'.heap.size W' w' from specKidPos_any 12 o a b2 (some ⟨kb, koff, none⟩) 2 kc 0 p W' hp (by omega) har hop)
  have hatt0 := hid (fun W' (hW : Below W.heap.size W W') => hat0 (kidPosB 12 o 2 0 p) W' hq0.out (hbW.trans (hW.mono hbW.size)))
  have hq1 := hid (kidPos_ok (k := 12) (o := o) (n := 2) (j := 1) hp (by omega) (levelB_pos har.1 hop))
  have hkp1 := hid (fun W' => show Calls Tryz.prog 103 #[.agg #[.int .i64 12, .int .i64 o, .string a, .string b2, .slice (some ⟨kb, koff, none⟩) 2 kc], .int .i64 1, .agg #[.int .i64 p.level, .bool p.dollar, .bool p.noIn, .bool p.noGt, .bool p.noSign]] W' fun e w' => e = .returned (.agg #[.int .i64 (kidPosB 12 o 2 1 p).level, .bool (kidPosB 12 o 2 1 p).dollar, .bool (kidPosB 12 o 2 1 p).noIn, .bool (kidPosB 12 o 2 1 p).noGt, .bool (kidPosB 12 o 2 1 p).noSign]) ∧ Below W'.heap.size W' w' from specKidPos_any 12 o a b2 (some ⟨kb, koff, none⟩) 2 kc 1 p W' hp (by omega) har hop)
  have hatt1 := hid (fun W' (hW : Below W.heap.size W W') => hat1 (kidPosB 12 o 2 1 p) W' hq1.out (hbW.trans (hW.mono hbW.size)))
  replace hlen0 := hlen0 (kidPosB 12 o 2 0 p)
  replace hlen1 := hlen1 (kidPosB 12 o 2 1 p)
  unfold TokPost at hatt0 hatt1
  generalize (treeIx l0 k0).tks full (kidPosB 12 o 2 0 p) = R0 at *
  generalize kidPosB 12 o 2 0 p = p0 at *
  generalize (treeIx l0 k1).tks full (kidPosB 12 o 2 1 p) = R1 at *
  generalize kidPosB 12 o 2 1 p = p1 at *
  have hB1 := hid (show Below W.heap.size W (((W.alloc (.cells #[.slice a0 l0.length cap, .bool full] 80)).alloc (.cells #[.int .i64 12, .int .i64 o, .string a, .string b2, .slice (some ⟨kb, koff, none⟩) 2 kc] 58)).alloc (.cells #[.int .i64 p.level, .bool p.dollar, .bool p.noIn, .bool p.noGt, .bool p.noSign] 36)) from (((Below.refl _ _).alloc (Nat.le_refl _) _).alloc (by simp) _).alloc (by simp <;> omega) _)
  obtain ⟨hx0, hx1, hx3⟩ := alloc3 W (.cells #[.slice a0 l0.length cap, .bool full] 80) (.cells #[.int .i64 12, .int .i64 o, .string a, .string b2, .slice (some ⟨kb, koff, none⟩) 2 kc] 58) (.cells #[.int .i64 p.level, .bool p.dollar, .bool p.noIn, .bool p.noGt, .bool p.noSign] 36)
  replace hx0 := hid hx0
  replace hx1 := hid hx1
  replace hx3 := hid hx3
  have kd0 := (hB1.out.cell (p := ⟨kb, koff, none⟩) hkl).trans kc0
  have kd1 := (hB1.out.cell (p := ⟨kb, koff + 1, none⟩) hkl).trans kc1
  have hkl1 : kb < (((W.alloc (.cells #[.slice a0 l0.length cap, .bool full] 80)).alloc (.cells #[.int .i64 12, .int .i64 o, .string a, .string b2, .slice (some ⟨kb, koff, none⟩) 2 kc] 58)).alloc (.cells #[.int .i64 p.level, .bool p.dollar, .bool p.noIn, .bool p.noGt, .bool p.noSign] 36)).heap.size := Nat.lt_of_lt_of_le hkl hB1.out.size
  unfold maxLen at hkm
  clear hat0 hat1
  go_enter Tryz.func105, Tryz.ntmps105
  go_wp2_with fail
  generalize ((W.alloc (.cells #[.slice a0 l0.length cap, .bool full] 80)).alloc (.cells #[.int .i64 12, .int .i64 o, .string a, .string b2, .slice (some ⟨kb, koff, none⟩) 2 kc] 58)).alloc (.cells #[.int .i64 p.level, .bool p.dollar, .bool p.noIn, .bool p.noGt, .bool p.noSign] 36) = W1 at hB1 hx0 hx1 hx3 kd0 kd1 hkl1 ⊢
  have q1 := boxb hx1.out (Below.refl _ _)
  have y0 := (box_cells q1).1
  have y1 := (box_cells q1).2.1
  have y2 := (box_cells q1).2.2.1
  have y3 := (box_cells q1).2.2.2.1
  have y4 := (box_cells q1).2.2.2.2
  clear q1
  have hS := hid (show ∀ W', Below W1.heap.size W1 W' → W'.cell? ⟨W.heap.size + 1, 0, none⟩ = some (.int .i64 12) ∧ W'.cell? ⟨W.heap.size + 1, 1, none⟩ = some (.int .i64 o) ∧ W'.cell? ⟨W.heap.size + 1, 2, none⟩ = some (.string a) ∧ W'.cell? ⟨W.heap.size + 1, 3, none⟩ = some (.string b2) ∧ W'.cell? ⟨W.heap.size + 1, 4, none⟩ = some (.slice (some ⟨kb, koff, none⟩) 2 kc) ∧ W'.cell? ⟨W.heap.size, 0, none⟩ = some (.slice a0 l0.length cap) ∧ W'.cell? ⟨W.heap.size, 1, none⟩ = some (.bool full) ∧ W'.cell? ⟨W.heap.size + 1 + 1, 0, none⟩ = some (.int .i64 p.level) ∧ W'.cell? ⟨W.heap.size + 1 + 1, 1, none⟩ = some (.bool p.dollar) ∧ W'.cell? ⟨W.heap.size + 1 + 1, 2, none⟩ = some (.bool p.noIn) ∧ W'.cell? ⟨W.heap.size + 1 + 1, 3, none⟩ = some (.bool p.noGt) ∧ W'.cell? ⟨W.heap.size + 1 + 1, 4, none⟩ = some (.bool p.noSign) ∧ W'.cell? ⟨kb, koff, none⟩ = some (.int .i64 (k0 : Nat)) from fun W' hW => ⟨box_cell (boxb hx1.out hW) rfl, box_cell (boxb hx1.out hW) rfl, box_cell (boxb hx1.out hW) rfl, box_cell (boxb hx1.out hW) rfl, box_cell (boxb hx1.out hW) rfl, box_cell (boxb hx0.out hW) rfl, box_cell (boxb hx0.out hW) rfl, box_cell (boxb hx3.out hW) rfl, box_cell (boxb hx3.out hW) rfl, box_cell (boxb hx3.out hW) rfl, box_cell (boxb hx3.out hW) rfl, box_cell (boxb hx3.out hW) rfl, (hW.cell (p := ⟨kb, koff, none⟩) hkl1).trans kd0⟩)
  go_region_held3 (fun W' => W'.cell? ⟨W.heap.size + 1, 0, none⟩ = some (.int .i64 12) ∧ W'.cell? ⟨W.heap.size + 1, 1, none⟩ = some (.int .i64 o) ∧ W'.cell? ⟨W.heap.size + 1, 2, none⟩ = some (.string a) ∧ W'.cell? ⟨W.heap.size + 1, 3, none⟩ = some (.string b2) ∧ W'.cell? ⟨W.heap.size + 1, 4, none⟩ = some (.slice (some ⟨kb, koff, none⟩) 2 kc) ∧ W'.cell? ⟨W.heap.size, 0, none⟩ = some (.slice a0 l0.length cap) ∧ W'.cell? ⟨W.heap.size, 1, none⟩ = some (.bool full) ∧ W'.cell? ⟨W.heap.size + 1 + 1, 0, none⟩ = some (.int .i64 p.level) ∧ W'.cell? ⟨W.heap.size + 1 + 1, 1, none⟩ = some (.bool p.dollar) ∧ W'.cell? ⟨W.heap.size + 1 + 1, 2, none⟩ = some (.bool p.noIn) ∧ W'.cell? ⟨W.heap.size + 1 + 1, 3, none⟩ = some (.bool p.noGt) ∧ W'.cell? ⟨W.heap.size + 1 + 1, 4, none⟩ = some (.bool p.noSign) ∧ W'.cell? ⟨kb, koff, none⟩ = some (.int .i64 (k0 : Nat)))
    (first
      | (refine hS.out _ ?_
         with_reducible (first
           | exact (Below.refl _ _).drew
           | exact hBk
           | exact hBl2
           | exact hT3.hb)))
    (first
      | (go_at_call 103; refine (hkp0.out _).mono ?_; rintro e wk ⟨rfl, hbk0⟩; have hBk : Below W1.heap.size W1 wk := ((Below.refl W1.heap.size W1).drew).trans (hbk0.mono (Nat.le_refl _)); have hBWk := hB1.out.trans (hBk.mono hB1.out.size); clear hbk0)
      | (go_at_call 55; refine (hatt0.out _ hBWk).mono ?_; rintro e w2 ⟨v2, rfl, hTl⟩; have hTl2 := hTl.elder hBk; have hBl2 := hTl2.hb))
  all_goals
    have hT1 := hid hTl2
    have hB2 : Below W1.heap.size W1 w2 := hTl2.hb
    clear hTl hTl2 hBl2 hBk hBWk hS y0 y1 y2 y3 y4
    have q1 := boxb hx1.out hB2
    have y0 := (box_cells q1).1
    have y1 := (box_cells q1).2.1
    have y2 := (box_cells q1).2.2.1
    have y3 := (box_cells q1).2.2.2.1
    have y4 := (box_cells q1).2.2.2.2
    clear q1
    go_wp2_with fail
    refine (specl10Tok_any o w2).mono ?_; rintro e wt ⟨rfl, hb1⟩
    have hT1b := hid (hT1.out.below hb1)
    have hlit := hid (TokAt.lit1 (w := W1) hT1b.out.hb o (spellB o))
    have hTo := hid (hT1b.out.alloc (.cells #[.int .i64 o, .string (spellB o), .int .i64 0] 50))
    clear y0 y1 y2 y3 y4 hB2
    go_wp2_with (at_builtin; refine wpList_append_tok (w := W1) (by rfl) _ _ (by rfl) v2 _ R0 [⟨o, spellB o, 0⟩] (by rfl) (by rfl) hTo.out hlit.out (by simp) (by simp; omega) ?_; intro v4 w4 hT2 hfr0)
    have hT0 := hid hT2
    clear hfr0 hlit hTo hT1b hb1 hT1
    have hB2 : Below W1.heap.size W1 w4 := hT2.hb
    have kd2 := (hB2.cell (p := ⟨kb, koff + 1, none⟩) hkl1).trans kd1
    clear hT2
    have q1 := boxb hx1.out hB2
    have y0 := (box_cells q1).1
    have y1 := (box_cells q1).2.1
    have y2 := (box_cells q1).2.2.1
    have y3 := (box_cells q1).2.2.2.1
    have y4 := (box_cells q1).2.2.2.2
    clear q1
    go_wp2_with fail
    have hS := hid (show ∀ W', Below W1.heap.size W1 W' → W'.cell? ⟨W.heap.size + 1, 0, none⟩ = some (.int .i64 12) ∧ W'.cell? ⟨W.heap.size + 1, 1, none⟩ = some (.int .i64 o) ∧ W'.cell? ⟨W.heap.size + 1, 2, none⟩ = some (.string a) ∧ W'.cell? ⟨W.heap.size + 1, 3, none⟩ = some (.string b2) ∧ W'.cell? ⟨W.heap.size + 1, 4, none⟩ = some (.slice (some ⟨kb, koff, none⟩) 2 kc) ∧ W'.cell? ⟨W.heap.size, 0, none⟩ = some (.slice a0 l0.length cap) ∧ W'.cell? ⟨W.heap.size, 1, none⟩ = some (.bool full) ∧ W'.cell? ⟨W.heap.size + 1 + 1, 0, none⟩ = some (.int .i64 p.level) ∧ W'.cell? ⟨W.heap.size + 1 + 1, 1, none⟩ = some (.bool p.dollar) ∧ W'.cell? ⟨W.heap.size + 1 + 1, 2, none⟩ = some (.bool p.noIn) ∧ W'.cell? ⟨W.heap.size + 1 + 1, 3, none⟩ = some (.bool p.noGt) ∧ W'.cell? ⟨W.heap.size + 1 + 1, 4, none⟩ = some (.bool p.noSign) ∧ W'.cell? ⟨kb, koff + 1, none⟩ = some (.int .i64 (k1 : Nat)) from fun W' hW => ⟨box_cell (boxb hx1.out hW) rfl, box_cell (boxb hx1.out hW) rfl, box_cell (boxb hx1.out hW) rfl, box_cell (boxb hx1.out hW) rfl, box_cell (boxb hx1.out hW) rfl, box_cell (boxb hx0.out hW) rfl, box_cell (boxb hx0.out hW) rfl, box_cell (boxb hx3.out hW) rfl, box_cell (boxb hx3.out hW) rfl, box_cell (boxb hx3.out hW) rfl, box_cell (boxb hx3.out hW) rfl, box_cell (boxb hx3.out hW) rfl, (hW.cell (p := ⟨kb, koff + 1, none⟩) hkl1).trans kd1⟩)
    go_region_held3 (fun W' => W'.cell? ⟨W.heap.size + 1, 0, none⟩ = some (.int .i64 12) ∧ W'.cell? ⟨W.heap.size + 1, 1, none⟩ = some (.int .i64 o) ∧ W'.cell? ⟨W.heap.size + 1, 2, none⟩ = some (.string a) ∧ W'.cell? ⟨W.heap.size + 1, 3, none⟩ = some (.string b2) ∧ W'.cell? ⟨W.heap.size + 1, 4, none⟩ = some (.slice (some ⟨kb, koff, none⟩) 2 kc) ∧ W'.cell? ⟨W.heap.size, 0, none⟩ = some (.slice a0 l0.length cap) ∧ W'.cell? ⟨W.heap.size, 1, none⟩ = some (.bool full) ∧ W'.cell? ⟨W.heap.size + 1 + 1, 0, none⟩ = some (.int .i64 p.level) ∧ W'.cell? ⟨W.heap.size + 1 + 1, 1, none⟩ = some (.bool p.dollar) ∧ W'.cell? ⟨W.heap.size + 1 + 1, 2, none⟩ = some (.bool p.noIn) ∧ W'.cell? ⟨W.heap.size + 1 + 1, 3, none⟩ = some (.bool p.noGt) ∧ W'.cell? ⟨W.heap.size + 1 + 1, 4, none⟩ = some (.bool p.noSign) ∧ W'.cell? ⟨kb, koff + 1, none⟩ = some (.int .i64 (k1 : Nat)))
      (first
        | (refine hS.out _ ?_
           with_reducible (first
             | exact hT0.out.drew.hb
             | exact hBk
             | exact hBl2
             | exact hT3.hb)))
      (first
        | (go_at_call 103; refine (hkp1.out _).mono ?_; rintro e wk ⟨rfl, hbk0⟩; have hbk : Below w4.heap.size w4 wk := ((Below.refl w4.heap.size w4).drew).trans (hbk0.mono (Nat.le_refl _)); have hTk := hT0.out.below hbk; have hBk := hTk.hb; have hBWk := hB1.out.trans (hBk.mono hB1.out.size); clear hbk0)
        | (go_at_call 55; refine (hatt1.out _ hBWk).mono ?_; rintro e wl ⟨vl, rfl, hTl⟩; have hTl2 := hTk.below hTl.hb; have hBl2 := hTl2.hb)
        | (refine step_append_tok (w := W1) (by rfl) _ _ (by rfl) v4 vl (R0 ++ [⟨o, spellB o, 0⟩]) R1 (by rfl) (by rfl) hTl2 hTl (by first | omega | (simp; omega)) ?_; intro v3 w3 hT3 hfr3))
  all_goals
    have hT4 : Hid (TokAt W w3 v3 (R0 ++ ([sgn o] ++ R1))) := hid (by simpa [sgn] using hT3.elder hB1.out)
    obtain ⟨va, vc, rfl, _⟩ := hT4.shape
    clear hT3 hfr3 hS
    go_wp2
    go_ret
    exact ⟨_, rfl, hT4.out⟩
end Go.Proofs.YtkelhmgdajiocaaGreatDoor
