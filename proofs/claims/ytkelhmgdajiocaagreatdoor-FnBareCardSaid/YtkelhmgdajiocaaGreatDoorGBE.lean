/- Walks and lemmas of this seat (FDrawE): what each theorem says of the functions that it names. Conditions: those that each theorem states. -/
import Derived.Test.YtkelhmgdajiocaaGreatDoorGBD
import Derived.Test.YtkelhmgdajiocaaGreatDoorGSK
import Derived.Test.YtkelhmgdajiocaaGreatDoorGHB
import Derived.Test.YtkelhmgdajiocaaGreatDoorFTok1
import Derived.Test.YtkelhmgdajiocaaGreatDoorPSpellLaw
import Derived.Test.YtkelhmgdajiocaaGreatDoorPSpecT
namespace Go.Proofs.YtkelhmgdajiocaaGreatDoor
set_option linter.unusedVariables false
set_option linter.unusedSimpArgs false
open Go.RowKit Go.Lib

/-! The drawing of an expression and of a position. -/
set_option maxRecDepth 100000 in
set_option maxHeartbeats 3200000 in
theorem specl10Draw_any (w0 w : World) (p : Nat) (bv : Value) (bs : List UInt8) (hc : Cur w0 w p bv bs) :
    Calls Tryz.prog 47 #[.pointer (some ⟨p, 0, none⟩)] w fun e w' => AnyNX w0 w p bv bs e w' := by
  have hcall := hid (specl1Once_any w0 w p bv bs 10 (by unfold I64; omega) hc)
  have hpw := hc.box.lt
  clear hc
  go_enter Tryz.func47, Tryz.ntmps47
  go_wp2_with fail
  refine hcall.out.mono ?_; rintro e w1 ⟨x, rfl, hg1, hc1⟩
  have hsp := hid (specl7Spoilt_any w0 w1 p bv bs hc1)
  have hso := hid (some_drawn w0 w1 p bv bs hc1)
  have hg := hid hg1
  clear hc1 hg1 hcall
  cases x with
  | true =>
    go_wp2_with fail
    refine hsp.out.mono ?_; rintro e w2 h
    have h := h.up hg.out
    obtain ⟨v2, l2, rfl, h1, h2, h3, h4⟩ := h
    have hfin := hid (AnyNX.of h1 h2 h3 h4)
    obtain ⟨va, vc, rfl⟩ := h3.vshape
    clear h1 h2 h3 h4 hsp hso hg
    go_wp2
    go_ret
    exact hfin.out
  | false =>
    go_wp2_with fail
    refine hso.out.mono ?_; rintro e w2 ⟨v2, l2, rfl, hg2, hc2, ho2, hs2, hn2⟩
    have h : AnyNX w0 w1 p bv bs (.returned v2) w2 := AnyNX.of hg2 hc2 (NodeSlcX.of_own ho2) (hs2.fineN hn2)
    have h := h.up hg.out
    have hfin := hid h
    obtain ⟨va, vc, rfl⟩ := (NodeSlcX.of_own ho2).vshape
    clear h hg2 hc2 ho2 hs2 hn2 hsp hso hg
    go_wp2
    go_ret
    exact hfin.out
theorem grown_oneN {w W : World} {r : Option Nat} {b j : Nat} (h : w.grownBy W r) (hb : w.heap.size ≤ b) (u : Value) : w.grownBy (W.setCell ⟨b, j, none⟩ u) r := by
  refine ⟨h.os, h.tape, h.output, by simpa using h.size, fun i hi hne => ?_⟩
  rw [heap_setCell_other _ ⟨b, j, none⟩ i u (by show i ≠ b; omega)]
  exact h.block i hi hne
theorem grown_fiveN {w W : World} {r : Option Nat} {b : Nat} (h : w.grownBy W r) (hb : w.heap.size ≤ b) (u0 u1 u2 u3 u4 : Value) : w.grownBy (((((W.setCell ⟨b, 0, none⟩ u0).setCell ⟨b, 1, none⟩ u1).setCell ⟨b, 2, none⟩ u2).setCell ⟨b, 3, none⟩ u3).setCell ⟨b, 4, none⟩ u4) r :=
  grown_oneN (grown_oneN (grown_oneN (grown_oneN (grown_oneN h hb u0) hb u1) hb u2) hb u3) hb u4
theorem cur_oneN {w0 W : World} {p b j : Nat} {bv : Value} {bs : List UInt8} (h : Cur w0 W p bv bs) (hb : p < b) (u : Value) : Cur w0 (W.setCell ⟨b, j, none⟩ u) p bv bs := h.low (s := some b) (fun g e => by cases e; exact hb) (grown_set W b j u)
theorem cur_fiveN {w0 W : World} {p b : Nat} {bv : Value} {bs : List UInt8} (h : Cur w0 W p bv bs) (hb : p < b) (u0 u1 u2 u3 u4 : Value) : Cur w0 (((((W.setCell ⟨b, 0, none⟩ u0).setCell ⟨b, 1, none⟩ u1).setCell ⟨b, 2, none⟩ u2).setCell ⟨b, 3, none⟩ u3).setCell ⟨b, 4, none⟩ u4) p bv bs :=
  cur_oneN (cur_oneN (cur_oneN (cur_oneN (cur_oneN h hb u0) hb u1) hb u2) hb u3) hb u4
def PosDrawn (w0 w : World) (p : Nat) (bv : Value) (bs : List UInt8) (e : Ending) (w' : World) : Prop :=
  ∃ q : Pos, e = .returned (.agg #[.int .i64 q.level, .bool q.dollar, .bool q.noIn, .bool q.noGt, .bool q.noSign]) ∧ w.grownBy w' (some p) ∧ Cur w0 w' p bv bs ∧ I64 q.level
set_option maxRecDepth 100000 in
set_option maxHeartbeats 3200000 in
theorem specl9Pos_any (w0 w : World) (p : Nat) (bv : Value) (bs : List UInt8) (hc : Cur w0 w p bv bs) :
    Calls Tryz.prog 48 #[.pointer (some ⟨p, 0, none⟩)] w fun e w' => PosDrawn w0 w p bv bs e w' := by
  have hpw := hc.box.lt
  have hcA := hid (hc.below ((Below.refl w.heap.size w).alloc (Nat.le_refl _) (.cells #[.int .i64 0, .bool false, .bool false, .bool false, .bool false] 36)))
  have hgA := hid (World.grownBy_alloc w (.cells #[.int .i64 0, .bool false, .bool false, .bool false, .bool false] 36) (some p))
  have hrA := hid (heap_alloc_new w (.cells #[.int .i64 0, .bool false, .bool false, .bool false, .bool false] 36))
  clear hc
  go_enter Tryz.func48, Tryz.ntmps48
  go_wp2_with fail
  generalize w.alloc (.cells #[.int .i64 0, .bool false, .bool false, .bool false, .bool false] 36) = wA at hcA hgA hrA ⊢
  refine (specl1Below_any w0 wA p bv bs 15 (by unfold I64; omega) hcA.out).mono ?_; rintro e w1 ⟨x0, rfl, hx0, hx1, _, hg1, hc1⟩
  have hx1 := hx1 (by omega)
  have hg1' := hid (grown_trans hgA.out hg1)
  have hr1 := hid ((hg1.block _ (heap_lt hrA.out) (fun e => by have := Option.some.inj e; omega)).trans hrA.out)
  replace hc1 := hid hc1
  clear hg1 hcA hgA hrA
  have hwr : IntKind.wrap .i64 (1 + x0) = 1 + x0 := wrap_in (1 + x0) (by unfold I64; omega)
  go_wp2_with fail
  refine (specl1Once_any w0 w1 p bv bs 4 (by unfold I64; omega) hc1.out).mono ?_; rintro e w2 ⟨y1, rfl, hg2, hc2⟩
  have hg2' := hid (grown_trans hg1'.out hg2)
  have hr2 := hid ((hg2.block _ (heap_lt hr1.out) (fun e => by have := Option.some.inj e; omega)).trans hr1.out)
  replace hc2 := hid hc2
  clear hg2 hc1 hg1' hr1
  go_wp2_with fail
  refine (specl1Once_any w0 w2 p bv bs 4 (by unfold I64; omega) hc2.out).mono ?_; rintro e w3 ⟨y2, rfl, hg3, hc3⟩
  have hg3' := hid (grown_trans hg2'.out hg3)
  have hr3 := hid ((hg3.block _ (heap_lt hr2.out) (fun e => by have := Option.some.inj e; omega)).trans hr2.out)
  replace hc3 := hid hc3
  clear hg3 hc2 hg2' hr2
  go_wp2_with fail
  refine (specl1Once_any w0 w3 p bv bs 4 (by unfold I64; omega) hc3.out).mono ?_; rintro e w4 ⟨y3, rfl, hg4, hc4⟩
  have hg4' := hid (grown_trans hg3'.out hg4)
  have hr4 := hid ((hg4.block _ (heap_lt hr3.out) (fun e => by have := Option.some.inj e; omega)).trans hr3.out)
  replace hc4 := hid hc4
  clear hg4 hc3 hg3' hr3
  go_wp2_with fail
  have hws4 : Hid (w.heap.size ≤ w4.heap.size) := hid hg4'.out.size
  have hlt4 : Hid (w.heap.size < w4.heap.size) := hid (heap_lt hr4.out)
  have hc5 := hid (hc4.out.below ((Below.refl w4.heap.size w4).alloc (Nat.le_refl _) (.cells #[.int .i64 (1 + x0), .bool false, .bool y1, .bool y2, .bool y3] 36)))
  have hg5 := hid (grown_al hg4'.out (.cells #[.int .i64 (1 + x0), .bool false, .bool y1, .bool y2, .bool y3] 36))
  have hr5 := hid ((Below.heap_alloc w4 (.cells #[.int .i64 (1 + x0), .bool false, .bool y1, .bool y2, .bool y3] 36) _ (heap_lt hr4.out)).trans hr4.out)
  have hb5 := hid (heap_alloc_new w4 (.cells #[.int .i64 (1 + x0), .bool false, .bool y1, .bool y2, .bool y3] 36))
  obtain ⟨g, hg⟩ : ∃ g, g = w4.heap.size := ⟨_, rfl⟩
  rw [← hg] at hb5 hws4 hlt4 ⊢
  clear hg hc4 hr4 hg4'
  generalize w4.alloc (.cells #[.int .i64 (1 + x0), .bool false, .bool y1, .bool y2, .bool y3] 36) = w5 at hc5 hg5 hr5 hb5 ⊢
  refine (specl1Below_any w0 w5 p bv bs 12 (by unfold I64; omega) hc5.out).mono ?_; rintro e w6 ⟨y, rfl, hy0, hy1, _, hg6, hc6⟩
  have hpg : Hid (p < g) := hid (by have := hlt4.out; omega)
  have hg7 := hid (grown_trans hg5.out hg6)
  have hr6 := hid ((hg6.block _ (heap_lt hr5.out) (fun e => by have := Option.some.inj e; omega)).trans hr5.out)
  have hb6 := hid ((hg6.block _ (heap_lt hb5.out) (fun e => by have := Option.some.inj e; have := hpg.out; omega)).trans hb5.out)
  replace hc6 := hid hc6
  clear hg6 hc5 hg5 hr5 hb5
  have hnb : ¬ g = w.heap.size := by have := hlt4.out; omega
  have hnb2 : ¬ w.heap.size = g := by have := hlt4.out; omega
  obtain ⟨b0, b1, b2, b3, b4⟩ := box_cells hb6.out
  have bf : ∀ j, w6.frozen? ⟨g, j, none⟩ = false := fun j => box_froz hb6.out
  have rf : ∀ j, w6.frozen? ⟨w.heap.size, j, none⟩ = false := fun j => box_froz hr6.out
  obtain ⟨r0, r1, r2, r3, r4⟩ := box_cells hr6.out
  have hnp0 := hlt4.out
  by_cases hY0 : y = 0
  · subst hY0
    go_wp2_with fail
    have hcall := hid (specl1PickInt_any w0 (w6.alloc (.cells #[.int .i64 0, .int .i64 16, .int .i64 (-1)] 3)) p bv bs [0, 16, -1] w6.heap.size 3 (by decide) (by decide) (by decide) (Nat.ne_of_gt (hc6.out.box.lt)) (rowAt_lit w6 [(.int .i64 0 : Value), .int .i64 16, .int .i64 (-1)] 3) (hc6.out.below ((Below.refl w6.heap.size w6).alloc (Nat.le_refl _) _)))
    refine hcall.out.mono ?_; rintro e w7 ⟨z, hz, rfl, hg8, hc8⟩
    have hg9 := hid (grown_trans (grown_al hg7.out _) hg8)
    have hr7 := hid ((hg8.block _ (by simp; have := heap_lt hr6.out; omega) (fun e => by have := Option.some.inj e; omega)).trans ((Below.heap_alloc w6 _ _ (heap_lt hr6.out)).trans hr6.out))
    have hb7 := hid ((hg8.block _ (by simp; have := heap_lt hb6.out; omega) (fun e => by have := Option.some.inj e; have := hpg.out; omega)).trans ((Below.heap_alloc w6 _ _ (heap_lt hb6.out)).trans hb6.out))
    have hz2 : Hid (I64 z) := hid (by
      simp only [List.mem_cons, List.not_mem_nil, or_false] at hz
      rcases hz with rfl | rfl | rfl <;> (unfold I64; omega))
    replace hc8 := hid hc8
    clear hg8 hz hcall b0 b1 b2 b3 b4 bf rf r0 r1 r2 r3 r4
    obtain ⟨b0, b1, b2, b3, b4⟩ := box_cells hb7.out
    have bf : ∀ j, w7.frozen? ⟨g, j, none⟩ = false := fun j => box_froz hb7.out
    have rf : ∀ j, w7.frozen? ⟨w.heap.size, j, none⟩ = false := fun j => box_froz hr7.out
    obtain ⟨r0, r1, r2, r3, r4⟩ := box_cells hr7.out
    go_wp2_with fail
    refine form_done (.agg #[.int .i64 z, .bool false, .bool y1, .bool y2, .bool y3]) ((heap_setCell_other w7 ⟨g, 0, none⟩ w.heap.size _ hnb2).trans hr7.out) (fun W hW => ?_) rfl ⟨⟨z, false, y1, y2, y3⟩, rfl, grown_fiveN (grown_oneN hg9.out (Nat.le_of_lt hnp0) _) (Nat.le_refl _) _ _ _ _ _, cur_fiveN (cur_oneN hc8.out hpg.out _) hpw _ _ _ _ _, hz2.out⟩
    obtain ⟨z0, z1, z2, z3, z4⟩ := box_cells hW
    simp [results, Tryz.results48, go_sem, z0, z1, z2, z3, z4]
  by_cases hY1 : y = 1
  · subst hY1
    go_wp2_with fail
    refine form_done (.agg #[.int .i64 (1 + x0), .bool true, .bool y1, .bool y2, .bool y3]) ((heap_setCell_other w6 ⟨g, 1, none⟩ w.heap.size _ hnb2).trans hr6.out) (fun W hW => ?_) rfl ⟨⟨(1 + x0), true, y1, y2, y3⟩, rfl, grown_fiveN (grown_oneN hg7.out (Nat.le_of_lt hnp0) _) (Nat.le_refl _) _ _ _ _ _, cur_fiveN (cur_oneN hc6.out hpg.out _) hpw _ _ _ _ _, (by show I64 (1 + x0); unfold I64; omega)⟩
    obtain ⟨z0, z1, z2, z3, z4⟩ := box_cells hW
    simp [results, Tryz.results48, go_sem, z0, z1, z2, z3, z4]
  by_cases hY2 : y = 2
  · subst hY2
    go_wp2_with fail
    refine form_done (.agg #[.int .i64 14, .bool true, .bool y1, .bool y2, .bool y3]) ((heap_setCell_other (w6.setCell ⟨g, 0, none⟩ (.int .i64 14)) ⟨g, 1, none⟩ w.heap.size _ hnb2).trans ((heap_setCell_other w6 ⟨g, 0, none⟩ w.heap.size _ hnb2).trans hr6.out)) (fun W hW => ?_) rfl ⟨⟨14, true, y1, y2, y3⟩, rfl, grown_fiveN (grown_oneN (grown_oneN hg7.out (Nat.le_of_lt hnp0) _) (Nat.le_of_lt hnp0) _) (Nat.le_refl _) _ _ _ _ _, cur_fiveN (cur_oneN (cur_oneN hc6.out hpg.out _) hpg.out _) hpw _ _ _ _ _, (by show I64 14; unfold I64; omega)⟩
    obtain ⟨z0, z1, z2, z3, z4⟩ := box_cells hW
    simp [results, Tryz.results48, go_sem, z0, z1, z2, z3, z4]
  by_cases hY3 : y = 3
  · subst hY3
    go_wp2_with fail
    refine form_done (.agg #[.int .i64 1, .bool false, .bool y1, .bool y2, .bool y3]) ((heap_setCell_other w6 ⟨g, 0, none⟩ w.heap.size _ hnb2).trans hr6.out) (fun W hW => ?_) rfl ⟨⟨1, false, y1, y2, y3⟩, rfl, grown_fiveN (grown_oneN hg7.out (Nat.le_of_lt hnp0) _) (Nat.le_refl _) _ _ _ _ _, cur_fiveN (cur_oneN hc6.out hpg.out _) hpw _ _ _ _ _, (by show I64 1; unfold I64; omega)⟩
    obtain ⟨z0, z1, z2, z3, z4⟩ := box_cells hW
    simp [results, Tryz.results48, go_sem, z0, z1, z2, z3, z4]
  by_cases hY4 : y = 4
  · subst hY4
    go_wp2_with fail
    refine form_done (.agg #[.int .i64 1, .bool false, .bool y1, .bool y2, .bool y3]) ((heap_setCell_other w6 ⟨g, 0, none⟩ w.heap.size _ hnb2).trans hr6.out) (fun W hW => ?_) rfl ⟨⟨1, false, y1, y2, y3⟩, rfl, grown_fiveN (grown_oneN hg7.out (Nat.le_of_lt hnp0) _) (Nat.le_refl _) _ _ _ _ _, cur_fiveN (cur_oneN hc6.out hpg.out _) hpw _ _ _ _ _, (by show I64 1; unfold I64; omega)⟩
    obtain ⟨z0, z1, z2, z3, z4⟩ := box_cells hW
    simp [results, Tryz.results48, go_sem, z0, z1, z2, z3, z4]
  by_cases hY5 : y = 5
  · subst hY5
    go_wp2_with fail
    refine form_done (.agg #[.int .i64 1, .bool false, .bool y1, .bool y2, .bool y3]) ((heap_setCell_other w6 ⟨g, 0, none⟩ w.heap.size _ hnb2).trans hr6.out) (fun W hW => ?_) rfl ⟨⟨1, false, y1, y2, y3⟩, rfl, grown_fiveN (grown_oneN hg7.out (Nat.le_of_lt hnp0) _) (Nat.le_refl _) _ _ _ _ _, cur_fiveN (cur_oneN hc6.out hpg.out _) hpw _ _ _ _ _, (by show I64 1; unfold I64; omega)⟩
    obtain ⟨z0, z1, z2, z3, z4⟩ := box_cells hW
    simp [results, Tryz.results48, go_sem, z0, z1, z2, z3, z4]
  · go_wp2_with fail
    refine form_done (.agg #[.int .i64 (1 + x0), .bool false, .bool y1, .bool y2, .bool y3]) hr6.out (fun W hW => ?_) rfl ⟨⟨(1 + x0), false, y1, y2, y3⟩, rfl, grown_fiveN hg7.out (Nat.le_refl _) _ _ _ _ _, cur_fiveN hc6.out hpw _ _ _ _ _, (by show I64 (1 + x0); unfold I64; omega)⟩
    obtain ⟨z0, z1, z2, z3, z4⟩ := box_cells hW
    simp [results, Tryz.results48, go_sem, z0, z1, z2, z3, z4]
set_option maxRecDepth 100000 in
set_option maxHeartbeats 3200000 in
theorem specDrawExprTokens_any (w : World) (bv : Value) (bs : List UInt8) (hc : Slc w bv 1 bs.length (bs.flatMap byte1)) (hs : bs.length ≤ 1048576) :
    Calls Tryz.prog 21 #[bv] w fun e w' => ∃ (v : Value) (l : List Node) (q : Pos), e = .returned (.tuple #[v, .agg #[.int .i64 q.level, .bool q.dollar, .bool q.noIn, .bool q.noGt, .bool q.noSign]]) ∧ Below w.heap.size w w' ∧ NodeSlc w' v l ∧ FineN l ∧ I64 q.level := by
  have hb0 : Below w.heap.size w (w.alloc (.cells #[.int .i64 0, .bool false, .bool false, .bool false, .bool false] 36)) := (Below.refl _ _).alloc (Nat.le_refl _) _
  have hcall := hid (specl1New_any _ bv bs (hc.mono hb0 (Nat.le_refl _)) hs)
  have hrA := hid (heap_alloc_new w (.cells #[.int .i64 0, .bool false, .bool false, .bool false, .bool false] 36))
  obtain ⟨_, a, cap, rfl, hcap, hm, hrow⟩ := hc
  clear hrow
  go_enter Tryz.func21, Tryz.ntmps21
  go_wp2_with fail
  generalize w.alloc (.cells #[.int .i64 0, .bool false, .bool false, .bool false, .bool false] 36) = wA at hcall hrA hb0 ⊢
  refine hcall.out.mono ?_; rintro e w1 ⟨p, rfl, hb1, hc1⟩
  have hr1 := hid ((hb1.block _ (heap_lt hrA.out)).trans hrA.out)
  have hpA : Hid (wA.heap.size ≤ p) := hid hc1.at_
  have hwA : Hid (w.heap.size < wA.heap.size) := hid (heap_lt hrA.out)
  have hp1 : Hid (p < w1.heap.size) := hid hc1.box.lt
  have hcall2 := hid (specl10Draw_any _ _ _ _ _ hc1)
  clear hc1 hcall hrA
  have hbw1 := hid (hb0.trans (hb1.mono hb0.size))
  clear hb1
  go_wp2_with fail
  refine hcall2.out.mono ?_; rintro e w2 ⟨v, l, rfl, hg2, hc2, ho2, hf2⟩
  have hr2 := hid ((hg2.block _ (heap_lt hr1.out) (fun e => by have := Option.some.inj e; have := hpA.out; have := hwA.out; omega)).trans hr1.out)
  have hcall3 := hid (specl9Pos_any _ _ _ _ _ hc2)
  have ho2' := hid ho2
  have hf2' := hid hf2
  have hg2' := hid hg2
  clear hcall2 hc2 ho2 hf2 hg2
  go_wp2_with fail
  refine hcall3.out.mono ?_; rintro e w3 ⟨q, rfl, hg3, hc3, hq⟩
  have hr3 := hid ((hg3.block _ (heap_lt hr2.out) (fun e => by have := Option.some.inj e; have := hpA.out; have := hwA.out; omega)).trans hr2.out)
  have hn3 := hid (ho2'.out.grown hg3 hp1.out)
  have hbw3 := hid (hc3.old)
  have hq2 := hid hq
  have hfin : Hid (Below w.heap.size w (((((w3.setCell ⟨w.heap.size, 0, none⟩ (.int .i64 q.level)).setCell ⟨w.heap.size, 1, none⟩ (.bool q.dollar)).setCell ⟨w.heap.size, 2, none⟩ (.bool q.noIn)).setCell ⟨w.heap.size, 3, none⟩ (.bool q.noGt)).setCell ⟨w.heap.size, 4, none⟩ (.bool q.noSign))) := hid (five_below (hb0.trans (hbw3.out.mono hb0.size)) (Nat.le_refl _))
  have hnod := hid (NodeSlcX.keep (S' := fun b => w1.heap.size ≤ b) (w' := (((((w3.setCell ⟨w.heap.size, 0, none⟩ (.int .i64 q.level)).setCell ⟨w.heap.size, 1, none⟩ (.bool q.dollar)).setCell ⟨w.heap.size, 2, none⟩ (.bool q.noIn)).setCell ⟨w.heap.size, 3, none⟩ (.bool q.noGt)).setCell ⟨w.heap.size, 4, none⟩ (.bool q.noSign))) hn3.out (fun b hb _ => ⟨by
    have hbn : b ≠ w.heap.size := by have := hpA.out; have := hwA.out; have := hp1.out; omega
    rw [heap_setCell_other _ ⟨w.heap.size, 4, none⟩ b _ hbn, heap_setCell_other _ ⟨w.heap.size, 3, none⟩ b _ hbn, heap_setCell_other _ ⟨w.heap.size, 2, none⟩ b _ hbn, heap_setCell_other _ ⟨w.heap.size, 1, none⟩ b _ hbn, heap_setCell_other _ ⟨w.heap.size, 0, none⟩ b _ hbn], hb⟩))
  obtain ⟨va, vc, rfl⟩ := hn3.out.vshape
  clear hg3 hc3 hq hcall3 hr2 hr1
  obtain ⟨r0, r1, r2, r3, r4⟩ := box_cells hr3.out
  have rf : ∀ j, w3.frozen? ⟨w.heap.size, j, none⟩ = false := fun j => box_froz hr3.out
  go_wp2
  refine form_done (.tuple #[.slice va l.length vc, .agg #[.int .i64 q.level, .bool q.dollar, .bool q.noIn, .bool q.noGt, .bool q.noSign]]) hr3.out (fun W hW => ?_) rfl ⟨_, l, q, rfl, hfin.out, hnod.out.slc, hf2'.out, hq2.out⟩
  obtain ⟨z0, z1, z2, z3, z4⟩ := box_cells hW
  simp [results, Tryz.results21, go_sem, z0, z1, z2, z3, z4]
end Go.Proofs.YtkelhmgdajiocaaGreatDoor
/- Walks and lemmas of this seat (FBareL): what each theorem says of the functions that it names. Conditions: those that each theorem states. -/
namespace Go.Proofs.YtkelhmgdajiocaaGreatDoor
set_option linter.unusedVariables false
set_option linter.unusedSimpArgs false
open Go.RowKit

/-! Bare and Operands at rows of which the length alone is known. BeginsOperand. -/
set_option maxRecDepth 100000 in
theorem implOperands_len (l0 : List Token) (v0 : Value) {w : World} (hn : l0.length ≤ 1048576) (hv0 : Slc w v0 3 l0.length (l0.flatMap Token.cells)) :
    Calls Tryz.prog 28 #[v0] w fun e w' => e = .returned (.int .i64 (operands l0)) ∧ Below w.heap.size w w' := by
  obtain ⟨_, a, cap, rfl, hc, hm, hrow⟩ := hv0
  unfold maxLen at hm
  go_enter Tryz.func28, Tryz.ntmps28
  go_wp2
  go_loopw [3, 8] (fun n i wr => ∃ (k q : Nat), i = .int .i64 k ∧ k ≤ l0.length ∧ n = .int .i64 q ∧ q ≤ k ∧ Below w.heap.size w wr ∧ Hid (operands l0 = q + operands (l0.drop k))) (fun _ i _ => l0.length - (intOf i).toNat)
  case atStart => exact ⟨0, 0, rfl, by omega, rfl, by omega, Below.refl _ _, by show operands l0 = 0 + operands l0; omega⟩
  obtain ⟨k, q, rfl, hk, rfl, hq, hb, hrel⟩ := hrel
  have hbs := hb.size
  by_cases hlt : k < l0.length
  · obtain ⟨x, hx⟩ := get_of_lt hlt
    obtain ⟨b, off, rfl, hro⟩ := slc_some hrow (by omega)
    have hrw := hro.mono hb (Nat.le_refl _)
    have c0 := hrw.flat0 3 Token.len hx rfl
    have c1 := hrw.flat 3 Token.len hx 1 rfl
    have c2 := hrw.flat 3 Token.len hx 2 rfl
    have hmem := List.mem_of_getElem? hx
    rw [drop_cons hx] at hrel
    have HX := hid hx
    clear hx
    go_wp2_with (go_at_call 38; refine (implisOperand_any x _).mono ?_; rintro e w' ⟨rfl, hb1⟩; have hb2 := (show Below w.heap.size w _ from by repeat (first | exact hb | refine Below.alloc ?_ (by first | omega | (simp; done) | (simp; omega)) _ | refine Below.drew ?_)).trans (hb1.mono (by simp; omega)))
    · go_roundw
      case rel => exact ⟨k + 1, q + 1, by go_num, by omega, by go_num, by omega, hb2, (ope_next hrel.out).1 (by assumption)⟩
      case measure => simp [intOf]; omega
    · go_roundw
      case rel => exact ⟨k + 1, q, by go_num, by omega, rfl, by omega, hb2, (ope_next hrel.out).2 (by assumption)⟩
      case measure => simp [intOf]; omega
  · go_wp2
    go_ret
    exact ⟨ret_int (by rw [hrel.out, List.drop_of_length_le (by omega)]; simp [operands]), hb⟩
set_option maxRecDepth 100000 in
theorem implBare_len (l0 : List Token) (v0 : Value) (a1 : Int) {w : World} (hn : l0.length ≤ 1048576) (hv0 : Slc w v0 3 l0.length (l0.flatMap Token.cells)) :
    Calls Tryz.prog 26 #[v0, .int .i64 a1] w fun e w' => e = .returned (.bool (bare a1 l0 0)) ∧ Below w.heap.size w w' := by
  obtain ⟨_, a, cap, rfl, hc, hm, hrow⟩ := hv0
  unfold maxLen at hm
  go_enter Tryz.func26, Tryz.ntmps26
  go_wp2
  go_loopw [5, 10] (fun n i wr => ∃ (k : Nat) (q : Int), i = .int .i64 k ∧ k ≤ l0.length ∧ n = .int .i64 q ∧ q ≤ k ∧ -k ≤ q ∧ Below w.heap.size w wr ∧ Hid (bare a1 l0 0 = bare a1 (l0.drop k) q)) (fun _ i _ => l0.length - (intOf i).toNat)
  case atStart => exact ⟨0, 0, rfl, by omega, rfl, by omega, by omega, Below.refl _ _, hid rfl⟩
  obtain ⟨k, q, rfl, hk, rfl, hq, hq2, hb, hrel⟩ := hrel
  have hbs := hb.size
  by_cases hlt : k < l0.length
  · obtain ⟨x, hx⟩ := get_of_lt hlt
    obtain ⟨b, off, rfl, hro⟩ := slc_some hrow (by omega)
    have hrw := hro.mono hb (Nat.le_refl _)
    have c0 := hrw.flat0 3 Token.len hx rfl
    have c1 := hrw.flat 3 Token.len hx 1 rfl
    have c2 := hrw.flat 3 Token.len hx 2 rfl
    have hmem := List.mem_of_getElem? hx
    rw [drop_cons hx] at hrel
    have HX := hid hx
    clear hx
    go_wp2_with (first | (go_at_call 53; refine (implshuts_any _ _).mono ?_; rintro e w' ⟨rfl, rfl⟩) | (go_at_call 54; refine (implopens_any _ _).mono ?_; rintro e w' ⟨rfl, rfl⟩))
    all_goals first
      | (go_ret; exact ⟨ret_bool (by rw [hrel.out, bare, if_pos (by simp_all)]), by repeat (first | exact hb | refine Below.alloc ?_ (by first | omega | (simp; done) | (simp; omega)) _ | refine Below.drew ?_)⟩)
      | (go_roundw
         · exact ⟨k + 1, _, by go_num, by omega, rfl, by omega, by omega, by repeat (first | exact hb | refine Below.alloc ?_ (by first | omega | (simp; done) | (simp; omega)) _ | refine Below.drew ?_), hid (by rw [hrel.out, bare, if_neg (by simp_all)]; simp_all)⟩
         · simp [intOf]; omega)
  · go_wp2
    go_ret
    exact ⟨ret_bool (by rw [hrel.out, List.drop_of_length_le (by omega)]; simp [bare]), hb⟩
theorem implBeginsOperand_any (k : Int) (w : World) : Calls Tryz.prog 27 #[.int .i64 k] w fun e w' => e = .returned (.bool (beginsB k)) ∧ w = w' := by
  go_enter Tryz.func27, Tryz.ntmps27
  go_wp2
  all_goals go_ret
  all_goals exact ⟨ret_bool (by unfold beginsB; simp_all), rfl⟩
/-- What the law says of the tokens. -/
theorem bare_law {l : List Node} {p : Pos} (h : exprOkB l = true) (hp : posOkB p = true) (R : List Token) (hR : R = (rootTree l).tks false p) : (p.noIn = true → bare 24 R 0 = false) ∧ (p.noGt = true → bare 62 R 0 = false) ∧ operands R = ((rootTree l).yield).length ∧ ∃ x r, R = x :: r ∧ (p.noSign = true → beginsB x.kind = true) := by
  subst hR
  obtain ⟨hto, hex, _⟩ := exprOk_facts h
  refine ⟨fun h1 => treeTks_bare (.inl rfl) hex hp ⟨fun _ => h1, fun e => absurd e (by decide)⟩, fun h1 => treeTks_bare (.inr rfl) hex hp ⟨fun e => absurd e (by decide), fun _ => h1⟩, by rw [operands_filter, Tree.tks_yield false hex p], ?_⟩
  cases hc : (rootTree l).tks false p with
  | nil => exact absurd hc (Tree.tks_ne hex p)
  | cons x r =>
    refine ⟨x, r, rfl, fun h1 => ?_⟩
    obtain ⟨y, r2, e, hb⟩ := Tree.tks_begins hex hp h1
    rw [hc] at e
    injection e with e1 _
    rw [e1]
    exact hb
end Go.Proofs.YtkelhmgdajiocaaGreatDoor
