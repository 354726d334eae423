/- Walks and lemmas of this seat (LFnBare): what each theorem says of the functions that it names. Conditions: those that each theorem states. -/
import Derived.Test.YtkelhmgdajiocaaGreatDoorGBE
import Derived.Test.YtkelhmgdajiocaaGreatDoorGYD
import Derived.Test.YtkelhmgdajiocaaGreatDoorGHB
namespace Go.Proofs.YtkelhmgdajiocaaGreatDoor
set_option linter.unusedVariables false
set_option linter.unusedSimpArgs false
open Go.RowKit Go.Lib

set_option maxRecDepth 100000 in
set_option maxHeartbeats 12800000 in
theorem lawFnBare {w : World} (bs : List UInt8) (v0 : Value) (hv0 : Slc w v0 1 bs.length (bs.flatMap byte1)) (hE0 : WordEnv w) :
    Calls Tryz.prog 5 #[v0] w fun e w' => e = .returned (.bool true) ∧ Below w.heap.size w w' := by
  have hbig := hid (lawsbig_any v0 bs w hv0)
  by_cases hs : 1048576 < bs.length
  · have hd : decide (1048576 < bs.length) = true := by simpa using hs
    rw [hd] at hbig
    obtain ⟨_, a, cap, rfl, hcap, hm, hrow⟩ := hv0
    go_enter Tryz.func5, Tryz.ntmps5
    go_wp2_with (go_at_call 20; refine hbig.out.mono ?_; rintro e w' ⟨rfl, rfl⟩)
    go_ret
    exact ⟨rfl, Below.refl _ _⟩
  have hd : decide (1048576 < bs.length) = false := by simpa using hs
  rw [hd] at hbig
  have hdraw := hid (specDrawExprTokens_any w v0 bs hv0 (by omega))
  have hat := hid (fun (i : Int) (hi : 0 ≤ i ∧ i ≤ 1000) W (hb : Below w.heap.size w W) => lawsat_any v0 bs i hi W (hv0.mono hb (Nat.le_refl _)) (by omega))
  obtain ⟨_, a, cap, rfl, hcap, hm, _⟩ := hv0
  clear hd hs
  go_enter Tryz.func5, Tryz.ntmps5
  go_wp2_with (go_at_call 20; refine hbig.out.mono ?_; rintro e w' ⟨rfl, hw'⟩; subst w')
  refine hdraw.out.mono ?_; rintro e w1 ⟨v, l, q, rfl, hbw, hD, hfn, hq⟩
  have hf := hfn.fine
  obtain ⟨va, vc, rfl, hvm, hvc, hsl⟩ := hD.shape
  have hn0 : bulk Node.sizes l ≤ 1048576 := by omega
  have hb2 := hid (hbw.alloc hbw.size (.cells #[.int .i64 q.level, .bool q.dollar, .bool q.noIn, .bool q.noGt, .bool q.noSign] 36))
  obtain ⟨lv, dl, n1, n2, n3⟩ := q
  simp only at hb2 hq
  go_wp2_with fail
  refine (hat.out 0 (by omega) _ hb2.out).mono ?_; rintro e w2 ⟨x0, h00, h01, rfl, hw2⟩; subst w2
  go_wp2_with fail
  generalize (x0 % 2 == 0) = B0
  have hb3 := hid (hbw.alloc hbw.size (.cells #[.int .i64 lv, .bool dl, .bool B0, .bool n2, .bool n3] 36))
  refine (hat.out 1 (by omega) _ hb3.out).mono ?_; rintro e w2 ⟨x1, h10, h11, rfl, hw2⟩; subst w2
  go_wp2_with fail
  generalize (x1 % 2 == 0) = B1
  have hb4 := hid (hbw.alloc hbw.size (.cells #[.int .i64 lv, .bool dl, .bool B0, .bool B1, .bool n3] 36))
  refine (hat.out 2 (by omega) _ hb4.out).mono ?_; rintro e w2 ⟨x2, h20, h21, rfl, hw2⟩; subst w2
  go_wp2_with fail
  generalize (x2 % 2 == 0) = B2
  have hb5 := hid (hbw.alloc hbw.size (.cells #[.int .i64 lv, .bool dl, .bool B0, .bool B1, .bool B2] 36))
  have hD5 := hid (hD.mono ((Below.refl w1.heap.size w1).alloc (Nat.le_refl _) (.cells #[.int .i64 lv, .bool dl, .bool B0, .bool B1, .bool B2] 36)) (Nat.le_refl _))
  have hbx := hid (heap_alloc_new w1 (.cells #[.int .i64 lv, .bool dl, .bool B0, .bool B1, .bool B2] 36))
  obtain ⟨g, hg⟩ : ∃ g, g = w1.heap.size := ⟨_, rfl⟩
  rw [← hg] at hbx ⊢
  clear hb2 hb3 hb4 h00 h01 h10 h11 h20 h21 hsl hdraw hat hbig hD hg
  generalize w1.alloc (.cells #[.int .i64 lv, .bool dl, .bool B0, .bool B1, .bool B2] 36) = w3 at hb5 hD5 hbx ⊢
  have hcall := hid (implExprTokens_any l _ ⟨lv, dl, B0, B1, B2⟩ w3 hf.1 hn0 hD5.out hq (hE0.below hb5.out))
  refine hcall.out.mono ?_; rintro e w4 ⟨tv, rfl, hbt, hot⟩
  have hb6 := hid (hb5.out.trans (hbt.mono hb5.out.size))
  have hD6 := hid (hD5.out.mono hbt (Nat.le_refl _))
  have hbx6 := hid ((hbt.block _ (heap_lt hbx.out)).trans hbx.out)
  have hok := hid (specExprOk_any l _ w4 hf.1 hn0 hD6.out)
  have hpos := hid (fun W => specPosOk_any ⟨lv, dl, B0, B1, B2⟩ W)
  unfold Pos.val at hpos
  simp only at hpos
  clear hcall hb5 hD5 hbx hbt
  obtain ⟨z0, z1, z2, z3, z4⟩ := box_cells hbx6.out
  cases he : exprOkB l with
  | false =>
    have hR : exprToks l ⟨lv, dl, B0, B1, B2⟩ = [] := by unfold exprToks; rw [he]; simp
    rw [hR] at hot
    rw [he] at hok
    obtain ⟨ta, tc, rfl, _⟩ := own_slice hot
    clear hR he hot hpos
    go_wp2_with (go_at_call 24; refine hok.out.mono ?_; rintro e w5 ⟨rfl, hb7⟩)
    go_ret
    exact ⟨rfl, hb6.out.trans (hb7.mono hb6.out.size)⟩
  | true =>
  cases hpp : posOkB ⟨lv, dl, B0, B1, B2⟩ with
  | false =>
    have hR : exprToks l ⟨lv, dl, B0, B1, B2⟩ = [] := by unfold exprToks; rw [hpp]; simp
    rw [hR] at hot
    rw [he] at hok
    rw [hpp] at hpos
    obtain ⟨ta, tc, rfl, _⟩ := own_slice hot
    clear hR he hot hpp
    go_wp2_with (first
      | (go_at_call 24; refine hok.out.mono ?_; rintro e w5 ⟨rfl, hb7⟩; obtain ⟨y0, y1, y2, y3, y4⟩ := box_cells ((hb7.block _ (heap_lt hbx6.out)).trans hbx6.out))
      | (go_at_call 25; refine (hpos.out _).mono ?_; rintro e w6 ⟨rfl, hw6⟩; subst hw6))
    go_ret
    exact ⟨rfl, (hb6.out.trans (hb7.mono hb6.out.size)).alloc (Nat.le_trans hb6.out.size hb7.size) _⟩
  | true =>
    have hR : exprToks l ⟨lv, dl, B0, B1, B2⟩ = (rootTree l).tks false ⟨lv, dl, B0, B1, B2⟩ := by unfold exprToks; rw [if_pos ⟨he, hpp⟩]
    obtain ⟨k24, k62, hopn, x, r, hxr, hbeg⟩ := bare_law he hpp _ hR
    have hyt : yieldToks l = (rootTree l).yield := by unfold yieldToks; rw [if_pos he]
    have hlen := exprToks_len l ⟨lv, dl, B0, B1, B2⟩
    rw [← hyt] at hopn
    have hyield := hid (fun W (h : Below w4.heap.size w4 W) => implYield_any l _ W hf.1 hn0 (hD6.out.mono h (Nat.le_refl _)) (hE0.below (hb6.out.trans (h.mono hb6.out.size))))
    have hops := hid (fun W (h : Below w4.heap.size w4 W) => implOperands_len (exprToks l ⟨lv, dl, B0, B1, B2⟩) tv (w := W) (by omega) (Slc.of_own (own_below hot h (Nat.le_refl _))))
    obtain ⟨c, hc⟩ : ∃ c : Int → Bool, ∀ a1, bare a1 (exprToks l ⟨lv, dl, B0, B1, B2⟩) 0 = c a1 := ⟨_, fun _ => rfl⟩
    have hbare := hid (fun (a1 : Int) W (h : Below w4.heap.size w4 W) => implBare_len (exprToks l ⟨lv, dl, B0, B1, B2⟩) tv a1 (w := W) (by omega) (Slc.of_own (own_below hot h (Nat.le_refl _))))
    simp only [hc] at hbare
    rw [hc] at k24 k62
    have hbo := hid (fun W => implBeginsOperand_any x.kind W)
    rw [hopn] at hops
    obtain ⟨tg, tc, rfl, htc⟩ := own_slice' hot (by rw [hxr]; simp)
    have hkind := hid (fun W (h : Below w4.heap.size w4 W) => by
      have h1 := own_read (own_below hot h (Nat.le_refl _)) (tok_get (l := exprToks l ⟨lv, dl, B0, B1, B2⟩) (k := 0) (x := x) (by rw [hxr]; rfl) 0 rfl)
      simpa using h1)
    have hcells := hid (show ∀ W, Below w4.heap.size w4 W → W.cell? ⟨g, 2, none⟩ = some (.bool B0) ∧ W.cell? ⟨g, 3, none⟩ = some (.bool B1) ∧ W.cell? ⟨g, 4, none⟩ = some (.bool B2) ∧ W.cell? ⟨tg, 0, none⟩ = some (.int .i64 x.kind) from fun W h => ⟨(box_cells ((h.block _ (heap_lt hbx6.out)).trans hbx6.out)).2.2.1, (box_cells ((h.block _ (heap_lt hbx6.out)).trans hbx6.out)).2.2.2.1, (box_cells ((h.block _ (heap_lt hbx6.out)).trans hbx6.out)).2.2.2.2, hkind.out W h⟩)
    have hRl : 0 < (exprToks l ⟨lv, dl, B0, B1, B2⟩).length := by rw [hxr]; simp
    have hRi : (0 : Int) < ((exprToks l ⟨lv, dl, B0, B1, B2⟩).length : Int) := by omega
    have hne : exprToks l ⟨lv, dl, B0, B1, B2⟩ ≠ [] := by rw [hxr]; simp
    rw [he] at hok
    rw [hpp] at hpos
    have hl0 := hid (show l.length = l.length from rfl)
    clear hc hyt hopn hR hxr he hpp hot hkind
    generalize exprToks l ⟨lv, dl, B0, B1, B2⟩ = R at *
    generalize yieldToks l = Y at *
    generalize beginsB x.kind = bk at *
    generalize x.kind = xk at *
    have hbk := hid hbeg
    have h24 := hid k24
    have h62 := hid k62
    clear hbeg k24 k62 z0 z1 z2 z3 z4
    obtain ⟨z0, z1, z2, z3, z4⟩ := box_cells hbx6.out
    cases B0 <;> cases B1 <;> cases B2
    all_goals
      try have e24 : c 24 = false := h24.out rfl
      try have e62 : c 62 = false := h62.out rfl
      try obtain rfl : bk = true := hbk.out rfl
      clear h24 h62 hbk
      go_wp2_with (first
        | (go_at_call 24; refine hok.out.mono ?_; rintro e w5 ⟨rfl, hb7⟩; obtain ⟨y0, y1, y2, y3, y4⟩ := box_cells ((hb7.block _ (heap_lt hbx6.out)).trans hbx6.out))
        | (go_at_call 25; refine (hpos.out _).mono ?_; rintro e w6 ⟨rfl, hw6⟩; have hbc : Below w4.heap.size w4 w6 := (by rw [hw6]; exact hb7.alloc hb7.size _); subst hw6; obtain ⟨m2, m3, m4, mk⟩ := hcells.out _ hbc)
        | (go_at_call 26; refine (hbare.out _ _ hbc).mono ?_; rintro e w7 ⟨rfl, hb8⟩; have hbc := hbc.trans (hb8.mono hbc.size); obtain ⟨m2, m3, m4, mk⟩ := hcells.out _ hbc)
        | (go_at_call 27; refine (hbo.out _).mono ?_; rintro e w8 ⟨rfl, hw8⟩; subst w8)
        | (go_at_call 28; refine (hops.out _ hbc).mono ?_; rintro e w9 ⟨rfl, hb9⟩; have hbc := hbc.trans (hb9.mono hbc.size); obtain ⟨m2, m3, m4, mk⟩ := hcells.out _ hbc)
        | (go_at_call 11; refine (hyield.out _ hbc).mono ?_; rintro e w10 ⟨yv, rfl, hb10, ho10⟩; have hbc := hbc.trans (hb10.mono hbc.size); obtain ⟨ya, yc, rfl, _⟩ := own_slice ho10))
    all_goals go_ret
    all_goals exact ⟨rfl, hb6.out.trans (hbc.mono hb6.out.size)⟩
end Go.Proofs.YtkelhmgdajiocaaGreatDoor
