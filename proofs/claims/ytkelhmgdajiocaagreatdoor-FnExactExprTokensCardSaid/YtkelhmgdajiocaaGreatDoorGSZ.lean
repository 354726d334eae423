/- Walks and lemmas of this seat (FSpecX): what each theorem says of the functions that it names. Conditions: those that each theorem states. -/
import Derived.Test.YtkelhmgdajiocaaGreatDoorFSpecN
import Derived.Test.YtkelhmgdajiocaaGreatDoorGSF
import Derived.Test.YtkelhmgdajiocaaGreatDoorGB
import Derived.BigQuiet
import Derived.Test.YtkelhmgdajiocaaGreatDoorPSpecT
import Derived.Test.YtkelhmgdajiocaaGreatDoorGSV
namespace Go.Proofs.YtkelhmgdajiocaaGreatDoor
set_option linter.unusedVariables false
set_option linter.unusedSimpArgs false
open Go.RowKit Go.Lib

set_option maxRecDepth 100000 in
set_option maxHeartbeats 6400000 in
theorem specl10At_of {w0 : World} {l0 : List Node} {a0 : Option Addr} {cap : Nat} {full : Bool} {i : Nat} (hv : NodeSlc w0 (.slice a0 l0.length cap) l0) (ha : Ahead l0) (hi : i < l0.length) (he : (treeIx l0 i).Ex) (hn : SNodeC w0 l0 a0 cap full i) (hlen : ∀ p, ((treeIx l0 i).tkb full p).length ≤ 10000) : SAtC w0 l0 a0 cap full i := by
  intro p W hp hbW
  obtain ⟨a1, cap1, he1, hm1, hc1, hsl⟩ := hv.shape
  injection he1 with e1 _ e3
  subst e1; subst e3
  obtain ⟨x, ka, kc, b, off, hx, he2, c0, c1, c2, c3, c4, hkd⟩ := hsl.at hbW (Nat.le_refl _) hi
  subst he2
  obtain ⟨f1, f2, _, _, _⟩ := treeIx_at ha hx
  have hlv : levelB x.kind x.op ≠ 0 := by
    have h1 := (Tree.ex_eq _).1 he
    rw [f1, f2] at h1
    exact levelB_pos h1.1.1 h1.2.1.2.2.1
  have hRR : Hid ((treeIx l0 i).tks full p = if parB full x.kind x.op p = true then inPar ((treeIx l0 i).tkb full posTop) else (treeIx l0 i).tkb full p) := hid (by unfold Tree.tks; rw [f1, f2])
  have hnp := hid (fun W' (hW : Below W.heap.size W W') => hn p W' hp (hbW.trans (hW.mono hbW.size)))
  have hnt := hid (fun W' (hW : Below W.heap.size W W') => show Calls Tryz.prog 77 #[.agg #[.slice (some ⟨b, off, none⟩) l0.length cap, .bool full], .int .i64 (i : Nat), posTop.val] W' fun e w' => TokPost W' ((treeIx l0 i).tkb full posTop) e w' from hn posTop W' posOk_top (hbW.trans (hW.mono hbW.size)))
  have hlt := hlen posTop
  unfold TokPost at hnp hnt
  have hbl : b < W.heap.size := World.block_lt_of_cell? W _ c0
  have hfit := hid (fun W' => specFits_any x.kind x.op x.text x.other ka x.kids.length kc p W' hp hlv)
  have hlev := hid (fun W' => specLevelOf_any x.kind x.op x.text x.other ka x.kids.length kc W')
  clear hkd hn hlen f1 f2 he hx
  generalize x.kids.length = kn at *
  generalize x.kind = xk at *
  generalize x.op = xo at *
  generalize x.text = xa at *
  generalize x.other = xb at *
  unfold parB at hRR
  generalize (treeIx l0 i).tks full p = RR at *
  generalize (treeIx l0 i).tkb full posTop = R at *
  generalize (treeIx l0 i).tkb full p = RP at *
  generalize fitsB xk xo p = fb at *
  generalize levelB xk xo = lv at *
  have hii : (i : Int) < (l0.length : Int) := by omega
  have hB1 := hid (show Below W.heap.size W ((W.alloc (.cells #[.slice (some ⟨b, off, none⟩) l0.length cap, .bool full] 80)).alloc (.cells #[.int .i64 p.level, .bool p.dollar, .bool p.noIn, .bool p.noGt, .bool p.noSign] 36)) from ((Below.refl _ _).alloc (Nat.le_refl _) _).alloc (by simp) _)
  have hx0 := hid (alloc2_at0 W (.cells #[.slice (some ⟨b, off, none⟩) l0.length cap, .bool full] 80) (.cells #[.int .i64 p.level, .bool p.dollar, .bool p.noIn, .bool p.noGt, .bool p.noSign] 36))
  have hx1 := hid (alloc2_at1 W (.cells #[.slice (some ⟨b, off, none⟩) l0.length cap, .bool full] 80) (.cells #[.int .i64 p.level, .bool p.dollar, .bool p.noIn, .bool p.noGt, .bool p.noSign] 36))
  replace hx1 : Hid (((W.alloc (.cells #[.slice (some ⟨b, off, none⟩) l0.length cap, .bool full] 80)).alloc (.cells #[.int .i64 p.level, .bool p.dollar, .bool p.noIn, .bool p.noGt, .bool p.noSign] 36)).heap[W.heap.size + 1]? = some (.cells #[.int .i64 p.level, .bool p.dollar, .bool p.noIn, .bool p.noGt, .bool p.noSign] 36 (0, 0))) := hid (by simpa using hx1.out)
  obtain ⟨cd, hcd⟩ : ∃ cd, cd = (fb && !full) := ⟨_, rfl⟩
  replace hcd := hid hcd
  go_enter Tryz.func55, Tryz.ntmps55
  go_upto_region 1 with fail
  generalize (W.alloc (.cells #[.slice (some ⟨b, off, none⟩) l0.length cap, .bool full] 80)).alloc (.cells #[.int .i64 p.level, .bool p.dollar, .bool p.noIn, .bool p.noGt, .bool p.noSign] 36) = W1 at hB1 hx0 hx1 ⊢
  have hbl1 : b < W1.heap.size := Nat.lt_of_lt_of_le hbl hB1.out.size
  replace c0 := (hB1.out.cell (p := ⟨b, off + i * 5, none⟩) hbl).trans c0
  replace c1 := (hB1.out.cell (p := ⟨b, off + i * 5 + 1, none⟩) hbl).trans c1
  replace c2 := (hB1.out.cell (p := ⟨b, off + i * 5 + 2, none⟩) hbl).trans c2
  replace c3 := (hB1.out.cell (p := ⟨b, off + i * 5 + 3, none⟩) hbl).trans c3
  replace c4 := (hB1.out.cell (p := ⟨b, off + i * 5 + 4, none⟩) hbl).trans c4
  have hS := hid (show ∀ W', Below W1.heap.size W1 W' → W'.cell? ⟨W.heap.size, 0, none⟩ = some (.slice (some ⟨b, off, none⟩) l0.length cap) ∧ W'.cell? ⟨W.heap.size, 1, none⟩ = some (.bool full) ∧ W'.cell? ⟨W.heap.size + 1, 0, none⟩ = some (.int .i64 p.level) ∧ W'.cell? ⟨W.heap.size + 1, 1, none⟩ = some (.bool p.dollar) ∧ W'.cell? ⟨W.heap.size + 1, 2, none⟩ = some (.bool p.noIn) ∧ W'.cell? ⟨W.heap.size + 1, 3, none⟩ = some (.bool p.noGt) ∧ W'.cell? ⟨W.heap.size + 1, 4, none⟩ = some (.bool p.noSign) ∧ W'.cell? ⟨b, off + i * 5, none⟩ = some (.int .i64 xk) ∧ W'.cell? ⟨b, off + i * 5 + 1, none⟩ = some (.int .i64 xo) ∧ W'.cell? ⟨b, off + i * 5 + 2, none⟩ = some (.string xa) ∧ W'.cell? ⟨b, off + i * 5 + 3, none⟩ = some (.string xb) ∧ W'.cell? ⟨b, off + i * 5 + 4, none⟩ = some (.slice ka kn kc) from fun W' hW => ⟨box_cell (boxb hx0.out hW) rfl, box_cell (boxb hx0.out hW) rfl, box_cell (boxb hx1.out hW) rfl, box_cell (boxb hx1.out hW) rfl, box_cell (boxb hx1.out hW) rfl, box_cell (boxb hx1.out hW) rfl, box_cell (boxb hx1.out hW) rfl, (hW.cell (p := ⟨b, off + i * 5, none⟩) hbl1).trans c0, (hW.cell (p := ⟨b, off + i * 5 + 1, none⟩) hbl1).trans c1, (hW.cell (p := ⟨b, off + i * 5 + 2, none⟩) hbl1).trans c2, (hW.cell (p := ⟨b, off + i * 5 + 3, none⟩) hbl1).trans c3, (hW.cell (p := ⟨b, off + i * 5 + 4, none⟩) hbl1).trans c4⟩)
  go_cut [19] from 8 to 18 (fun v wx => v = .bool cd ∧ Hid (Below W1.heap.size W1 wx))
  case first =>
    obtain ⟨d0, d1, d2, d3, d4, d5, d6, d7, d8, d9, d10, d11⟩ := hS.out _ ((Below.refl W1.heap.size W1).drew)
    cases fb
    all_goals first
      | go_region_law (go_simp; go_at_call 76; refine (hfit.out _).mono ?_; rintro e wf ⟨rfl, hbf⟩; have hBf : Below W1.heap.size W1 wf := ((Below.refl W1.heap.size W1).drew).trans (hbf.mono (Nat.le_refl _)); obtain ⟨y0, y1, y2, y3, y4, y5, y6, y7, y8, y9, y10, y11⟩ := hS.out _ hBf)
      | fail "x"
    all_goals go_wp2_with fail
    all_goals go_meet
    all_goals exact ⟨by rw [hcd.out]; simp, hid hBf⟩
  case rest =>
  obtain ⟨rfl, hbx⟩ := hcut
  have hBf := hbx.out
  clear hbx
  cases full with
  | false =>
    cases fb with
    | true =>
      replace hRR : Hid (RR = RP) := hid (by rw [hRR.out]; rfl)
      obtain rfl : cd = true := by rw [hcd.out]; rfl
      clear hcd
      obtain ⟨y0, y1, y2, y3, y4, y5, y6, y7, y8, y9, y10, y11⟩ := hS.out _ hBf
      have hB2 := hid (hB1.out.trans (hBf.mono hB1.out.size))
      go_wp2_with fail
      refine (hnp.out _ hB2.out).mono ?_; rintro e w3 ⟨v3, rfl, hT⟩
      have hT3 : Hid (TokAt W w3 v3 RR) := hid (by rw [hRR.out]; exact hT.elder hB2.out)
      obtain ⟨va, vc, rfl, _⟩ := hT.shape
      clear hT
      go_wp2
      go_ret
      exact ⟨_, rfl, hT3.out⟩
    | false =>
      replace hRR : Hid (RR = inPar R) := hid (by rw [hRR.out]; rfl)
      obtain rfl : cd = false := by rw [hcd.out]; rfl
      clear hcd
      obtain ⟨y0, y1, y2, y3, y4, y5, y6, y7, y8, y9, y10, y11⟩ := hS.out _ hBf
      have hB2 := hid (hB1.out.trans (hBf.mono hB1.out.size))
      go_wp2_with fail
      have hB9 := hid hB2.out
      have hx9 := hid (boxb hx0.out hBf)
      clear hS y0 y1 y2 y3 y4 y5 y6 y7 y8 y9 y10 y11 hx0 hx1 hB1 hB2 hBf c0 c1 c2 c3 c4 hbl1
      generalize wc = W1' at hB9 hx9 ⊢
      clear W1
      rename World => W1
      have hB1 := hB9
      have hx0 := hx9
      clear hB9 hx9
      have hS := hid (show ∀ W', Below W1.heap.size W1 W' → Below W1.heap.size W1 W' ∧ W'.cell? ⟨W.heap.size, 0, none⟩ = some (.slice (some ⟨b, off, none⟩) l0.length cap) ∧ W'.cell? ⟨W.heap.size, 1, none⟩ = some (.bool false) from fun W' hW => ⟨hW, box_cell (boxb hx0.out hW) rfl, box_cell (boxb hx0.out hW) rfl⟩)
      go_region_held3 (fun W' => Below W1.heap.size W1 W' ∧ W'.cell? ⟨W.heap.size, 0, none⟩ = some (.slice (some ⟨b, off, none⟩) l0.length cap) ∧ W'.cell? ⟨W.heap.size, 1, none⟩ = some (.bool false))
        (first
          | (refine hS.out _ ?_
             with_reducible (first
               | exact (Below.refl _ _).drew
               | exact hBt
               | exact hBk
               | exact hBl
               | exact keep_a (by assumption) _
               | exact hT2.hb)))
        (first
          | (go_at_call 79; refine (specl10Tok_any 32 _).mono ?_; rintro e wt ⟨rfl, hbt⟩; have hBt : Below W1.heap.size W1 wt := keep_b2 (by assumption) hbt)
          | (go_at_call 56; refine (specTop_any _).mono ?_; rintro e wk ⟨rfl, hbk⟩; have hBk : Below W1.heap.size W1 wk := keep_b2 (by assumption) hbk)
          | (go_at_call 77; refine (hnt.out _ (hB1.out.trans ((keep1 (w := W1) (by assumption)).mono hB1.out.size))).mono ?_; rintro e wl ⟨vl, rfl, hTl⟩; have hBl : Below W1.heap.size W1 wl := keep_b2 (by assumption) hTl.hb; have hTl1 := hTl.elder (keep1 (w := W1) (by assumption)))
          | (refine step_append_tok (w := W1) (by rfl) _ _ (by rfl) _ _ [sgn 32] R (by rfl) (by rfl)
              (by first
                | exact TokAt.lit1 hBt _ _
                | exact TokAt.lit1 hBk _ _
                | exact TokAt.lit1 hBl _ _
                | exact (TokAt.lit1 hBt _ _).below hTl.hb
                | exact (TokAt.lit1 hBk _ _).below hTl.hb
                | exact ((TokAt.lit1 hBt _ _).below hbk).below hTl.hb)
              (by first
                | exact hTl
                | exact hTl.alloc _
                | exact (hTl.below hbt).alloc _) (by first | omega | (simp; omega)) ?_; intro v2 w2 hT2 hfr))
      all_goals
        rename_i hHeld
        have hT1 := hid hT2
        clear hHeld hT2 hfr hS
        go_wp2_with fail
        refine (specl10Tok_any 33 w2).mono ?_; rintro e wt ⟨rfl, hb1⟩
        have hT1b := hid (hT1.out.below hb1)
        have hlit := hid (TokAt.lit1 (w := W1) hT1b.out.hb 33 (spellB 33))
        have hTo := hid (hT1b.out.alloc (.cells #[.int .i64 33, .string (spellB 33), .int .i64 0] 50))
        go_wp2_with (at_builtin; refine wpList_append_tok (w := W1) (by rfl) _ _ (by rfl) v2 _ ([sgn 32] ++ R) [⟨33, spellB 33, 0⟩] (by rfl) (by rfl) hTo.out hlit.out (by simp) (by simp; omega) ?_; intro v5 w5 hT5 hfr0)
        have hT3 : Hid (TokAt W w5 v5 RR) := hid (by rw [hRR.out]; simpa [inPar, sgn] using hT5.elder hB1.out)
        obtain ⟨va, vc, rfl, _⟩ := hT5.shape
        clear hT5 hfr0 hlit hTo hT1b hb1 hT1
        go_wp2
        go_ret
        exact ⟨_, rfl, hT3.out⟩
  | true =>
    have hlvx : Hid ((lv == 15) = true ∧ (xk == 4) = false → RR = RP) := hid (fun h => by rw [hRR.out]; simp [h.1, h.2, bne])
    have hlvy : Hid ((lv == 15) = false ∨ (xk == 4) = true → RR = inPar R) := hid (fun h => by rw [hRR.out]; rcases h with h | h <;> simp [h, bne])
    obtain rfl : cd = false := by rw [hcd.out]; simp
    clear hcd
    all_goals
      obtain ⟨y0, y1, y2, y3, y4, y5, y6, y7, y8, y9, y10, y11⟩ := hS.out _ hBf
      have hB2 := hid (hB1.out.trans (hBf.mono hB1.out.size))
    all_goals
      have hB4 := hid (hB2.out.alloc hB2.out.size (.cells #[.int .i64 xk, .int .i64 xo, .string xa, .string xb, .slice ka kn kc] 58))
      have hB5 := hid (hBf.alloc hBf.size (.cells #[.int .i64 xk, .int .i64 xo, .string xa, .string xb, .slice ka kn kc] 58))
      have z0 := fun o => cell?_alloc_some o y0
      have z1 := fun o => cell?_alloc_some o y1
      have z2 := fun o => cell?_alloc_some o y2
      have z3 := fun o => cell?_alloc_some o y3
      have z4 := fun o => cell?_alloc_some o y4
      have z5 := fun o => cell?_alloc_some o y5
      have z6 := fun o => cell?_alloc_some o y6
      have z7 := fun o => cell?_alloc_some o y7
      have z8 := fun o => cell?_alloc_some o y8
      have z9 := fun o => cell?_alloc_some o y9
      have z10 := fun o => cell?_alloc_some o y10
      have z11 := fun o => cell?_alloc_some o y11
      cases hl15 : (lv == 15) with
      | true =>
        cases hk4 : (xk == 4) with
        | false =>
          replace hRR := hid (hlvx.out ⟨hl15, hk4⟩)
          clear hlvx hlvy
          go_wp2_with (go_at_call 78; refine (hlev.out _).mono ?_; rintro e wv ⟨rfl, hwv⟩; subst hwv)
          refine (hnp.out _ hB4.out).mono ?_; rintro e w3 ⟨v3, rfl, hT⟩
          have hT3 : Hid (TokAt W w3 v3 RR) := hid (by rw [hRR.out]; exact hT.elder hB4.out)
          obtain ⟨va, vc, rfl, _⟩ := hT.shape
          clear hT
          go_wp2
          go_ret
          exact ⟨_, rfl, hT3.out⟩
        | true =>
          replace hRR := hid (hlvy.out (.inr hk4))
          clear hlvx hlvy
          go_wp2_with (go_at_call 78; refine (hlev.out _).mono ?_; rintro e wv ⟨rfl, hwv⟩; subst hwv)
          have hB9 := hid hB4.out
          have hx9 := hid (boxb hx0.out hB5.out)
          clear z0 z1 z2 z3 z4 z5 z6 z7 z8 z9 z10 z11 hB4 hB5 hS y0 y1 y2 y3 y4 y5 y6 y7 y8 y9 y10 y11 hx0 hx1 hB1 hB2 hBf c0 c1 c2 c3 c4 hbl1
          generalize wc.alloc (.cells #[.int .i64 xk, .int .i64 xo, .string xa, .string xb, .slice ka kn kc] 58) = W1' at hB9 hx9 ⊢
          clear W1
          rename World => W1
          have hB1 := hB9
          have hx0 := hx9
          clear hB9 hx9
          have hS := hid (show ∀ W', Below W1.heap.size W1 W' → Below W1.heap.size W1 W' ∧ W'.cell? ⟨W.heap.size, 0, none⟩ = some (.slice (some ⟨b, off, none⟩) l0.length cap) ∧ W'.cell? ⟨W.heap.size, 1, none⟩ = some (.bool true) from fun W' hW => ⟨hW, box_cell (boxb hx0.out hW) rfl, box_cell (boxb hx0.out hW) rfl⟩)
          go_region_held3 (fun W' => Below W1.heap.size W1 W' ∧ W'.cell? ⟨W.heap.size, 0, none⟩ = some (.slice (some ⟨b, off, none⟩) l0.length cap) ∧ W'.cell? ⟨W.heap.size, 1, none⟩ = some (.bool true))
            (first
              | (refine hS.out _ ?_
                 with_reducible (first
                   | exact (Below.refl _ _).drew
                   | exact hBt
                   | exact hBk
                   | exact hBl
                   | exact keep_a (by assumption) _
                   | exact hT2.hb)))
            (first
              | (go_at_call 79; refine (specl10Tok_any 32 _).mono ?_; rintro e wt ⟨rfl, hbt⟩; have hBt : Below W1.heap.size W1 wt := keep_b2 (by assumption) hbt)
              | (go_at_call 56; refine (specTop_any _).mono ?_; rintro e wk ⟨rfl, hbk⟩; have hBk : Below W1.heap.size W1 wk := keep_b2 (by assumption) hbk)
              | (go_at_call 77; refine (hnt.out _ (hB1.out.trans ((keep1 (w := W1) (by assumption)).mono hB1.out.size))).mono ?_; rintro e wl ⟨vl, rfl, hTl⟩; have hBl : Below W1.heap.size W1 wl := keep_b2 (by assumption) hTl.hb; have hTl1 := hTl.elder (keep1 (w := W1) (by assumption)))
              | (refine step_append_tok (w := W1) (by rfl) _ _ (by rfl) _ _ [sgn 32] R (by rfl) (by rfl)
                  (by first
                    | exact TokAt.lit1 hBt _ _
                    | exact TokAt.lit1 hBk _ _
                    | exact TokAt.lit1 hBl _ _
                    | exact (TokAt.lit1 hBt _ _).below hTl.hb
                    | exact (TokAt.lit1 hBk _ _).below hTl.hb
                    | exact ((TokAt.lit1 hBt _ _).below hbk).below hTl.hb)
                  (by first
                    | exact hTl
                    | exact hTl.alloc _
                    | exact (hTl.below hbt).alloc _) (by first | omega | (simp; omega)) ?_; intro v2 w2 hT2 hfr))
          all_goals
            rename_i hHeld
            have hT1 := hid hT2
            clear hHeld hT2 hfr hS
            go_wp2_with fail
            refine (specl10Tok_any 33 w2).mono ?_; rintro e wt ⟨rfl, hb1⟩
            have hT1b := hid (hT1.out.below hb1)
            have hlit := hid (TokAt.lit1 (w := W1) hT1b.out.hb 33 (spellB 33))
            have hTo := hid (hT1b.out.alloc (.cells #[.int .i64 33, .string (spellB 33), .int .i64 0] 50))
            go_wp2_with (at_builtin; refine wpList_append_tok (w := W1) (by rfl) _ _ (by rfl) v2 _ ([sgn 32] ++ R) [⟨33, spellB 33, 0⟩] (by rfl) (by rfl) hTo.out hlit.out (by simp) (by simp; omega) ?_; intro v5 w5 hT5 hfr0)
            have hT3 : Hid (TokAt W w5 v5 RR) := hid (by rw [hRR.out]; simpa [inPar, sgn] using hT5.elder hB1.out)
            obtain ⟨va, vc, rfl, _⟩ := hT5.shape
            clear hT5 hfr0 hlit hTo hT1b hb1 hT1
            go_wp2
            go_ret
            exact ⟨_, rfl, hT3.out⟩
      | false =>
          replace hRR := hid (hlvy.out (.inl hl15))
          clear hlvx hlvy
          go_wp2_with (go_at_call 78; refine (hlev.out _).mono ?_; rintro e wv ⟨rfl, hwv⟩; subst hwv)
          have hB9 := hid hB4.out
          have hx9 := hid (boxb hx0.out hB5.out)
          clear z0 z1 z2 z3 z4 z5 z6 z7 z8 z9 z10 z11 hB4 hB5 hS y0 y1 y2 y3 y4 y5 y6 y7 y8 y9 y10 y11 hx0 hx1 hB1 hB2 hBf c0 c1 c2 c3 c4 hbl1
          generalize wc.alloc (.cells #[.int .i64 xk, .int .i64 xo, .string xa, .string xb, .slice ka kn kc] 58) = W1' at hB9 hx9 ⊢
          clear W1
          rename World => W1
          have hB1 := hB9
          have hx0 := hx9
          clear hB9 hx9
          have hS := hid (show ∀ W', Below W1.heap.size W1 W' → Below W1.heap.size W1 W' ∧ W'.cell? ⟨W.heap.size, 0, none⟩ = some (.slice (some ⟨b, off, none⟩) l0.length cap) ∧ W'.cell? ⟨W.heap.size, 1, none⟩ = some (.bool true) from fun W' hW => ⟨hW, box_cell (boxb hx0.out hW) rfl, box_cell (boxb hx0.out hW) rfl⟩)
          go_region_held3 (fun W' => Below W1.heap.size W1 W' ∧ W'.cell? ⟨W.heap.size, 0, none⟩ = some (.slice (some ⟨b, off, none⟩) l0.length cap) ∧ W'.cell? ⟨W.heap.size, 1, none⟩ = some (.bool true))
            (first
              | (refine hS.out _ ?_
                 with_reducible (first
                   | exact (Below.refl _ _).drew
                   | exact hBt
                   | exact hBk
                   | exact hBl
                   | exact keep_a (by assumption) _
                   | exact hT2.hb)))
            (first
              | (go_at_call 79; refine (specl10Tok_any 32 _).mono ?_; rintro e wt ⟨rfl, hbt⟩; have hBt : Below W1.heap.size W1 wt := keep_b2 (by assumption) hbt)
              | (go_at_call 56; refine (specTop_any _).mono ?_; rintro e wk ⟨rfl, hbk⟩; have hBk : Below W1.heap.size W1 wk := keep_b2 (by assumption) hbk)
              | (go_at_call 77; refine (hnt.out _ (hB1.out.trans ((keep1 (w := W1) (by assumption)).mono hB1.out.size))).mono ?_; rintro e wl ⟨vl, rfl, hTl⟩; have hBl : Below W1.heap.size W1 wl := keep_b2 (by assumption) hTl.hb; have hTl1 := hTl.elder (keep1 (w := W1) (by assumption)))
              | (refine step_append_tok (w := W1) (by rfl) _ _ (by rfl) _ _ [sgn 32] R (by rfl) (by rfl)
                  (by first
                    | exact TokAt.lit1 hBt _ _
                    | exact TokAt.lit1 hBk _ _
                    | exact TokAt.lit1 hBl _ _
                    | exact (TokAt.lit1 hBt _ _).below hTl.hb
                    | exact (TokAt.lit1 hBk _ _).below hTl.hb
                    | exact ((TokAt.lit1 hBt _ _).below hbk).below hTl.hb)
                  (by first
                    | exact hTl
                    | exact hTl.alloc _
                    | exact (hTl.below hbt).alloc _) (by first | omega | (simp; omega)) ?_; intro v2 w2 hT2 hfr))
          all_goals
            rename_i hHeld
            have hT1 := hid hT2
            clear hHeld hT2 hfr hS
            go_wp2_with fail
            refine (specl10Tok_any 33 w2).mono ?_; rintro e wt ⟨rfl, hb1⟩
            have hT1b := hid (hT1.out.below hb1)
            have hlit := hid (TokAt.lit1 (w := W1) hT1b.out.hb 33 (spellB 33))
            have hTo := hid (hT1b.out.alloc (.cells #[.int .i64 33, .string (spellB 33), .int .i64 0] 50))
            go_wp2_with (at_builtin; refine wpList_append_tok (w := W1) (by rfl) _ _ (by rfl) v2 _ ([sgn 32] ++ R) [⟨33, spellB 33, 0⟩] (by rfl) (by rfl) hTo.out hlit.out (by simp) (by simp; omega) ?_; intro v5 w5 hT5 hfr0)
            have hT3 : Hid (TokAt W w5 v5 RR) := hid (by rw [hRR.out]; simpa [inPar, sgn] using hT5.elder hB1.out)
            obtain ⟨va, vc, rfl, _⟩ := hT5.shape
            clear hT5 hfr0 hlit hTo hT1b hb1 hT1
            go_wp2
            go_ret
            exact ⟨_, rfl, hT3.out⟩
end Go.Proofs.YtkelhmgdajiocaaGreatDoor
/- Walks and lemmas of this seat (FSpecZ): what each theorem says of the functions that it names. Conditions: those that each theorem states. -/
namespace Go.Proofs.YtkelhmgdajiocaaGreatDoor
set_option linter.unusedVariables false
set_option linter.unusedSimpArgs false
open Go.RowKit

/-! The reference's writer, every kind of node. -/
theorem one_map {ks : List Int} {n : Nat} (h : ks.length = n) (hn : n = 1) : ∃ a, ks = [a] := List.length_eq_one_iff.1 (h.trans hn)
theorem two_map {ks : List Int} {n : Nat} (h : ks.length = n) (hn : n = 2) : ∃ a b, ks = [a, b] := by
  subst hn
  rcases ks with _ | ⟨x, _ | ⟨y, _ | ⟨z, l⟩⟩⟩ <;> simp at h
  exact ⟨x, y, rfl⟩
theorem three_map {ks : List Int} {n : Nat} (h : ks.length = n) (hn : n = 3) : ∃ a b c, ks = [a, b, c] := by
  subst hn
  rcases ks with _ | ⟨x, _ | ⟨y, _ | ⟨z, _ | ⟨u, l⟩⟩⟩⟩ <;> simp at h
  exact ⟨x, y, z, rfl⟩
theorem specNodeN {w0 : World} {l0 : List Node} {a0 : Option Addr} {cap : Nat} {full : Bool} (hv : NodeSlc w0 (.slice a0 l0.length cap) l0) (hok : treeOk l0 = true) (n : Nat) :
    ∀ i, i < n → i < l0.length → (treeIx l0 i).Ex → SNodeC w0 l0 a0 cap full i := by
  induction n with
  | zero => intro i h; omega
  | succ n ih =>
    intro i hin hil he
    have ha := shapeOk_ahead (treeOk_shape hok)
    obtain ⟨x, hx⟩ := get_of_lt hil
    have hT := treeIx_eq ha hx
    have hpl := (ex_facts hok hil).2.1
    obtain ⟨k, o, a, b2, ks⟩ := x
    simp only at hT
    have hex := (Tree.ex_eq _).1 he
    rw [hT] at hex he
    simp only [Tree.kind, Tree.op, Tree.kids, List.length_map] at hex
    have hkid : ∀ q ∈ ks, ∃ j : Nat, q = (j : Int) ∧ q.toNat = j ∧ SNodeC w0 l0 a0 cap full j ∧ SAtC w0 l0 a0 cap full j ∧ (∀ p, ((treeIx l0 j).tkb full p).length ≤ 10000) ∧ (∀ p, ((treeIx l0 j).tks full p).length ≤ 10000) ∧ (∀ p, (treeIx l0 j).tks full p ≠ []) := fun q hq => by
      obtain ⟨h0, h1⟩ := ha i _ hx q hq
      have hjl : q.toNat < l0.length := by omega
      have hje : (treeIx l0 q.toNat).Ex := hex.2.2.2 _ (List.mem_map.2 ⟨q, hq, rfl⟩)
      have hjn := ih q.toNat (by omega) hjl hje
      have hjp := (ex_facts hok hjl).2.1
      refine ⟨q.toNat, by omega, rfl, hjn, specl10At_of hv ha hjl hje hjn (by have := (treeIx l0 q.toNat).tkb_len full; exact fun p => by have := this p; omega), fun p => ?_, fun p => ?_, fun p => Tree.tks_ne hje p⟩
      · have := (treeIx l0 q.toNat).tkb_len full p; omega
      · have := (treeIx l0 q.toNat).tks_len full p; omega
    obtain ⟨har, hop, _, _⟩ := hex
    have har' := har
    have hop' := hop
    obtain ⟨h0, h1, h2, h3, h4, h5, h6⟩ := har
    have hb : 1 ≤ k ∧ k ≤ 15 := by unfold isExprB inB at h0; simp at h0; omega
    have hks : ∀ q ∈ ks, 0 ≤ q ∧ SAtC w0 l0 a0 cap full q.toNat ∧ ((treeIx l0 q.toNat).tks full posTop).length ≤ 10000 ∧ (treeIx l0 q.toNat).tks full posTop ≠ [] := fun q hq => by
      obtain ⟨j, e1, e2, _, hat, _, hl, hne⟩ := hkid q hq
      rw [e2]
      exact ⟨by omega, hat, hl _, hne _⟩
    have hmm : (ks.map fun k => treeIx l0 k.toNat).map (fun u => u.tks full posTop) = ks.map fun k => (treeIx l0 k.toNat).tks full posTop := by rw [List.map_map]; rfl
    have hcl : ∀ {p : Pos}, posOkB p = true → (levelB k o = 15 ∨ (k = 13 ∧ 1 < ks.length)) → (commas (ks.map fun k => (treeIx l0 k.toNat).tks full posTop)).length ≤ 200000 := fun {p} hp hl => by
      have h := commas_top_len (full := full) (p := p) hp he (by
        rcases hl with h | h
        · exact .inl h
        · refine .inr ⟨h.1, ?_⟩
          show (1 : Int) < (((ks.map fun k => treeIx l0 k.toNat).length : Nat) : Int)
          rw [List.length_map]; omega)
      rw [← hT] at h
      rw [hT] at h
      simp only [Tree.kids] at h
      rw [hmm, ← hT] at h
      omega
    have hk : k = 1 ∨ k = 2 ∨ k = 3 ∨ k = 4 ∨ k = 5 ∨ k = 6 ∨ k = 7 ∨ k = 8 ∨ k = 9 ∨ k = 10 ∨ k = 11 ∨ k = 12 ∨ k = 13 ∨ k = 14 ∨ k = 15 := by omega
    rcases hk with rfl | rfl | rfl | rfl | rfl | rfl | rfl | rfl | rfl | rfl | rfl | rfl | rfl | rfl | rfl
    · obtain rfl := List.eq_nil_of_length_eq_zero (h1 (by omega))
      exact specl10Node_1 hv hx (fun p => by rw [hT]; exact tkb_1 ..)
    · obtain rfl := List.eq_nil_of_length_eq_zero (h1 (by omega))
      exact specl10Node_2 hv hx (fun p => by rw [hT]; exact tkb_2 ..)
    · obtain rfl := List.eq_nil_of_length_eq_zero (h1 (by omega))
      exact specl10Node_3 hv hx (fun p => by rw [hT]; exact tkb_3 ..)
    · obtain rfl := List.eq_nil_of_length_eq_zero (h1 (by omega))
      exact specl10Node_4 hv hx (fun p => by rw [hT]; exact tkb_4 ..)
    · exact specl10Node_5 hv hx hks (by have := h2 (by omega); omega) (hcl posOk_top (.inl rfl)) (fun p hp => by rw [hT, tkb_5 hp he, hmm])
    · obtain ⟨q, rfl⟩ := one_map rfl (h4 (by omega))
      obtain ⟨j, rfl, hj, hn, hat, hl1, hl2, hne⟩ := hkid q (by simp)
      rw [List.map_cons, List.map_nil, hj] at hT
      exact specl10Node_6 hv hx har' (by omega) hat hl2 (fun p hp => by rw [hT, tkb_6])
    · exact specl10Node_7 hv hx hks (by have := h3 (by omega); omega) (hcl posOk_top (.inl rfl)) (fun p hp => by rw [hT, tkb_7 hp he, hmm])
    · exact specl10Node_8 hv hx hks (by have := h3 (by omega); omega) (hcl posOk_top (.inl rfl)) (fun p hp => by rw [hT, tkb_8 hp he, hmm])
    · obtain ⟨q, rfl⟩ := one_map rfl (h4 (by omega))
      obtain ⟨j, rfl, hj, hn, hat, hl1, hl2, hne⟩ := hkid q (by simp)
      rw [List.map_cons, List.map_nil, hj] at hT he
      exact specl10Node_9 hv hx hn (hl1 _) (fun p hp => by rw [hT, tkb_9 hp he])
    · obtain ⟨q, rfl⟩ := one_map rfl (h4 (by omega))
      obtain ⟨j, rfl, hj, hn, hat, hl1, hl2, hne⟩ := hkid q (by simp)
      rw [List.map_cons, List.map_nil, hj] at hT he
      exact specl10Node_10 hv hx hn (hl1 _) (fun p hp => by rw [hT, tkb_10 hp he])
    · obtain ⟨q, rfl⟩ := one_map rfl (h4 (by omega))
      obtain ⟨j, rfl, hj, hn, hat, hl1, hl2, hne⟩ := hkid q (by simp)
      rw [List.map_cons, List.map_nil, hj] at hT
      exact specl10Node_11 hv hx har' (by omega) hat hl2 (fun p hp => by rw [hT, tkb_11])
    · obtain ⟨q, r, rfl⟩ := two_map rfl (h5 (by omega))
      obtain ⟨j, rfl, hj, hn, hat, hl1, hl2, hne⟩ := hkid q (by simp)
      obtain ⟨j2, rfl, hj2, hn2, hat2, hl12, hl22, hne2⟩ := hkid r (by simp)
      rw [List.map_cons, List.map_cons, List.map_nil, hj, hj2] at hT
      exact specl10Node_12 hv hx har' (hop'.2.2.1 rfl) hat hat2 hl2 hl22 (fun p hp => by rw [hT, tkb_12])
    · have hlen := h2 (by omega)
      by_cases hn : 1 < ks.length
      · exact specl10Node_13b hv hx har' hks hn (by omega) (hcl posOk_top (.inr ⟨rfl, hn⟩)) (fun p hp => by rw [hT, tkb_13b hp he (by rw [List.length_map]; exact hn), hmm])
      · obtain ⟨q, rfl⟩ := one_map rfl (show ks.length = 1 by omega)
        obtain ⟨j, rfl, hj, hn, hat, hl1, hl2, hne⟩ := hkid q (by simp)
        rw [List.map_cons, List.map_nil, hj] at hT
        exact specl10Node_13a hv hx har' hat hl2 (fun p hp => by rw [hT, tkb_13a])
    · obtain ⟨q, r, s, rfl⟩ := three_map rfl (h6 rfl)
      obtain ⟨j, rfl, hj, hn, hat, hl1, hl2, hne⟩ := hkid q (by simp)
      obtain ⟨j2, rfl, hj2, hn2, hat2, hl12, hl22, hne2⟩ := hkid r (by simp)
      obtain ⟨j3, rfl, hj3, hn3, hat3, hl13, hl23, hne3⟩ := hkid s (by simp)
      rw [List.map_cons, List.map_cons, List.map_cons, List.map_nil, hj, hj2, hj3] at hT
      exact specl10Node_14 hv hx har' hat hat2 hat3 hl2 hl22 hl23 (fun p hp => by rw [hT, tkb_14])
    · obtain ⟨q, r, rfl⟩ := two_map rfl (h5 (by omega))
      obtain ⟨j, rfl, hj, hn, hat, hl1, hl2, hne⟩ := hkid q (by simp)
      obtain ⟨j2, rfl, hj2, hn2, hat2, hl12, hl22, hne2⟩ := hkid r (by simp)
      rw [List.map_cons, List.map_cons, List.map_nil, hj, hj2] at hT he
      exact specl10Node_15 hv hx har' (by intro h; exact absurd h (by decide)) hn hat2 (hl1 _) hl22 (fun p hp => by rw [hT, tkb_15 hp he])
/-- The reference's writer at a node. -/
theorem specAt_any {w0 : World} {l0 : List Node} {a0 : Option Addr} {cap : Nat} (full : Bool) (hv : NodeSlc w0 (.slice a0 l0.length cap) l0) (hok : treeOk l0 = true) {i : Nat} (hi : i < l0.length) (he : (treeIx l0 i).Ex) : SAtC w0 l0 a0 cap full i :=
  specl10At_of hv (shapeOk_ahead (treeOk_shape hok)) hi he (specNodeN hv hok _ i (Nat.lt_succ_self _) hi he) fun p => by have := (treeIx l0 i).tkb_len full p; have := (ex_facts hok hi).2.1; omega
end Go.Proofs.YtkelhmgdajiocaaGreatDoor
/- Walks and lemmas of this seat (FSpecE): what each theorem says of the functions that it names. Conditions: those that each theorem states. -/
namespace Go.Proofs.YtkelhmgdajiocaaGreatDoor
set_option linter.unusedVariables false
set_option linter.unusedSimpArgs false
open Go.RowKit Go.Lib

/-! The reference's ExprTokens and FullTokens. -/
theorem spec_box {w w' : World} {o : Obj} (hb : Below (w.alloc o).heap.size (w.alloc o) w') : w'.heap[w.heap.size]? = some o := (hb.block _ (by simp)).trans (heap_alloc_new w o)
theorem tok_none {w wr : World} (hb : Below w.heap.size w wr) : TokAt w (wr.alloc (.cells #[] 50)) (.slice (some ⟨wr.heap.size, 0, none⟩) 0 0) [] := TokAt.lit hb [] (by simp) #[] rfl
set_option maxRecDepth 100000 in
set_option maxHeartbeats 3200000 in
theorem specExprTokens_any (l0 : List Node) (v0 : Value) (p : Pos) (w : World) (hx0 : ∀ x ∈ l0, x.Ok) (hn0 : bulk Node.sizes l0 ≤ 1048576) (hv0 : NodeSlc w v0 l0) (hap : p.Ok) :
    Calls Tryz.prog 31 #[v0, .agg #[.int .i64 p.level, .bool p.dollar, .bool p.noIn, .bool p.noGt, .bool p.noSign]] w fun e w' => ∃ v', e = .returned v' ∧ Below w.heap.size w w' ∧ w'.ownsRow w.heap.size 50 3 v' (exprToks l0 p).length ((exprToks l0 p).flatMap Token.cells) := by
  have hv := hv0
  obtain ⟨a, cap, rfl, hm, hc, hsl⟩ := hv0.shape
  have hb0 : Below w.heap.size w (w.alloc (.cells #[.int .i64 p.level, .bool p.dollar, .bool p.noIn, .bool p.noGt, .bool p.noSign] 36)) := (Below.refl _ _).alloc (Nat.le_refl _) _
  have hok := hid (specExprOk_any l0 _ _ hx0 hn0 (hv.mono hb0 (Nat.le_refl _)))
  have hpos := hid (fun W => specPosOk_any p W)
  unfold Pos.val at hpos
  cases he : exprOkB l0 with
  | false =>
    have hR1 : exprToks l0 p = [] := by unfold exprToks; rw [he]; simp
    rw [hR1]
    rw [he] at hok
    clear hR1 he hsl hpos
    go_enter Tryz.func31, Tryz.ntmps31
    go_wp2_with (go_at_call 24; refine hok.out.mono ?_; rintro e w1 ⟨rfl, hb1⟩)
    go_ret
    have h := tok_none (hb0.trans (hb1.mono hb0.size))
    exact ⟨_, rfl, h.hb, h.own⟩
  | true =>
  cases hpp : posOkB p with
  | false =>
    have hR1 : exprToks l0 p = [] := by unfold exprToks; rw [hpp]; simp
    rw [hR1]
    rw [he] at hok
    rw [hpp] at hpos
    clear hR1 he hsl hpp
    go_enter Tryz.func31, Tryz.ntmps31
    go_wp2_with (first
      | (go_at_call 24; refine hok.out.mono ?_; rintro e w1 ⟨rfl, hb1⟩; have z := spec_box hb1; obtain ⟨z0, z1, z2, z3, z4⟩ := box_cells z; clear z)
      | (go_at_call 25; refine (hpos.out _).mono ?_; rintro e w2 ⟨rfl, hw2⟩; subst hw2))
    go_ret
    have h := tok_none ((hb0.trans (hb1.mono hb0.size)).alloc (Nat.le_trans hb0.size hb1.size) (.cells #[.int .i64 p.level, .bool p.dollar, .bool p.noIn, .bool p.noGt, .bool p.noSign] 36))
    exact ⟨_, rfl, h.hb, by have h2 := h.own; simp only [World.size_alloc] at h2; exact h2⟩
  | true =>
    obtain ⟨hto, hex, hpl, hl1, hl4, _⟩ := exprOk_facts he
    obtain ⟨n, hn⟩ : ∃ n : Nat, n = l0.length - 1 := ⟨_, rfl⟩
    have hnl : n < l0.length := by omega
    have hni : (l0.length : Int) - 1 = (n : Int) := by omega
    have hrt : rootTree l0 = treeIx l0 n := by unfold rootTree; rw [hn]
    rw [hrt] at hex
    have hat := hid (specAt_any false hv hto hnl hex)
    obtain ⟨x, ka, kc, b, off, hx, rfl, C0, C1, C2, C3, C4, hkd⟩ := hsl.at (Below.refl _ _) (Nat.le_refl _) hnl
    have hk16 : (x.kind == 16) = false := by
      have h1 := ((treeIx_at (shapeOk_ahead (treeOk_shape hto)) hx).1)
      have h2 := ((Tree.ex_eq _).1 hex).1.1
      rw [h1] at h2
      unfold isExprB inB at h2
      simp at h2
      simp
      omega
    have hR1 : Hid (exprToks l0 p = (treeIx l0 n).tks false p) := hid (by unfold exprToks; rw [if_pos ⟨he, hpp⟩, hrt])
    have hp2 := hid hpp
    generalize exprToks l0 p = RT at *
    rw [he] at hok
    rw [hpp] at hpos
    generalize x.kind = xk at *
    have hatc := hid (fun W (h : Below w.heap.size w W) => hat.out p W hp2.out h)
    unfold TokPost at hatc
    generalize (treeIx l0 n).tks false p = R at *
    replace hn := hid hn
    clear he hsl hpp hto hex hpl hrt hx hkd C1 C2 C3 C4 hat
    go_enter Tryz.func31, Tryz.ntmps31
    go_wp2_with (first
      | (go_at_call 24; refine hok.out.mono ?_; rintro e w1 ⟨rfl, hb1⟩; have z := spec_box hb1; obtain ⟨z0, z1, z2, z3, z4⟩ := box_cells z; clear z; have c0 := keepc (hb0.trans (hb1.mono hb0.size)) C0; have y0 := fun o => cell?_alloc_some o c0; have y1 := fun o => cell?_alloc_some o z0; have y2 := fun o => cell?_alloc_some o z1; have y3 := fun o => cell?_alloc_some o z2; have y4 := fun o => cell?_alloc_some o z3; have y5 := fun o => cell?_alloc_some o z4)
      | (go_at_call 25; refine (hpos.out _).mono ?_; rintro e w2 ⟨rfl, hw2⟩; subst hw2)
      | (go_at_call 55; refine (hatc.out _ ((hb0.trans (hb1.mono hb0.size)).alloc (Nat.le_trans hb0.size hb1.size) _)).mono ?_; rintro e w3 ⟨v3, rfl, hT⟩))
    have hb2 := hid ((hb0.trans (hb1.mono hb0.size)).alloc (Nat.le_trans hb0.size hb1.size) (.cells #[.int .i64 p.level, .bool p.dollar, .bool p.noIn, .bool p.noGt, .bool p.noSign] 36))
    have hT2 := hid (hT.elder hb2.out)
    obtain ⟨va, vc, rfl, _⟩ := hT.shape
    clear hT
    go_wp2
    go_ret
    exact ⟨_, rfl, hT2.out.hb, by rw [hR1.out]; exact hT2.out.own⟩
set_option maxRecDepth 100000 in
set_option maxHeartbeats 3200000 in
theorem specFullTokens_any (l0 : List Node) (v0 : Value) (w : World) (hx0 : ∀ x ∈ l0, x.Ok) (hn0 : bulk Node.sizes l0 ≤ 1048576) (hv0 : NodeSlc w v0 l0) :
    Calls Tryz.prog 29 #[v0] w fun e w' => ∃ v', e = .returned v' ∧ Below w.heap.size w w' ∧ w'.ownsRow w.heap.size 50 3 v' (fullToks l0).length ((fullToks l0).flatMap Token.cells) := by
  have hv := hv0
  obtain ⟨a, cap, rfl, hm, hc, hsl⟩ := hv0.shape
  have hok := hid (specExprOk_any l0 _ w hx0 hn0 hv)
  cases he : exprOkB l0 with
  | false =>
    have hR1 : fullToks l0 = [] := by unfold fullToks; rw [he]; simp
    rw [hR1]
    rw [he] at hok
    clear hR1 he hsl
    go_enter Tryz.func29, Tryz.ntmps29
    go_wp2_with (go_at_call 24; refine hok.out.mono ?_; rintro e w1 ⟨rfl, hb1⟩)
    go_ret
    have h := tok_none hb1
    exact ⟨_, rfl, h.hb, h.own⟩
  | true =>
    obtain ⟨hto, hex, hpl, hl1, hl4, _⟩ := exprOk_facts he
    obtain ⟨n, hn⟩ : ∃ n : Nat, n = l0.length - 1 := ⟨_, rfl⟩
    have hnl : n < l0.length := by omega
    have hni : (l0.length : Int) - 1 = (n : Int) := by omega
    have hrt : rootTree l0 = treeIx l0 n := by unfold rootTree; rw [hn]
    rw [hrt] at hex
    have hat := hid (specAt_any true hv hto hnl hex)
    obtain ⟨x, ka, kc, b, off, hx, rfl, C0, C1, C2, C3, C4, hkd⟩ := hsl.at (Below.refl _ _) (Nat.le_refl _) hnl
    have hk16 : (x.kind == 16) = false := by
      have h1 := ((treeIx_at (shapeOk_ahead (treeOk_shape hto)) hx).1)
      have h2 := ((Tree.ex_eq _).1 hex).1.1
      rw [h1] at h2
      unfold isExprB inB at h2
      simp at h2
      simp
      omega
    have hR1 : Hid (fullToks l0 = (treeIx l0 n).tks true posTop) := hid (by unfold fullToks; rw [if_pos he, hrt])
    generalize fullToks l0 = RT at *
    rw [he] at hok
    generalize x.kind = xk at *
    have hatc := hid (fun W (h : Below w.heap.size w W) => hat.out posTop W posOk_top h)
    unfold TokPost at hatc
    generalize (treeIx l0 n).tks true posTop = R at *
    replace hn := hid hn
    clear he hsl hto hex hpl hrt hx hkd C1 C2 C3 C4 hat
    go_enter Tryz.func29, Tryz.ntmps29
    go_wp2_with (first
      | (go_at_call 24; refine hok.out.mono ?_; rintro e w1 ⟨rfl, hb1⟩; have c0 := keepc hb1 C0)
      | (go_at_call 56; refine (specTop_x _).mono ?_; rintro e w2 ⟨rfl, hw2⟩; subst hw2)
      | (go_at_call 55; refine (hatc.out _ (hb1.alloc hb1.size _)).mono ?_; rintro e w3 ⟨v3, rfl, hT⟩))
    have hT2 := hid (hT.elder (hb1.alloc hb1.size _))
    obtain ⟨va, vc, rfl, _⟩ := hT.shape
    clear hT
    go_wp2
    go_ret
    exact ⟨_, rfl, hT2.out.hb, by rw [hR1.out]; exact hT2.out.own⟩
end Go.Proofs.YtkelhmgdajiocaaGreatDoor
