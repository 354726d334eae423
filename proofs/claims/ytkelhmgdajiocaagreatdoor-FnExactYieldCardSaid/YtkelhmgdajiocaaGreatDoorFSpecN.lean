/- Walks and lemmas of this seat (FSpecN): what each theorem says of the functions that it names. Conditions: those that each theorem states. -/
import Derived.Test.YtkelhmgdajiocaaGreatDoorFSpecB
namespace Go.Proofs.YtkelhmgdajiocaaGreatDoor
set_option linter.unusedVariables false
set_option linter.unusedSimpArgs false
open Go.RowKit

theorem alloc3 (w : World) (o1 o2 o3 : Obj) : (((w.alloc o1).alloc o2).alloc o3).heap[w.heap.size]? = some o1 ∧ (((w.alloc o1).alloc o2).alloc o3).heap[w.heap.size + 1]? = some o2 ∧ (((w.alloc o1).alloc o2).alloc o3).heap[w.heap.size + 1 + 1]? = some o3 := by
  have h1 := heap_alloc_new w o1
  have h2 := heap_alloc_new (w.alloc o1) o2
  have h3 := heap_alloc_new ((w.alloc o1).alloc o2) o3
  simp only [World.size_alloc] at h2 h3
  have hb : ∀ W : World, ∀ b, b < W.heap.size → ∀ o, (W.alloc o).heap[b]? = W.heap[b]? := fun W b hb o => Below.heap_alloc W o b hb
  refine ⟨?_, ?_, h3⟩
  · rw [hb _ _ (by simp <;> omega), hb _ _ (by simp), h1]
  · rw [hb _ _ (by simp), h2]
set_option maxRecDepth 100000 in
set_option maxHeartbeats 6400000 in
theorem specl10Node_9 {w0 : World} {l0 : List Node} {a0 : Option Addr} {cap : Nat} {full : Bool} {i k0 : Nat} {o : Int} {a b2 : ByteArray} (hv : NodeSlc w0 (.slice a0 l0.length cap) l0) (hx : l0[i]? = some ⟨9, o, a, b2, [(k0 : Int)]⟩) (hlv : SNodeC w0 l0 a0 cap full k0) (hlen : ((treeIx l0 k0).tkb full posLv).length ≤ 10000) (hT : ∀ p, posOkB p = true → (treeIx l0 i).tkb full p = sgn o :: (treeIx l0 k0).tkb full posLv) : SNodeC w0 l0 a0 cap full i := by
  intro p W hp hbW
  obtain ⟨a1, cap1, he1, hm1, hc1, hsl⟩ := hv.shape
  injection he1 with e1 _ e3
  subst e1; subst e3
  have hi := (List.getElem?_eq_some_iff.1 hx).1
  obtain ⟨x, ka, kc, b, off, hx2, he2, c0, c1, c2, c3, c4, hkd⟩ := hsl.at hbW (Nat.le_refl _) hi
  obtain rfl : x = ⟨9, o, a, b2, [(k0 : Int)]⟩ := Option.some.inj (hx2.symm.trans hx)
  subst he2
  obtain ⟨_, _, _, hkv, hkc, hkm, hkrow⟩ := hkd
  simp at hkv
  obtain ⟨rfl, rfl⟩ := hkv
  have hbl : b < W.heap.size := World.block_lt_of_cell? W _ c0
  have hRR := hid (hT p hp)
  have hlv' := hid (fun W' (hW : Below W.heap.size W W') => specl10Lvalue_any hlv W' (hbW.trans (hW.mono hbW.size)))
  obtain ⟨kb, koff, rfl, hkro⟩ := slc_some hkrow (by simp)
  have kc0 : W.cell? ⟨kb, koff, none⟩ = some (.int .i64 (k0 : Nat)) := by
    have := hkro.one int1_len (show [(k0 : Int)][0]? = some (k0 : Int) from rfl) rfl
    simpa using this
  have hkl : kb < W.heap.size := World.block_lt_of_cell? W _ kc0
  have hB1 := hid (show Below W.heap.size W (((W.alloc (.cells #[.slice (some ⟨b, off, none⟩) l0.length cap, .bool full] 80)).alloc (.cells #[.int .i64 p.level, .bool p.dollar, .bool p.noIn, .bool p.noGt, .bool p.noSign] 36)).alloc (.cells #[.int .i64 9, .int .i64 o, .string a, .string b2, .slice (some ⟨kb, koff, none⟩) 1 kc] 58)) from (((Below.refl _ _).alloc (Nat.le_refl _) _).alloc (by simp) _).alloc (by simp <;> omega) _)
  obtain ⟨hx0, hx1, hx3⟩ := alloc3 W (.cells #[.slice (some ⟨b, off, none⟩) l0.length cap, .bool full] 80) (.cells #[.int .i64 p.level, .bool p.dollar, .bool p.noIn, .bool p.noGt, .bool p.noSign] 36) (.cells #[.int .i64 9, .int .i64 o, .string a, .string b2, .slice (some ⟨kb, koff, none⟩) 1 kc] 58)
  replace hx0 := hid hx0
  replace hx1 := hid hx1
  replace hx3 := hid hx3
  have hleaf := hid (fun w => specl10Leaf_any 9 o a b2 (some ⟨kb, koff, none⟩) 1 kc w)
  rw [show leafTok 9 a = ⟨0, ByteArray.empty, 0⟩ from rfl] at hleaf
  go_enter Tryz.func77, Tryz.ntmps77
  go_wp2_with fail
  generalize ((W.alloc (.cells #[.slice (some ⟨b, off, none⟩) l0.length cap, .bool full] 80)).alloc (.cells #[.int .i64 p.level, .bool p.dollar, .bool p.noIn, .bool p.noGt, .bool p.noSign] 36)).alloc (.cells #[.int .i64 9, .int .i64 o, .string a, .string b2, .slice (some ⟨kb, koff, none⟩) 1 kc] 58) = wa at hB1 hx0 hx1 hx3 ⊢
  refine (hleaf.out wa).mono ?_; rintro e wb ⟨rfl, hbb⟩
  have hB1 := hid (hB1.out.trans (hbb.mono hB1.out.size))
  have hx0 := hid (boxb hx0.out hbb)
  have hx1 := hid (boxb hx1.out hbb)
  have hx3 := hid (boxb hx3.out hbb)
  have ya := fun o' => boxb hx3.out ((Below.refl wb.heap.size wb).alloc (Nat.le_refl _) o')
  have y0 := fun o' => (box_cells (ya o')).1
  have y1 := fun o' => (box_cells (ya o')).2.1
  have y2 := fun o' => (box_cells (ya o')).2.2.1
  have y3 := fun o' => (box_cells (ya o')).2.2.2.1
  have y4 := fun o' => (box_cells (ya o')).2.2.2.2
  clear ya hbb hleaf
  go_wp2_with fail
  clear y0 y1 y2 y3 y4
  have hbc : Below wb.heap.size wb (wb.alloc (.cells #[.int .i64 0, .string ByteArray.empty, .int .i64 0] 50)) := (Below.refl _ _).alloc (Nat.le_refl _) _
  have hB1 := hid (hB1.out.trans (hbc.mono hB1.out.size))
  have hx0 := hid (boxb hx0.out hbc)
  have hx1 := hid (boxb hx1.out hbc)
  have hx3 := hid (boxb hx3.out hbc)
  clear hbc
  generalize wb.alloc (.cells #[.int .i64 0, .string ByteArray.empty, .int .i64 0] 50) = W1 at hB1 hx0 hx1 hx3 ⊢
  have kc1 := (hB1.out.cell (p := ⟨kb, koff, none⟩) hkl).trans kc0
  have hkl1 : kb < W1.heap.size := Nat.lt_of_lt_of_le hkl hB1.out.size
  clear kc0
  generalize (treeIx l0 k0).tkb full posLv = R at *
  have hS := hid (show ∀ W', Below W1.heap.size W1 W' → Below W1.heap.size W1 W' ∧ W'.cell? ⟨W.heap.size + 1 + 1, 1, none⟩ = some (.int .i64 o) ∧ W'.cell? ⟨W.heap.size + 1 + 1, 4, none⟩ = some (.slice (some ⟨kb, koff, none⟩) 1 kc) ∧ W'.cell? ⟨W.heap.size, 0, none⟩ = some (.slice (some ⟨b, off, none⟩) l0.length cap) ∧ W'.cell? ⟨W.heap.size, 1, none⟩ = some (.bool full) ∧ W'.cell? ⟨kb, koff, none⟩ = some (.int .i64 (k0 : Nat)) from fun W' hW => ⟨hW, box_cell (boxb hx3.out hW) rfl, box_cell (boxb hx3.out hW) rfl, box_cell (boxb hx0.out hW) rfl, box_cell (boxb hx0.out hW) rfl, (hW.cell (p := ⟨kb, koff, none⟩) hkl1).trans kc1⟩)
  go_region_held3 (fun W' => Below W1.heap.size W1 W' ∧ W'.cell? ⟨W.heap.size + 1 + 1, 1, none⟩ = some (.int .i64 o) ∧ W'.cell? ⟨W.heap.size + 1 + 1, 4, none⟩ = some (.slice (some ⟨kb, koff, none⟩) 1 kc) ∧ W'.cell? ⟨W.heap.size, 0, none⟩ = some (.slice (some ⟨b, off, none⟩) l0.length cap) ∧ W'.cell? ⟨W.heap.size, 1, none⟩ = some (.bool full) ∧ W'.cell? ⟨kb, koff, none⟩ = some (.int .i64 (k0 : Nat)))
    (first
      | (refine hS.out _ ?_
         with_reducible (first
           | exact (Below.refl _ _).drew
           | exact hBt
           | exact hBl
           | exact keep_a (by assumption) _
           | exact hT2.hb)))
    (first
      | (go_at_call 79; refine (specl10Tok_any o _).mono ?_; rintro e wt ⟨rfl, hbt⟩; have hBt : Below W1.heap.size W1 wt := keep_b2 (by assumption) hbt)
      | (go_at_call 102; refine (hlv'.out _ (hB1.out.trans ((keep1 (w := W1) (by assumption)).mono hB1.out.size))).mono ?_; rintro e wl ⟨vl, rfl, hTl⟩; have hBl : Below W1.heap.size W1 wl := keep_b2 (by assumption) hTl.hb; have hTl1 := hTl.elder (keep1 (w := W1) (by assumption)))
      | (refine step_append_tok (w := W1) (by rfl) _ _ (by rfl) _ _ [sgn o] R (by rfl) (by rfl)
          (by first
            | exact TokAt.lit1 hBt _ _
            | exact TokAt.lit1 hBl _ _
            | exact (TokAt.lit1 hBt _ _).below hTl.hb
            | exact (TokAt.lit1 hBt _ _).drew.below hTl.hb)
          (by first
            | exact hTl
            | exact hTl.alloc _
            | exact (hTl.below hbt).alloc _) (by first | omega | (simp; omega)) ?_; intro v2 w2 hT2 hfr))
  all_goals
    have hT3 : Hid (TokAt W w2 v2 ((treeIx l0 i).tkb full p)) := hid (by rw [hRR.out]; simpa [sgn] using hT2.elder hB1.out)
    obtain ⟨va, vc, rfl, _⟩ := hT2.shape
    clear hT2 hfr hS
    go_wp2
    go_ret
    exact ⟨_, rfl, hT3.out⟩
set_option maxRecDepth 100000 in
set_option maxHeartbeats 6400000 in
theorem specl10Node_6 {w0 : World} {l0 : List Node} {a0 : Option Addr} {cap : Nat} {full : Bool} {i k0 : Nat} {o : Int} {a b2 : ByteArray} (hv : NodeSlc w0 (.slice a0 l0.length cap) l0) (hx : l0[i]? = some ⟨6, o, a, b2, [(k0 : Int)]⟩) (har : arity 6 1) (hop : (6 : Int) = 12 → opLevelB o ≠ 0) (hat : SAtC w0 l0 a0 cap full k0) (hlen : ∀ q, ((treeIx l0 k0).tks full q).length ≤ 10000) (hT : ∀ p, posOkB p = true → (treeIx l0 i).tkb full p = sgn 68 :: (treeIx l0 k0).tks full (kidPosB 6 o 1 0 p)) : SNodeC w0 l0 a0 cap full i := by
  intro p W hp hbW
  obtain ⟨a1, cap1, he1, hm1, hc1, hsl⟩ := hv.shape
  injection he1 with e1 _ e3
  subst e1; subst e3
  have hi := (List.getElem?_eq_some_iff.1 hx).1
  obtain ⟨x, ka, kc, b, off, hx2, he2, c0, c1, c2, c3, c4, hkd⟩ := hsl.at hbW (Nat.le_refl _) hi
  obtain rfl : x = ⟨6, o, a, b2, [(k0 : Int)]⟩ := Option.some.inj (hx2.symm.trans hx)
  subst he2
  obtain ⟨_, _, _, hkv, hkc, hkm, hkrow⟩ := hkd
  simp at hkv
  obtain ⟨rfl, rfl⟩ := hkv
  have hbl : b < W.heap.size := World.block_lt_of_cell? W _ c0
  have hRR := hid (hT p hp)
  obtain ⟨kb, koff, rfl, hkro⟩ := slc_some hkrow (by simp)
  have kc0 : W.cell? ⟨kb, koff, none⟩ = some (.int .i64 (k0 : Nat)) := by
    have := hkro.one int1_len (show [(k0 : Int)][0]? = some (k0 : Int) from rfl) rfl
    simpa using this
  have hkl : kb < W.heap.size := World.block_lt_of_cell? W _ kc0
  have hq := hid (kidPos_ok (k := 6) (o := o) (n := 1) (j := 0) hp (by omega) (levelB_pos har.1 hop))
  have hkp := hid (fun W' => show Calls Tryz.prog 103 #[.agg #[.int .i64 6, .int .i64 o, .string a, .string b2, .slice (some ⟨kb, koff, none⟩) 1 kc], .int .i64 0, .agg #[.int .i64 p.level, .bool p.dollar, .bool p.noIn, .bool p.noGt, .bool p.noSign]] W' fun e w' => e = .returned (.agg #[.int .i64 (kidPosB 6 o 1 0 p).level, .bool (kidPosB 6 o 1 0 p).dollar, .bool (kidPosB 6 o 1 0 p).noIn, .bool (kidPosB 6 o 1 0 p).noGt, .bool (kidPosB 6 o 1 0 p).noSign]) ∧ Below W'.heap.size W' w' from specKidPos_any 6 o a b2 (some ⟨kb, koff, none⟩) 1 kc 0 p W' hp (by omega) har hop)
  have hat' := hid (fun W' (hW : Below W.heap.size W W') => hat (kidPosB 6 o 1 0 p) W' hq.out (hbW.trans (hW.mono hbW.size)))
  have hlen2 := hlen (kidPosB 6 o 1 0 p)
  unfold TokPost at hat'
  generalize (treeIx l0 k0).tks full (kidPosB 6 o 1 0 p) = R at *
  generalize kidPosB 6 o 1 0 p = q at *
  have hB1 := hid (show Below W.heap.size W (((W.alloc (.cells #[.slice (some ⟨b, off, none⟩) l0.length cap, .bool full] 80)).alloc (.cells #[.int .i64 p.level, .bool p.dollar, .bool p.noIn, .bool p.noGt, .bool p.noSign] 36)).alloc (.cells #[.int .i64 6, .int .i64 o, .string a, .string b2, .slice (some ⟨kb, koff, none⟩) 1 kc] 58)) from (((Below.refl _ _).alloc (Nat.le_refl _) _).alloc (by simp) _).alloc (by simp <;> omega) _)
  obtain ⟨hx0, hx1, hx3⟩ := alloc3 W (.cells #[.slice (some ⟨b, off, none⟩) l0.length cap, .bool full] 80) (.cells #[.int .i64 p.level, .bool p.dollar, .bool p.noIn, .bool p.noGt, .bool p.noSign] 36) (.cells #[.int .i64 6, .int .i64 o, .string a, .string b2, .slice (some ⟨kb, koff, none⟩) 1 kc] 58)
  replace hx0 := hid hx0
  replace hx1 := hid hx1
  replace hx3 := hid hx3
  have hleaf := hid (fun w => specl10Leaf_any 6 o a b2 (some ⟨kb, koff, none⟩) 1 kc w)
  rw [show leafTok 6 a = ⟨0, ByteArray.empty, 0⟩ from rfl] at hleaf
  go_enter Tryz.func77, Tryz.ntmps77
  go_wp2_with fail
  generalize ((W.alloc (.cells #[.slice (some ⟨b, off, none⟩) l0.length cap, .bool full] 80)).alloc (.cells #[.int .i64 p.level, .bool p.dollar, .bool p.noIn, .bool p.noGt, .bool p.noSign] 36)).alloc (.cells #[.int .i64 6, .int .i64 o, .string a, .string b2, .slice (some ⟨kb, koff, none⟩) 1 kc] 58) = wa at hB1 hx0 hx1 hx3 ⊢
  refine (hleaf.out wa).mono ?_; rintro e wb ⟨rfl, hbb⟩
  have hB1 := hid (hB1.out.trans (hbb.mono hB1.out.size))
  have hx0 := hid (boxb hx0.out hbb)
  have hx1 := hid (boxb hx1.out hbb)
  have hx3 := hid (boxb hx3.out hbb)
  have ya := fun o' => boxb hx3.out ((Below.refl wb.heap.size wb).alloc (Nat.le_refl _) o')
  have y0 := fun o' => (box_cells (ya o')).1
  have y1 := fun o' => (box_cells (ya o')).2.1
  have y2 := fun o' => (box_cells (ya o')).2.2.1
  have y3 := fun o' => (box_cells (ya o')).2.2.2.1
  have y4 := fun o' => (box_cells (ya o')).2.2.2.2
  clear ya hbb hleaf
  go_wp2_with fail
  clear y0 y1 y2 y3 y4
  have hbc : Below wb.heap.size wb (wb.alloc (.cells #[.int .i64 0, .string ByteArray.empty, .int .i64 0] 50)) := (Below.refl _ _).alloc (Nat.le_refl _) _
  have hB1 := hid (hB1.out.trans (hbc.mono hB1.out.size))
  have hx0 := hid (boxb hx0.out hbc)
  have hx1 := hid (boxb hx1.out hbc)
  have hx3 := hid (boxb hx3.out hbc)
  clear hbc
  generalize wb.alloc (.cells #[.int .i64 0, .string ByteArray.empty, .int .i64 0] 50) = W1 at hB1 hx0 hx1 hx3 ⊢
  have kc1 := (hB1.out.cell (p := ⟨kb, koff, none⟩) hkl).trans kc0
  have hkl1 : kb < W1.heap.size := Nat.lt_of_lt_of_le hkl hB1.out.size
  clear kc0
  have hS := hid (show ∀ W', Below W1.heap.size W1 W' → Below W1.heap.size W1 W' ∧ W'.cell? ⟨W.heap.size + 1 + 1, 0, none⟩ = some (.int .i64 6) ∧ W'.cell? ⟨W.heap.size + 1 + 1, 1, none⟩ = some (.int .i64 o) ∧ W'.cell? ⟨W.heap.size + 1 + 1, 2, none⟩ = some (.string a) ∧ W'.cell? ⟨W.heap.size + 1 + 1, 3, none⟩ = some (.string b2) ∧ W'.cell? ⟨W.heap.size + 1 + 1, 4, none⟩ = some (.slice (some ⟨kb, koff, none⟩) 1 kc) ∧ W'.cell? ⟨W.heap.size, 0, none⟩ = some (.slice (some ⟨b, off, none⟩) l0.length cap) ∧ W'.cell? ⟨W.heap.size, 1, none⟩ = some (.bool full) ∧ W'.cell? ⟨W.heap.size + 1, 0, none⟩ = some (.int .i64 p.level) ∧ W'.cell? ⟨W.heap.size + 1, 1, none⟩ = some (.bool p.dollar) ∧ W'.cell? ⟨W.heap.size + 1, 2, none⟩ = some (.bool p.noIn) ∧ W'.cell? ⟨W.heap.size + 1, 3, none⟩ = some (.bool p.noGt) ∧ W'.cell? ⟨W.heap.size + 1, 4, none⟩ = some (.bool p.noSign) ∧ W'.cell? ⟨kb, koff, none⟩ = some (.int .i64 (k0 : Nat)) from fun W' hW => ⟨hW, box_cell (boxb hx3.out hW) rfl, box_cell (boxb hx3.out hW) rfl, box_cell (boxb hx3.out hW) rfl, box_cell (boxb hx3.out hW) rfl, box_cell (boxb hx3.out hW) rfl, box_cell (boxb hx0.out hW) rfl, box_cell (boxb hx0.out hW) rfl, box_cell (boxb hx1.out hW) rfl, box_cell (boxb hx1.out hW) rfl, box_cell (boxb hx1.out hW) rfl, box_cell (boxb hx1.out hW) rfl, box_cell (boxb hx1.out hW) rfl, (hW.cell (p := ⟨kb, koff, none⟩) hkl1).trans kc1⟩)
  go_region_held3 (fun W' => Below W1.heap.size W1 W' ∧ W'.cell? ⟨W.heap.size + 1 + 1, 0, none⟩ = some (.int .i64 6) ∧ W'.cell? ⟨W.heap.size + 1 + 1, 1, none⟩ = some (.int .i64 o) ∧ W'.cell? ⟨W.heap.size + 1 + 1, 2, none⟩ = some (.string a) ∧ W'.cell? ⟨W.heap.size + 1 + 1, 3, none⟩ = some (.string b2) ∧ W'.cell? ⟨W.heap.size + 1 + 1, 4, none⟩ = some (.slice (some ⟨kb, koff, none⟩) 1 kc) ∧ W'.cell? ⟨W.heap.size, 0, none⟩ = some (.slice (some ⟨b, off, none⟩) l0.length cap) ∧ W'.cell? ⟨W.heap.size, 1, none⟩ = some (.bool full) ∧ W'.cell? ⟨W.heap.size + 1, 0, none⟩ = some (.int .i64 p.level) ∧ W'.cell? ⟨W.heap.size + 1, 1, none⟩ = some (.bool p.dollar) ∧ W'.cell? ⟨W.heap.size + 1, 2, none⟩ = some (.bool p.noIn) ∧ W'.cell? ⟨W.heap.size + 1, 3, none⟩ = some (.bool p.noGt) ∧ W'.cell? ⟨W.heap.size + 1, 4, none⟩ = some (.bool p.noSign) ∧ W'.cell? ⟨kb, koff, none⟩ = some (.int .i64 (k0 : Nat)))
    (first
      | (refine hS.out _ ?_
         with_reducible (first
           | exact (Below.refl _ _).drew
           | exact hBt
           | exact hBk
           | exact hBl
           | exact keep_a (by assumption) _
           | exact hT2.hb)))
    (first
      | (go_at_call 79; refine (specl10Tok_any 68 _).mono ?_; rintro e wt ⟨rfl, hbt⟩; have hBt : Below W1.heap.size W1 wt := keep_b2 (by assumption) hbt)
      | (go_at_call 103; refine (hkp.out _).mono ?_; rintro e wk ⟨rfl, hbk⟩; have hBk : Below W1.heap.size W1 wk := keep_b2 (by assumption) hbk)
      | (go_at_call 55; refine (hat'.out _ (hB1.out.trans ((keep1 (w := W1) (by assumption)).mono hB1.out.size))).mono ?_; rintro e wl ⟨vl, rfl, hTl⟩; have hBl : Below W1.heap.size W1 wl := keep_b2 (by assumption) hTl.hb; have hTl1 := hTl.elder (keep1 (w := W1) (by assumption)))
      | (refine step_append_tok (w := W1) (by rfl) _ _ (by rfl) _ _ [sgn 68] R (by rfl) (by rfl)
          (by first
            | exact TokAt.lit1 hBt _ _
            | exact TokAt.lit1 hBk _ _
            | exact TokAt.lit1 hBl _ _
            | exact (TokAt.lit1 hBt _ _).below hTl.hb
            | exact (TokAt.lit1 hBk _ _).below hTl.hb
            | exact ((TokAt.lit1 hBt _ _).below hbk).below hTl.hb)
          (by first
            | exact hTl
            | exact hTl.alloc _
            | exact (hTl.below hbt).alloc _) (by first | omega | (simp; omega)) ?_; intro v2 w2 hT2 hfr))
  all_goals
    have hT3 : Hid (TokAt W w2 v2 ((treeIx l0 i).tkb full p)) := hid (by rw [hRR.out]; simpa [sgn] using hT2.elder hB1.out)
    obtain ⟨va, vc, rfl, _⟩ := hT2.shape
    clear hT2 hfr hS
    go_wp2
    go_ret
    exact ⟨_, rfl, hT3.out⟩
set_option maxRecDepth 100000 in
set_option maxHeartbeats 6400000 in
theorem specl10Node_11 {w0 : World} {l0 : List Node} {a0 : Option Addr} {cap : Nat} {full : Bool} {i k0 : Nat} {o : Int} {a b2 : ByteArray} (hv : NodeSlc w0 (.slice a0 l0.length cap) l0) (hx : l0[i]? = some ⟨11, o, a, b2, [(k0 : Int)]⟩) (har : arity 11 1) (hop : (11 : Int) = 12 → opLevelB o ≠ 0) (hat : SAtC w0 l0 a0 cap full k0) (hlen : ∀ q, ((treeIx l0 k0).tks full q).length ≤ 10000) (hT : ∀ p, posOkB p = true → (treeIx l0 i).tkb full p = sgn o :: (treeIx l0 k0).tks full (kidPosB 11 o 1 0 p)) : SNodeC w0 l0 a0 cap full i := by
  intro p W hp hbW
  obtain ⟨a1, cap1, he1, hm1, hc1, hsl⟩ := hv.shape
  injection he1 with e1 _ e3
  subst e1; subst e3
  have hi := (List.getElem?_eq_some_iff.1 hx).1
  obtain ⟨x, ka, kc, b, off, hx2, he2, c0, c1, c2, c3, c4, hkd⟩ := hsl.at hbW (Nat.le_refl _) hi
  obtain rfl : x = ⟨11, o, a, b2, [(k0 : Int)]⟩ := Option.some.inj (hx2.symm.trans hx)
  subst he2
  obtain ⟨_, _, _, hkv, hkc, hkm, hkrow⟩ := hkd
  simp at hkv
  obtain ⟨rfl, rfl⟩ := hkv
  have hbl : b < W.heap.size := World.block_lt_of_cell? W _ c0
  have hRR := hid (hT p hp)
  obtain ⟨kb, koff, rfl, hkro⟩ := slc_some hkrow (by simp)
  have kc0 : W.cell? ⟨kb, koff, none⟩ = some (.int .i64 (k0 : Nat)) := by
    have := hkro.one int1_len (show [(k0 : Int)][0]? = some (k0 : Int) from rfl) rfl
    simpa using this
  have hkl : kb < W.heap.size := World.block_lt_of_cell? W _ kc0
  have hq := hid (kidPos_ok (k := 11) (o := o) (n := 1) (j := 0) hp (by omega) (levelB_pos har.1 hop))
  have hkp := hid (fun W' => show Calls Tryz.prog 103 #[.agg #[.int .i64 11, .int .i64 o, .string a, .string b2, .slice (some ⟨kb, koff, none⟩) 1 kc], .int .i64 0, .agg #[.int .i64 p.level, .bool p.dollar, .bool p.noIn, .bool p.noGt, .bool p.noSign]] W' fun e w' => e = .returned (.agg #[.int .i64 (kidPosB 11 o 1 0 p).level, .bool (kidPosB 11 o 1 0 p).dollar, .bool (kidPosB 11 o 1 0 p).noIn, .bool (kidPosB 11 o 1 0 p).noGt, .bool (kidPosB 11 o 1 0 p).noSign]) ∧ Below W'.heap.size W' w' from specKidPos_any 11 o a b2 (some ⟨kb, koff, none⟩) 1 kc 0 p W' hp (by omega) har hop)
  have hat' := hid (fun W' (hW : Below W.heap.size W W') => hat (kidPosB 11 o 1 0 p) W' hq.out (hbW.trans (hW.mono hbW.size)))
  have hlen2 := hlen (kidPosB 11 o 1 0 p)
  unfold TokPost at hat'
  generalize (treeIx l0 k0).tks full (kidPosB 11 o 1 0 p) = R at *
  generalize kidPosB 11 o 1 0 p = q at *
  have hB1 := hid (show Below W.heap.size W (((W.alloc (.cells #[.slice (some ⟨b, off, none⟩) l0.length cap, .bool full] 80)).alloc (.cells #[.int .i64 p.level, .bool p.dollar, .bool p.noIn, .bool p.noGt, .bool p.noSign] 36)).alloc (.cells #[.int .i64 11, .int .i64 o, .string a, .string b2, .slice (some ⟨kb, koff, none⟩) 1 kc] 58)) from (((Below.refl _ _).alloc (Nat.le_refl _) _).alloc (by simp) _).alloc (by simp <;> omega) _)
  obtain ⟨hx0, hx1, hx3⟩ := alloc3 W (.cells #[.slice (some ⟨b, off, none⟩) l0.length cap, .bool full] 80) (.cells #[.int .i64 p.level, .bool p.dollar, .bool p.noIn, .bool p.noGt, .bool p.noSign] 36) (.cells #[.int .i64 11, .int .i64 o, .string a, .string b2, .slice (some ⟨kb, koff, none⟩) 1 kc] 58)
  replace hx0 := hid hx0
  replace hx1 := hid hx1
  replace hx3 := hid hx3
  have hleaf := hid (fun w => specl10Leaf_any 11 o a b2 (some ⟨kb, koff, none⟩) 1 kc w)
  rw [show leafTok 11 a = ⟨0, ByteArray.empty, 0⟩ from rfl] at hleaf
  go_enter Tryz.func77, Tryz.ntmps77
  go_wp2_with fail
  generalize ((W.alloc (.cells #[.slice (some ⟨b, off, none⟩) l0.length cap, .bool full] 80)).alloc (.cells #[.int .i64 p.level, .bool p.dollar, .bool p.noIn, .bool p.noGt, .bool p.noSign] 36)).alloc (.cells #[.int .i64 11, .int .i64 o, .string a, .string b2, .slice (some ⟨kb, koff, none⟩) 1 kc] 58) = wa at hB1 hx0 hx1 hx3 ⊢
  refine (hleaf.out wa).mono ?_; rintro e wb ⟨rfl, hbb⟩
  have hB1 := hid (hB1.out.trans (hbb.mono hB1.out.size))
  have hx0 := hid (boxb hx0.out hbb)
  have hx1 := hid (boxb hx1.out hbb)
  have hx3 := hid (boxb hx3.out hbb)
  have ya := fun o' => boxb hx3.out ((Below.refl wb.heap.size wb).alloc (Nat.le_refl _) o')
  have y0 := fun o' => (box_cells (ya o')).1
  have y1 := fun o' => (box_cells (ya o')).2.1
  have y2 := fun o' => (box_cells (ya o')).2.2.1
  have y3 := fun o' => (box_cells (ya o')).2.2.2.1
  have y4 := fun o' => (box_cells (ya o')).2.2.2.2
  clear ya hbb hleaf
  go_wp2_with fail
  clear y0 y1 y2 y3 y4
  have hbc : Below wb.heap.size wb (wb.alloc (.cells #[.int .i64 0, .string ByteArray.empty, .int .i64 0] 50)) := (Below.refl _ _).alloc (Nat.le_refl _) _
  have hB1 := hid (hB1.out.trans (hbc.mono hB1.out.size))
  have hx0 := hid (boxb hx0.out hbc)
  have hx1 := hid (boxb hx1.out hbc)
  have hx3 := hid (boxb hx3.out hbc)
  clear hbc
  generalize wb.alloc (.cells #[.int .i64 0, .string ByteArray.empty, .int .i64 0] 50) = W1 at hB1 hx0 hx1 hx3 ⊢
  have kc1 := (hB1.out.cell (p := ⟨kb, koff, none⟩) hkl).trans kc0
  have hkl1 : kb < W1.heap.size := Nat.lt_of_lt_of_le hkl hB1.out.size
  clear kc0
  have hS := hid (show ∀ W', Below W1.heap.size W1 W' → Below W1.heap.size W1 W' ∧ W'.cell? ⟨W.heap.size + 1 + 1, 0, none⟩ = some (.int .i64 11) ∧ W'.cell? ⟨W.heap.size + 1 + 1, 1, none⟩ = some (.int .i64 o) ∧ W'.cell? ⟨W.heap.size + 1 + 1, 2, none⟩ = some (.string a) ∧ W'.cell? ⟨W.heap.size + 1 + 1, 3, none⟩ = some (.string b2) ∧ W'.cell? ⟨W.heap.size + 1 + 1, 4, none⟩ = some (.slice (some ⟨kb, koff, none⟩) 1 kc) ∧ W'.cell? ⟨W.heap.size, 0, none⟩ = some (.slice (some ⟨b, off, none⟩) l0.length cap) ∧ W'.cell? ⟨W.heap.size, 1, none⟩ = some (.bool full) ∧ W'.cell? ⟨W.heap.size + 1, 0, none⟩ = some (.int .i64 p.level) ∧ W'.cell? ⟨W.heap.size + 1, 1, none⟩ = some (.bool p.dollar) ∧ W'.cell? ⟨W.heap.size + 1, 2, none⟩ = some (.bool p.noIn) ∧ W'.cell? ⟨W.heap.size + 1, 3, none⟩ = some (.bool p.noGt) ∧ W'.cell? ⟨W.heap.size + 1, 4, none⟩ = some (.bool p.noSign) ∧ W'.cell? ⟨kb, koff, none⟩ = some (.int .i64 (k0 : Nat)) from fun W' hW => ⟨hW, box_cell (boxb hx3.out hW) rfl, box_cell (boxb hx3.out hW) rfl, box_cell (boxb hx3.out hW) rfl, box_cell (boxb hx3.out hW) rfl, box_cell (boxb hx3.out hW) rfl, box_cell (boxb hx0.out hW) rfl, box_cell (boxb hx0.out hW) rfl, box_cell (boxb hx1.out hW) rfl, box_cell (boxb hx1.out hW) rfl, box_cell (boxb hx1.out hW) rfl, box_cell (boxb hx1.out hW) rfl, box_cell (boxb hx1.out hW) rfl, (hW.cell (p := ⟨kb, koff, none⟩) hkl1).trans kc1⟩)
  go_region_held3 (fun W' => Below W1.heap.size W1 W' ∧ W'.cell? ⟨W.heap.size + 1 + 1, 0, none⟩ = some (.int .i64 11) ∧ W'.cell? ⟨W.heap.size + 1 + 1, 1, none⟩ = some (.int .i64 o) ∧ W'.cell? ⟨W.heap.size + 1 + 1, 2, none⟩ = some (.string a) ∧ W'.cell? ⟨W.heap.size + 1 + 1, 3, none⟩ = some (.string b2) ∧ W'.cell? ⟨W.heap.size + 1 + 1, 4, none⟩ = some (.slice (some ⟨kb, koff, none⟩) 1 kc) ∧ W'.cell? ⟨W.heap.size, 0, none⟩ = some (.slice (some ⟨b, off, none⟩) l0.length cap) ∧ W'.cell? ⟨W.heap.size, 1, none⟩ = some (.bool full) ∧ W'.cell? ⟨W.heap.size + 1, 0, none⟩ = some (.int .i64 p.level) ∧ W'.cell? ⟨W.heap.size + 1, 1, none⟩ = some (.bool p.dollar) ∧ W'.cell? ⟨W.heap.size + 1, 2, none⟩ = some (.bool p.noIn) ∧ W'.cell? ⟨W.heap.size + 1, 3, none⟩ = some (.bool p.noGt) ∧ W'.cell? ⟨W.heap.size + 1, 4, none⟩ = some (.bool p.noSign) ∧ W'.cell? ⟨kb, koff, none⟩ = some (.int .i64 (k0 : Nat)))
    (first
      | (refine hS.out _ ?_
         with_reducible (first
           | exact (Below.refl _ _).drew
           | exact hBt
           | exact hBk
           | exact hBl
           | exact keep_a (by assumption) _
           | exact hT2.hb)))
    (first
      | (go_at_call 79; refine (specl10Tok_any o _).mono ?_; rintro e wt ⟨rfl, hbt⟩; have hBt : Below W1.heap.size W1 wt := keep_b2 (by assumption) hbt)
      | (go_at_call 103; refine (hkp.out _).mono ?_; rintro e wk ⟨rfl, hbk⟩; have hBk : Below W1.heap.size W1 wk := keep_b2 (by assumption) hbk)
      | (go_at_call 55; refine (hat'.out _ (hB1.out.trans ((keep1 (w := W1) (by assumption)).mono hB1.out.size))).mono ?_; rintro e wl ⟨vl, rfl, hTl⟩; have hBl : Below W1.heap.size W1 wl := keep_b2 (by assumption) hTl.hb; have hTl1 := hTl.elder (keep1 (w := W1) (by assumption)))
      | (refine step_append_tok (w := W1) (by rfl) _ _ (by rfl) _ _ [sgn o] R (by rfl) (by rfl)
          (by first
            | exact TokAt.lit1 hBt _ _
            | exact TokAt.lit1 hBk _ _
            | exact TokAt.lit1 hBl _ _
            | exact (TokAt.lit1 hBt _ _).below hTl.hb
            | exact (TokAt.lit1 hBk _ _).below hTl.hb
            | exact ((TokAt.lit1 hBt _ _).below hbk).below hTl.hb)
          (by first
            | exact hTl
            | exact hTl.alloc _
            | exact (hTl.below hbt).alloc _) (by first | omega | (simp; omega)) ?_; intro v2 w2 hT2 hfr))
  all_goals
    have hT3 : Hid (TokAt W w2 v2 ((treeIx l0 i).tkb full p)) := hid (by rw [hRR.out]; simpa [sgn] using hT2.elder hB1.out)
    obtain ⟨va, vc, rfl, _⟩ := hT2.shape
    clear hT2 hfr hS
    go_wp2
    go_ret
    exact ⟨_, rfl, hT3.out⟩
set_option maxRecDepth 100000 in
set_option maxHeartbeats 6400000 in
theorem specl10Node_10 {w0 : World} {l0 : List Node} {a0 : Option Addr} {cap : Nat} {full : Bool} {i k0 : Nat} {o : Int} {a b2 : ByteArray} (hv : NodeSlc w0 (.slice a0 l0.length cap) l0) (hx : l0[i]? = some ⟨10, o, a, b2, [(k0 : Int)]⟩) (hlv : SNodeC w0 l0 a0 cap full k0) (hlen : ((treeIx l0 k0).tkb full posLv).length ≤ 10000) (hT : ∀ p, posOkB p = true → (treeIx l0 i).tkb full p = (treeIx l0 k0).tkb full posLv ++ [sgn o]) : SNodeC w0 l0 a0 cap full i := by
  intro p W hp hbW
  obtain ⟨a1, cap1, he1, hm1, hc1, hsl⟩ := hv.shape
  injection he1 with e1 _ e3
  subst e1; subst e3
  have hi := (List.getElem?_eq_some_iff.1 hx).1
  obtain ⟨x, ka, kc, b, off, hx2, he2, c0, c1, c2, c3, c4, hkd⟩ := hsl.at hbW (Nat.le_refl _) hi
  obtain rfl : x = ⟨10, o, a, b2, [(k0 : Int)]⟩ := Option.some.inj (hx2.symm.trans hx)
  subst he2
  obtain ⟨_, _, _, hkv, hkc, hkm, hkrow⟩ := hkd
  simp at hkv
  obtain ⟨rfl, rfl⟩ := hkv
  have hbl : b < W.heap.size := World.block_lt_of_cell? W _ c0
  have hRR := hid (hT p hp)
  have hlv' := hid (fun W' (hW : Below W.heap.size W W') => specl10Lvalue_any hlv W' (hbW.trans (hW.mono hbW.size)))
  obtain ⟨kb, koff, rfl, hkro⟩ := slc_some hkrow (by simp)
  have kc0 : W.cell? ⟨kb, koff, none⟩ = some (.int .i64 (k0 : Nat)) := by
    have := hkro.one int1_len (show [(k0 : Int)][0]? = some (k0 : Int) from rfl) rfl
    simpa using this
  have hkl : kb < W.heap.size := World.block_lt_of_cell? W _ kc0
  have hB1 := hid (show Below W.heap.size W (((W.alloc (.cells #[.slice (some ⟨b, off, none⟩) l0.length cap, .bool full] 80)).alloc (.cells #[.int .i64 p.level, .bool p.dollar, .bool p.noIn, .bool p.noGt, .bool p.noSign] 36)).alloc (.cells #[.int .i64 10, .int .i64 o, .string a, .string b2, .slice (some ⟨kb, koff, none⟩) 1 kc] 58)) from (((Below.refl _ _).alloc (Nat.le_refl _) _).alloc (by simp) _).alloc (by simp <;> omega) _)
  obtain ⟨hx0, hx1, hx3⟩ := alloc3 W (.cells #[.slice (some ⟨b, off, none⟩) l0.length cap, .bool full] 80) (.cells #[.int .i64 p.level, .bool p.dollar, .bool p.noIn, .bool p.noGt, .bool p.noSign] 36) (.cells #[.int .i64 10, .int .i64 o, .string a, .string b2, .slice (some ⟨kb, koff, none⟩) 1 kc] 58)
  replace hx0 := hid hx0
  replace hx1 := hid hx1
  replace hx3 := hid hx3
  have hleaf := hid (fun w => specl10Leaf_any 10 o a b2 (some ⟨kb, koff, none⟩) 1 kc w)
  rw [show leafTok 10 a = ⟨0, ByteArray.empty, 0⟩ from rfl] at hleaf
  go_enter Tryz.func77, Tryz.ntmps77
  go_wp2_with fail
  generalize ((W.alloc (.cells #[.slice (some ⟨b, off, none⟩) l0.length cap, .bool full] 80)).alloc (.cells #[.int .i64 p.level, .bool p.dollar, .bool p.noIn, .bool p.noGt, .bool p.noSign] 36)).alloc (.cells #[.int .i64 10, .int .i64 o, .string a, .string b2, .slice (some ⟨kb, koff, none⟩) 1 kc] 58) = wa at hB1 hx0 hx1 hx3 ⊢
  refine (hleaf.out wa).mono ?_; rintro e wb ⟨rfl, hbb⟩
  have hB1 := hid (hB1.out.trans (hbb.mono hB1.out.size))
  have hx0 := hid (boxb hx0.out hbb)
  have hx1 := hid (boxb hx1.out hbb)
  have hx3 := hid (boxb hx3.out hbb)
  have ya := fun o' => boxb hx3.out ((Below.refl wb.heap.size wb).alloc (Nat.le_refl _) o')
  have y0 := fun o' => (box_cells (ya o')).1
  have y1 := fun o' => (box_cells (ya o')).2.1
  have y2 := fun o' => (box_cells (ya o')).2.2.1
  have y3 := fun o' => (box_cells (ya o')).2.2.2.1
  have y4 := fun o' => (box_cells (ya o')).2.2.2.2
  clear ya hbb hleaf
  go_wp2_with fail
  clear y0 y1 y2 y3 y4
  have hbc : Below wb.heap.size wb (wb.alloc (.cells #[.int .i64 0, .string ByteArray.empty, .int .i64 0] 50)) := (Below.refl _ _).alloc (Nat.le_refl _) _
  have hB1 := hid (hB1.out.trans (hbc.mono hB1.out.size))
  have hx0 := hid (boxb hx0.out hbc)
  have hx1 := hid (boxb hx1.out hbc)
  have hx3 := hid (boxb hx3.out hbc)
  clear hbc
  generalize wb.alloc (.cells #[.int .i64 0, .string ByteArray.empty, .int .i64 0] 50) = W1 at hB1 hx0 hx1 hx3 ⊢
  have kc1 := (hB1.out.cell (p := ⟨kb, koff, none⟩) hkl).trans kc0
  have hkl1 : kb < W1.heap.size := Nat.lt_of_lt_of_le hkl hB1.out.size
  clear kc0
  generalize (treeIx l0 k0).tkb full posLv = R at *
  have hS := hid (show ∀ W', Below W1.heap.size W1 W' → Below W1.heap.size W1 W' ∧ W'.cell? ⟨W.heap.size + 1 + 1, 1, none⟩ = some (.int .i64 o) ∧ W'.cell? ⟨W.heap.size + 1 + 1, 4, none⟩ = some (.slice (some ⟨kb, koff, none⟩) 1 kc) ∧ W'.cell? ⟨W.heap.size, 0, none⟩ = some (.slice (some ⟨b, off, none⟩) l0.length cap) ∧ W'.cell? ⟨W.heap.size, 1, none⟩ = some (.bool full) ∧ W'.cell? ⟨kb, koff, none⟩ = some (.int .i64 (k0 : Nat)) from fun W' hW => ⟨hW, box_cell (boxb hx3.out hW) rfl, box_cell (boxb hx3.out hW) rfl, box_cell (boxb hx0.out hW) rfl, box_cell (boxb hx0.out hW) rfl, (hW.cell (p := ⟨kb, koff, none⟩) hkl1).trans kc1⟩)
  go_region_held3 (fun W' => Below W1.heap.size W1 W' ∧ W'.cell? ⟨W.heap.size + 1 + 1, 1, none⟩ = some (.int .i64 o) ∧ W'.cell? ⟨W.heap.size + 1 + 1, 4, none⟩ = some (.slice (some ⟨kb, koff, none⟩) 1 kc) ∧ W'.cell? ⟨W.heap.size, 0, none⟩ = some (.slice (some ⟨b, off, none⟩) l0.length cap) ∧ W'.cell? ⟨W.heap.size, 1, none⟩ = some (.bool full) ∧ W'.cell? ⟨kb, koff, none⟩ = some (.int .i64 (k0 : Nat)))
    (first
      | (refine hS.out _ ?_
         with_reducible (first
           | exact (Below.refl _ _).drew
           | exact hBt
           | exact hBl
           | exact keep_a (by assumption) _
           | exact hT2.hb)))
    (first
      | (go_at_call 79; refine (specl10Tok_any o _).mono ?_; rintro e wt ⟨rfl, hbt⟩; have hBt : Below W1.heap.size W1 wt := keep_b2 (by assumption) hbt)
      | (go_at_call 102; refine (hlv'.out _ (hB1.out.trans ((keep1 (w := W1) (by assumption)).mono hB1.out.size))).mono ?_; rintro e wl ⟨vl, rfl, hTl⟩; have hBl : Below W1.heap.size W1 wl := keep_b2 (by assumption) hTl.hb; have hTl1 := hTl.elder (keep1 (w := W1) (by assumption)))
      | (refine step_append_tok (w := W1) (by rfl) _ _ (by rfl) _ _ R [sgn o] (by rfl) (by rfl)
          (by first
            | exact hTl1
            | exact hTl1.alloc _
            | exact (hTl1.below hbt).alloc _)
          (by first
            | exact TokAt.lit1 hBt _ _
            | exact TokAt.lit1 hBl _ _
            | exact (TokAt.lit1 hBt _ _).below hTl.hb) (by first | omega | (simp; omega)) ?_; intro v2 w2 hT2 hfr))
  all_goals
    have hT3 : Hid (TokAt W w2 v2 ((treeIx l0 i).tkb full p)) := hid (by rw [hRR.out]; simpa [sgn] using hT2.elder hB1.out)
    obtain ⟨va, vc, rfl, _⟩ := hT2.shape
    clear hT2 hfr hS
    go_wp2
    go_ret
    exact ⟨_, rfl, hT3.out⟩
end Go.Proofs.YtkelhmgdajiocaaGreatDoor
