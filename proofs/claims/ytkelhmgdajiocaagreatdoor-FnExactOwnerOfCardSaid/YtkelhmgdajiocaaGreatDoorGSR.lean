/- Walks and lemmas of this seat (FSpellR1): what each theorem says of the functions that it names. Conditions: those that each theorem states. -/
import Derived.Test.YtkelhmgdajiocaaGreatDoorFSpellB
import Derived.Test.YtkelhmgdajiocaaGreatDoorGB
import Derived.Deep.RegionLaw
namespace Go.Proofs.YtkelhmgdajiocaaGreatDoor
set_option linter.unusedVariables false
set_option linter.unusedSimpArgs false
open Go.RowKit

/-! bare: an expression without parentheses, kind by kind. -/
set_option maxRecDepth 100000 in
set_option maxHeartbeats 3200000 in
theorem implbare_1 (full : Bool) (o : Int) (a b : ByteArray) : BareC full (Tree.mk 1 o a b []) := by
  intro p ka kn kc w g B S L M tv sv hp hpre hl hm
  obtain rfl : kn = 0 := hpre.kn
  obtain ⟨i0, hi, hz0, hz1, hz2⟩ := info_parts Tryz.infoSpn
  have hLen : Hid (L.length + 8 * (Tree.mk 1 o a b []).post.length ≤ 1000002 ∧ (Tree.tkb full (Tree.mk 1 o a b []) p).length + 4 ≤ 8 * (Tree.mk 1 o a b []).post.length ∧ sumLen (Tree.kidTks full (Tree.mk 1 o a b []) p) + 0 + 8 ≤ 8 * (Tree.mk 1 o a b []).post.length ∧ (commas (Tree.kidTks full (Tree.mk 1 o a b []) p)).length ≤ sumLen (Tree.kidTks full (Tree.mk 1 o a b []) p) + 0) := hid ⟨hl, Tree.tkb_len _ _ _, Tree.all_len full (Tree.mk 1 o a b []) p, by have := commas_len (Tree.kidTks full (Tree.mk 1 o a b []) p); rw [Tree.kidTks_len] at this; exact this⟩
  have hLen2 : Hid (M.length + (Tree.mk 1 o a b []).post.length ≤ 1000000 ∧ (Tree.kidSps full (Tree.mk 1 o a b []) p L.length).flatten.length + 1 = (Tree.mk 1 o a b []).post.length) := hid ⟨hm, Tree.all_sp _ _ _ _⟩
  show Calls Tryz.prog 91 #[.pointer (some ⟨g, 0, none⟩), .agg #[.int .i64 1, .int .i64 o, .string a, .string b, .slice ka 0 kc], .agg #[.int .i64 p.level, .bool p.dollar, .bool p.noIn, .bool p.noGt, .bool p.noSign]] w fun e w' => SpPost w g B full (L ++ Tree.tkb full (Tree.mk 1 o a b []) p) (M ++ Tree.spB full (Tree.mk 1 o a b []) p L.length) e w'
  obtain ⟨ta, tc, he, _⟩ := own_slice hpre.st.tok
  subst he
  have hLl : L.length ≤ 2000000 := by omega
  clear hl hm
  have hgB := hpre.hgB
  have hBw := hpre.hB
  have hP := hid (hpre.below (((Below.refl w.heap.size w).alloc (Nat.le_refl _) (.cells #[.int .i64 1, .int .i64 o, .string a, .string b, .slice ka 0 kc] 99)).alloc (by simp) (.cells #[.int .i64 p.level, .bool p.dollar, .bool p.noIn, .bool p.noGt, .bool p.noSign] 36)))
  have hbt := hid (alloc2_at0 w (.cells #[.int .i64 1, .int .i64 o, .string a, .string b, .slice ka 0 kc] 99) (.cells #[.int .i64 p.level, .bool p.dollar, .bool p.noIn, .bool p.noGt, .bool p.noSign] 36))
  have hbp := hid (alloc2_at1 w (.cells #[.int .i64 1, .int .i64 o, .string a, .string b, .slice ka 0 kc] 99) (.cells #[.int .i64 p.level, .bool p.dollar, .bool p.noIn, .bool p.noGt, .bool p.noSign] 36))
  have hK : Hid (Sk g B w ((w.alloc (.cells #[.int .i64 1, .int .i64 o, .string a, .string b, .slice ka 0 kc] 99)).alloc (.cells #[.int .i64 p.level, .bool p.dollar, .bool p.noIn, .bool p.noGt, .bool p.noSign] 36))) := hid (Sk.of_below (((Below.refl w.heap.size w).alloc (Nat.le_refl _) (.cells #[.int .i64 1, .int .i64 o, .string a, .string b, .slice ka 0 kc] 99)).alloc (by simp) (.cells #[.int .i64 p.level, .bool p.dollar, .bool p.noIn, .bool p.noGt, .bool p.noSign] 36)))
  have hws : Hid (((w.alloc (.cells #[.int .i64 1, .int .i64 o, .string a, .string b, .slice ka 0 kc] 99)).alloc (.cells #[.int .i64 p.level, .bool p.dollar, .bool p.noIn, .bool p.noGt, .bool p.noSign] 36)).heap.size = w.heap.size + 1 + 1) := hid (by simp)
  clear hpre
  have t0 := hP.out.st.box.c0
  go_enter Tryz.func91, Tryz.ntmps91
  go_wp2_with fail
  generalize (w.alloc (.cells #[.int .i64 1, .int .i64 o, .string a, .string b, .slice ka 0 kc] 99)).alloc (.cells #[.int .i64 p.level, .bool p.dollar, .bool p.noIn, .bool p.noGt, .bool p.noSign] 36) = w1 at hP hbt hbp hK hws t0 ⊢
  clear t0 
  obtain ⟨c0, c1, c2, c3, c4⟩ := box_cells hbt.out
  obtain ⟨d0, d1, d2, d3, d4⟩ := box_cells hbp.out
  rw [← hws.out]
  refine (implput1 g B full L M _ _ w1 6 a hP.out.st hgB hP.out.hB (by have h1 := hLen.out; (try simp only [List.length_append, List.length_cons, List.length_nil] at h1); (try simp only [List.length_append, List.length_cons, List.length_nil]); omega)).mono ?_; rintro e w2 ⟨rfl, tv2, hst, hsk⟩
  clear c0 c1 c2 c3 c4 d0 d1 d2 d3 d4
  have hP := hid (hP.out.next hsk hst)
  have hbt := hid (hsk.box hbt.out (by decide) (by decide) (by omega))
  have hbp := hid (hsk.box hbp.out (by decide) (by decide) (by omega))
  have hK := hid (hK.out.trans hsk)
  clear hst hsk
  obtain ⟨c0, c1, c2, c3, c4⟩ := box_cells hbt.out
  obtain ⟨d0, d1, d2, d3, d4⟩ := box_cells hbp.out
  have hst2 := hP.out.st
  obtain ⟨ta2, tc2, he2, _⟩ := own_slice hst2.tok
  subst he2
  have t0 := hst2.box.c0
  have t1 := hst2.box.c1
  have f1 := hst2.box.fr 1
  have hgr := hst2.box.lt
  have hne := hid (own_neS hst2.spn hgB)
  have hown := hid hst2.spn
  have hLc := hid (show (L ++ [(⟨6, a, 0⟩ : Token)]).length ≤ 2000000 ∧ M.length + 1 ≤ 1000000 from ⟨(by have h1 := hLen.out; (try simp only [List.length_append, List.length_cons, List.length_nil] at h1); (try simp only [List.length_append, List.length_cons, List.length_nil]); omega), (by have h1 := hLen2.out; (try simp only [List.length_append, List.length_cons, List.length_nil] at h1); (try simp only [List.length_append, List.length_cons, List.length_nil]); omega)⟩)
  obtain ⟨Lx, hLx⟩ : ∃ Lx, Lx = (L ++ [(⟨6, a, 0⟩ : Token)]) := ⟨_, rfl⟩
  obtain ⟨Mx, hMx⟩ : ∃ Mx, Mx = M := ⟨_, rfl⟩
  rw [← hLx] at hst2 hP t0 hLc
  rw [← hMx] at hst2 hP hown hLc
  replace hLx := hid hLx
  replace hMx := hid hMx
  replace hst2 := hid hst2
  have hLc1 := hLc.out.1
  have hLc2 := hLc.out.2
  clear c0 c1 c2 c3 c4 d0 d1 d2 d3 d4
  go_wp2_with fail
  go_region_law
    (first
      | (refine step_append_lies _ (by rfl) _ _ _ (by rfl) B 70 i0 _ 2 16 Tryz.underlying67 hi hz0 hz1 hz2 rfl (by omega) _ Mx.length (Mx.flatMap Span.cells) (by rfl) (own_drew (hown.out.alloc _))
          ⟨w2.heap.size, 0, none⟩ 1 1 [.int .i64 (L.length : Nat), .int .i64 (Lx.length : Nat)] (by rfl) (by rfl) (World.news_of_block (cs := #[.int .i64 (L.length : Nat), .int .i64 (Lx.length : Nat)]) (t := 70) (fr := (0, 0)) (heap_alloc_new w2 _)) (by simp [Value.oneCell'])
          (by omega) (by unfold maxLen; omega) (by omega) (by have := hP.out.hB; simp only [World.size_drew, World.size_alloc]; omega) (w2.heap.size + 1) (by simp) ?_; intro gg cap2 w2x hown2 hgrow hat hlt3; have q2 := (hgrow.cell_far _ (by simp; omega) hne.out).trans ((((Below.refl w2.heap.size w2).alloc (Nat.le_refl _) _).cell (p := ⟨g, 1, none⟩) hgr).trans t1); have q3 := (hgrow.frozen_far _ (by simp; omega) hne.out).trans ((((Below.refl w2.heap.size w2).alloc (Nat.le_refl _) _).frozen (p := ⟨g, 1, none⟩) hgr).trans f1)))
  all_goals go_wp2
  all_goals go_end0
  all_goals obtain ⟨k1, k2⟩ := hst2.out.mark (x := ⟨L.length, (Lx.length : Nat)⟩) (((Below.refl w2.heap.size w2).alloc (Nat.le_refl _) _).drew) hgB hown2 hgrow
  all_goals have q1 : Lx = L ++ Tree.tkb full (Tree.mk 1 o a b []) p := hLx.out.trans (by rw [Tree.tkb_eq]; show _ = L ++ nodeToks 1 o a _; simp [nodeToks, leafTok])
  all_goals have q2 : Mx ++ [⟨(L.length : Nat), (Lx.length : Nat)⟩] = M ++ Tree.spB full (Tree.mk 1 o a b []) p L.length := (by rw [hMx.out, q1]; rw [Tree.spB_eq]; simp [Tree.kidSps, Tree.kids, Tree.spL])
  all_goals rw [q2, q1] at k1
  all_goals exact ⟨rfl, _, _, k1, hK.out.trans k2⟩
set_option maxRecDepth 100000 in
set_option maxHeartbeats 3200000 in
theorem implbare_2 (full : Bool) (o : Int) (a b : ByteArray) : BareC full (Tree.mk 2 o a b []) := by
  intro p ka kn kc w g B S L M tv sv hp hpre hl hm
  obtain rfl : kn = 0 := hpre.kn
  obtain ⟨i0, hi, hz0, hz1, hz2⟩ := info_parts Tryz.infoSpn
  have hLen : Hid (L.length + 8 * (Tree.mk 2 o a b []).post.length ≤ 1000002 ∧ (Tree.tkb full (Tree.mk 2 o a b []) p).length + 4 ≤ 8 * (Tree.mk 2 o a b []).post.length ∧ sumLen (Tree.kidTks full (Tree.mk 2 o a b []) p) + 0 + 8 ≤ 8 * (Tree.mk 2 o a b []).post.length ∧ (commas (Tree.kidTks full (Tree.mk 2 o a b []) p)).length ≤ sumLen (Tree.kidTks full (Tree.mk 2 o a b []) p) + 0) := hid ⟨hl, Tree.tkb_len _ _ _, Tree.all_len full (Tree.mk 2 o a b []) p, by have := commas_len (Tree.kidTks full (Tree.mk 2 o a b []) p); rw [Tree.kidTks_len] at this; exact this⟩
  have hLen2 : Hid (M.length + (Tree.mk 2 o a b []).post.length ≤ 1000000 ∧ (Tree.kidSps full (Tree.mk 2 o a b []) p L.length).flatten.length + 1 = (Tree.mk 2 o a b []).post.length) := hid ⟨hm, Tree.all_sp _ _ _ _⟩
  show Calls Tryz.prog 91 #[.pointer (some ⟨g, 0, none⟩), .agg #[.int .i64 2, .int .i64 o, .string a, .string b, .slice ka 0 kc], .agg #[.int .i64 p.level, .bool p.dollar, .bool p.noIn, .bool p.noGt, .bool p.noSign]] w fun e w' => SpPost w g B full (L ++ Tree.tkb full (Tree.mk 2 o a b []) p) (M ++ Tree.spB full (Tree.mk 2 o a b []) p L.length) e w'
  obtain ⟨ta, tc, he, _⟩ := own_slice hpre.st.tok
  subst he
  have hLl : L.length ≤ 2000000 := by omega
  clear hl hm
  have hgB := hpre.hgB
  have hBw := hpre.hB
  have hP := hid (hpre.below (((Below.refl w.heap.size w).alloc (Nat.le_refl _) (.cells #[.int .i64 2, .int .i64 o, .string a, .string b, .slice ka 0 kc] 99)).alloc (by simp) (.cells #[.int .i64 p.level, .bool p.dollar, .bool p.noIn, .bool p.noGt, .bool p.noSign] 36)))
  have hbt := hid (alloc2_at0 w (.cells #[.int .i64 2, .int .i64 o, .string a, .string b, .slice ka 0 kc] 99) (.cells #[.int .i64 p.level, .bool p.dollar, .bool p.noIn, .bool p.noGt, .bool p.noSign] 36))
  have hbp := hid (alloc2_at1 w (.cells #[.int .i64 2, .int .i64 o, .string a, .string b, .slice ka 0 kc] 99) (.cells #[.int .i64 p.level, .bool p.dollar, .bool p.noIn, .bool p.noGt, .bool p.noSign] 36))
  have hK : Hid (Sk g B w ((w.alloc (.cells #[.int .i64 2, .int .i64 o, .string a, .string b, .slice ka 0 kc] 99)).alloc (.cells #[.int .i64 p.level, .bool p.dollar, .bool p.noIn, .bool p.noGt, .bool p.noSign] 36))) := hid (Sk.of_below (((Below.refl w.heap.size w).alloc (Nat.le_refl _) (.cells #[.int .i64 2, .int .i64 o, .string a, .string b, .slice ka 0 kc] 99)).alloc (by simp) (.cells #[.int .i64 p.level, .bool p.dollar, .bool p.noIn, .bool p.noGt, .bool p.noSign] 36)))
  have hws : Hid (((w.alloc (.cells #[.int .i64 2, .int .i64 o, .string a, .string b, .slice ka 0 kc] 99)).alloc (.cells #[.int .i64 p.level, .bool p.dollar, .bool p.noIn, .bool p.noGt, .bool p.noSign] 36)).heap.size = w.heap.size + 1 + 1) := hid (by simp)
  clear hpre
  have t0 := hP.out.st.box.c0
  go_enter Tryz.func91, Tryz.ntmps91
  go_wp2_with fail
  generalize (w.alloc (.cells #[.int .i64 2, .int .i64 o, .string a, .string b, .slice ka 0 kc] 99)).alloc (.cells #[.int .i64 p.level, .bool p.dollar, .bool p.noIn, .bool p.noGt, .bool p.noSign] 36) = w1 at hP hbt hbp hK hws t0 ⊢
  clear t0 
  obtain ⟨c0, c1, c2, c3, c4⟩ := box_cells hbt.out
  obtain ⟨d0, d1, d2, d3, d4⟩ := box_cells hbp.out
  rw [← hws.out]
  refine (implput1 g B full L M _ _ w1 3 a hP.out.st hgB hP.out.hB (by have h1 := hLen.out; (try simp only [List.length_append, List.length_cons, List.length_nil] at h1); (try simp only [List.length_append, List.length_cons, List.length_nil]); omega)).mono ?_; rintro e w2 ⟨rfl, tv2, hst, hsk⟩
  clear c0 c1 c2 c3 c4 d0 d1 d2 d3 d4
  have hP := hid (hP.out.next hsk hst)
  have hbt := hid (hsk.box hbt.out (by decide) (by decide) (by omega))
  have hbp := hid (hsk.box hbp.out (by decide) (by decide) (by omega))
  have hK := hid (hK.out.trans hsk)
  clear hst hsk
  obtain ⟨c0, c1, c2, c3, c4⟩ := box_cells hbt.out
  obtain ⟨d0, d1, d2, d3, d4⟩ := box_cells hbp.out
  have hst2 := hP.out.st
  obtain ⟨ta2, tc2, he2, _⟩ := own_slice hst2.tok
  subst he2
  have t0 := hst2.box.c0
  have t1 := hst2.box.c1
  have f1 := hst2.box.fr 1
  have hgr := hst2.box.lt
  have hne := hid (own_neS hst2.spn hgB)
  have hown := hid hst2.spn
  have hLc := hid (show (L ++ [(⟨3, a, 0⟩ : Token)]).length ≤ 2000000 ∧ M.length + 1 ≤ 1000000 from ⟨(by have h1 := hLen.out; (try simp only [List.length_append, List.length_cons, List.length_nil] at h1); (try simp only [List.length_append, List.length_cons, List.length_nil]); omega), (by have h1 := hLen2.out; (try simp only [List.length_append, List.length_cons, List.length_nil] at h1); (try simp only [List.length_append, List.length_cons, List.length_nil]); omega)⟩)
  obtain ⟨Lx, hLx⟩ : ∃ Lx, Lx = (L ++ [(⟨3, a, 0⟩ : Token)]) := ⟨_, rfl⟩
  obtain ⟨Mx, hMx⟩ : ∃ Mx, Mx = M := ⟨_, rfl⟩
  rw [← hLx] at hst2 hP t0 hLc
  rw [← hMx] at hst2 hP hown hLc
  replace hLx := hid hLx
  replace hMx := hid hMx
  replace hst2 := hid hst2
  have hLc1 := hLc.out.1
  have hLc2 := hLc.out.2
  clear c0 c1 c2 c3 c4 d0 d1 d2 d3 d4
  go_wp2_with fail
  go_region_law
    (first
      | (refine step_append_lies _ (by rfl) _ _ _ (by rfl) B 70 i0 _ 2 16 Tryz.underlying67 hi hz0 hz1 hz2 rfl (by omega) _ Mx.length (Mx.flatMap Span.cells) (by rfl) (own_drew (hown.out.alloc _))
          ⟨w2.heap.size, 0, none⟩ 1 1 [.int .i64 (L.length : Nat), .int .i64 (Lx.length : Nat)] (by rfl) (by rfl) (World.news_of_block (cs := #[.int .i64 (L.length : Nat), .int .i64 (Lx.length : Nat)]) (t := 70) (fr := (0, 0)) (heap_alloc_new w2 _)) (by simp [Value.oneCell'])
          (by omega) (by unfold maxLen; omega) (by omega) (by have := hP.out.hB; simp only [World.size_drew, World.size_alloc]; omega) (w2.heap.size + 1) (by simp) ?_; intro gg cap2 w2x hown2 hgrow hat hlt3; have q2 := (hgrow.cell_far _ (by simp; omega) hne.out).trans ((((Below.refl w2.heap.size w2).alloc (Nat.le_refl _) _).cell (p := ⟨g, 1, none⟩) hgr).trans t1); have q3 := (hgrow.frozen_far _ (by simp; omega) hne.out).trans ((((Below.refl w2.heap.size w2).alloc (Nat.le_refl _) _).frozen (p := ⟨g, 1, none⟩) hgr).trans f1)))
  all_goals go_wp2
  all_goals go_end0
  all_goals obtain ⟨k1, k2⟩ := hst2.out.mark (x := ⟨L.length, (Lx.length : Nat)⟩) (((Below.refl w2.heap.size w2).alloc (Nat.le_refl _) _).drew) hgB hown2 hgrow
  all_goals have q1 : Lx = L ++ Tree.tkb full (Tree.mk 2 o a b []) p := hLx.out.trans (by rw [Tree.tkb_eq]; show _ = L ++ nodeToks 2 o a _; simp [nodeToks, leafTok])
  all_goals have q2 : Mx ++ [⟨(L.length : Nat), (Lx.length : Nat)⟩] = M ++ Tree.spB full (Tree.mk 2 o a b []) p L.length := (by rw [hMx.out, q1]; rw [Tree.spB_eq]; simp [Tree.kidSps, Tree.kids, Tree.spL])
  all_goals rw [q2, q1] at k1
  all_goals exact ⟨rfl, _, _, k1, hK.out.trans k2⟩
set_option maxRecDepth 100000 in
set_option maxHeartbeats 3200000 in
theorem implbare_3 (full : Bool) (o : Int) (a b : ByteArray) : BareC full (Tree.mk 3 o a b []) := by
  intro p ka kn kc w g B S L M tv sv hp hpre hl hm
  obtain rfl : kn = 0 := hpre.kn
  obtain ⟨i0, hi, hz0, hz1, hz2⟩ := info_parts Tryz.infoSpn
  have hLen : Hid (L.length + 8 * (Tree.mk 3 o a b []).post.length ≤ 1000002 ∧ (Tree.tkb full (Tree.mk 3 o a b []) p).length + 4 ≤ 8 * (Tree.mk 3 o a b []).post.length ∧ sumLen (Tree.kidTks full (Tree.mk 3 o a b []) p) + 0 + 8 ≤ 8 * (Tree.mk 3 o a b []).post.length ∧ (commas (Tree.kidTks full (Tree.mk 3 o a b []) p)).length ≤ sumLen (Tree.kidTks full (Tree.mk 3 o a b []) p) + 0) := hid ⟨hl, Tree.tkb_len _ _ _, Tree.all_len full (Tree.mk 3 o a b []) p, by have := commas_len (Tree.kidTks full (Tree.mk 3 o a b []) p); rw [Tree.kidTks_len] at this; exact this⟩
  have hLen2 : Hid (M.length + (Tree.mk 3 o a b []).post.length ≤ 1000000 ∧ (Tree.kidSps full (Tree.mk 3 o a b []) p L.length).flatten.length + 1 = (Tree.mk 3 o a b []).post.length) := hid ⟨hm, Tree.all_sp _ _ _ _⟩
  show Calls Tryz.prog 91 #[.pointer (some ⟨g, 0, none⟩), .agg #[.int .i64 3, .int .i64 o, .string a, .string b, .slice ka 0 kc], .agg #[.int .i64 p.level, .bool p.dollar, .bool p.noIn, .bool p.noGt, .bool p.noSign]] w fun e w' => SpPost w g B full (L ++ Tree.tkb full (Tree.mk 3 o a b []) p) (M ++ Tree.spB full (Tree.mk 3 o a b []) p L.length) e w'
  obtain ⟨ta, tc, he, _⟩ := own_slice hpre.st.tok
  subst he
  have hLl : L.length ≤ 2000000 := by omega
  clear hl hm
  have hgB := hpre.hgB
  have hBw := hpre.hB
  have hP := hid (hpre.below (((Below.refl w.heap.size w).alloc (Nat.le_refl _) (.cells #[.int .i64 3, .int .i64 o, .string a, .string b, .slice ka 0 kc] 99)).alloc (by simp) (.cells #[.int .i64 p.level, .bool p.dollar, .bool p.noIn, .bool p.noGt, .bool p.noSign] 36)))
  have hbt := hid (alloc2_at0 w (.cells #[.int .i64 3, .int .i64 o, .string a, .string b, .slice ka 0 kc] 99) (.cells #[.int .i64 p.level, .bool p.dollar, .bool p.noIn, .bool p.noGt, .bool p.noSign] 36))
  have hbp := hid (alloc2_at1 w (.cells #[.int .i64 3, .int .i64 o, .string a, .string b, .slice ka 0 kc] 99) (.cells #[.int .i64 p.level, .bool p.dollar, .bool p.noIn, .bool p.noGt, .bool p.noSign] 36))
  have hK : Hid (Sk g B w ((w.alloc (.cells #[.int .i64 3, .int .i64 o, .string a, .string b, .slice ka 0 kc] 99)).alloc (.cells #[.int .i64 p.level, .bool p.dollar, .bool p.noIn, .bool p.noGt, .bool p.noSign] 36))) := hid (Sk.of_below (((Below.refl w.heap.size w).alloc (Nat.le_refl _) (.cells #[.int .i64 3, .int .i64 o, .string a, .string b, .slice ka 0 kc] 99)).alloc (by simp) (.cells #[.int .i64 p.level, .bool p.dollar, .bool p.noIn, .bool p.noGt, .bool p.noSign] 36)))
  have hws : Hid (((w.alloc (.cells #[.int .i64 3, .int .i64 o, .string a, .string b, .slice ka 0 kc] 99)).alloc (.cells #[.int .i64 p.level, .bool p.dollar, .bool p.noIn, .bool p.noGt, .bool p.noSign] 36)).heap.size = w.heap.size + 1 + 1) := hid (by simp)
  clear hpre
  have t0 := hP.out.st.box.c0
  go_enter Tryz.func91, Tryz.ntmps91
  go_wp2_with fail
  generalize (w.alloc (.cells #[.int .i64 3, .int .i64 o, .string a, .string b, .slice ka 0 kc] 99)).alloc (.cells #[.int .i64 p.level, .bool p.dollar, .bool p.noIn, .bool p.noGt, .bool p.noSign] 36) = w1 at hP hbt hbp hK hws t0 ⊢
  clear t0 
  obtain ⟨c0, c1, c2, c3, c4⟩ := box_cells hbt.out
  obtain ⟨d0, d1, d2, d3, d4⟩ := box_cells hbp.out
  rw [← hws.out]
  refine (implput1 g B full L M _ _ w1 4 a hP.out.st hgB hP.out.hB (by have h1 := hLen.out; (try simp only [List.length_append, List.length_cons, List.length_nil] at h1); (try simp only [List.length_append, List.length_cons, List.length_nil]); omega)).mono ?_; rintro e w2 ⟨rfl, tv2, hst, hsk⟩
  clear c0 c1 c2 c3 c4 d0 d1 d2 d3 d4
  have hP := hid (hP.out.next hsk hst)
  have hbt := hid (hsk.box hbt.out (by decide) (by decide) (by omega))
  have hbp := hid (hsk.box hbp.out (by decide) (by decide) (by omega))
  have hK := hid (hK.out.trans hsk)
  clear hst hsk
  obtain ⟨c0, c1, c2, c3, c4⟩ := box_cells hbt.out
  obtain ⟨d0, d1, d2, d3, d4⟩ := box_cells hbp.out
  have hst2 := hP.out.st
  obtain ⟨ta2, tc2, he2, _⟩ := own_slice hst2.tok
  subst he2
  have t0 := hst2.box.c0
  have t1 := hst2.box.c1
  have f1 := hst2.box.fr 1
  have hgr := hst2.box.lt
  have hne := hid (own_neS hst2.spn hgB)
  have hown := hid hst2.spn
  have hLc := hid (show (L ++ [(⟨4, a, 0⟩ : Token)]).length ≤ 2000000 ∧ M.length + 1 ≤ 1000000 from ⟨(by have h1 := hLen.out; (try simp only [List.length_append, List.length_cons, List.length_nil] at h1); (try simp only [List.length_append, List.length_cons, List.length_nil]); omega), (by have h1 := hLen2.out; (try simp only [List.length_append, List.length_cons, List.length_nil] at h1); (try simp only [List.length_append, List.length_cons, List.length_nil]); omega)⟩)
  obtain ⟨Lx, hLx⟩ : ∃ Lx, Lx = (L ++ [(⟨4, a, 0⟩ : Token)]) := ⟨_, rfl⟩
  obtain ⟨Mx, hMx⟩ : ∃ Mx, Mx = M := ⟨_, rfl⟩
  rw [← hLx] at hst2 hP t0 hLc
  rw [← hMx] at hst2 hP hown hLc
  replace hLx := hid hLx
  replace hMx := hid hMx
  replace hst2 := hid hst2
  have hLc1 := hLc.out.1
  have hLc2 := hLc.out.2
  clear c0 c1 c2 c3 c4 d0 d1 d2 d3 d4
  go_wp2_with fail
  go_region_law
    (first
      | (refine step_append_lies _ (by rfl) _ _ _ (by rfl) B 70 i0 _ 2 16 Tryz.underlying67 hi hz0 hz1 hz2 rfl (by omega) _ Mx.length (Mx.flatMap Span.cells) (by rfl) (own_drew (hown.out.alloc _))
          ⟨w2.heap.size, 0, none⟩ 1 1 [.int .i64 (L.length : Nat), .int .i64 (Lx.length : Nat)] (by rfl) (by rfl) (World.news_of_block (cs := #[.int .i64 (L.length : Nat), .int .i64 (Lx.length : Nat)]) (t := 70) (fr := (0, 0)) (heap_alloc_new w2 _)) (by simp [Value.oneCell'])
          (by omega) (by unfold maxLen; omega) (by omega) (by have := hP.out.hB; simp only [World.size_drew, World.size_alloc]; omega) (w2.heap.size + 1) (by simp) ?_; intro gg cap2 w2x hown2 hgrow hat hlt3; have q2 := (hgrow.cell_far _ (by simp; omega) hne.out).trans ((((Below.refl w2.heap.size w2).alloc (Nat.le_refl _) _).cell (p := ⟨g, 1, none⟩) hgr).trans t1); have q3 := (hgrow.frozen_far _ (by simp; omega) hne.out).trans ((((Below.refl w2.heap.size w2).alloc (Nat.le_refl _) _).frozen (p := ⟨g, 1, none⟩) hgr).trans f1)))
  all_goals go_wp2
  all_goals go_end0
  all_goals obtain ⟨k1, k2⟩ := hst2.out.mark (x := ⟨L.length, (Lx.length : Nat)⟩) (((Below.refl w2.heap.size w2).alloc (Nat.le_refl _) _).drew) hgB hown2 hgrow
  all_goals have q1 : Lx = L ++ Tree.tkb full (Tree.mk 3 o a b []) p := hLx.out.trans (by rw [Tree.tkb_eq]; show _ = L ++ nodeToks 3 o a _; simp [nodeToks, leafTok])
  all_goals have q2 : Mx ++ [⟨(L.length : Nat), (Lx.length : Nat)⟩] = M ++ Tree.spB full (Tree.mk 3 o a b []) p L.length := (by rw [hMx.out, q1]; rw [Tree.spB_eq]; simp [Tree.kidSps, Tree.kids, Tree.spL])
  all_goals rw [q2, q1] at k1
  all_goals exact ⟨rfl, _, _, k1, hK.out.trans k2⟩
set_option maxRecDepth 100000 in
set_option maxHeartbeats 3200000 in
theorem implbare_4 (full : Bool) (o : Int) (a b : ByteArray) : BareC full (Tree.mk 4 o a b []) := by
  intro p ka kn kc w g B S L M tv sv hp hpre hl hm
  obtain rfl : kn = 0 := hpre.kn
  obtain ⟨i0, hi, hz0, hz1, hz2⟩ := info_parts Tryz.infoSpn
  have hLen : Hid (L.length + 8 * (Tree.mk 4 o a b []).post.length ≤ 1000002 ∧ (Tree.tkb full (Tree.mk 4 o a b []) p).length + 4 ≤ 8 * (Tree.mk 4 o a b []).post.length ∧ sumLen (Tree.kidTks full (Tree.mk 4 o a b []) p) + 0 + 8 ≤ 8 * (Tree.mk 4 o a b []).post.length ∧ (commas (Tree.kidTks full (Tree.mk 4 o a b []) p)).length ≤ sumLen (Tree.kidTks full (Tree.mk 4 o a b []) p) + 0) := hid ⟨hl, Tree.tkb_len _ _ _, Tree.all_len full (Tree.mk 4 o a b []) p, by have := commas_len (Tree.kidTks full (Tree.mk 4 o a b []) p); rw [Tree.kidTks_len] at this; exact this⟩
  have hLen2 : Hid (M.length + (Tree.mk 4 o a b []).post.length ≤ 1000000 ∧ (Tree.kidSps full (Tree.mk 4 o a b []) p L.length).flatten.length + 1 = (Tree.mk 4 o a b []).post.length) := hid ⟨hm, Tree.all_sp _ _ _ _⟩
  show Calls Tryz.prog 91 #[.pointer (some ⟨g, 0, none⟩), .agg #[.int .i64 4, .int .i64 o, .string a, .string b, .slice ka 0 kc], .agg #[.int .i64 p.level, .bool p.dollar, .bool p.noIn, .bool p.noGt, .bool p.noSign]] w fun e w' => SpPost w g B full (L ++ Tree.tkb full (Tree.mk 4 o a b []) p) (M ++ Tree.spB full (Tree.mk 4 o a b []) p L.length) e w'
  obtain ⟨ta, tc, he, _⟩ := own_slice hpre.st.tok
  subst he
  have hLl : L.length ≤ 2000000 := by omega
  clear hl hm
  have hgB := hpre.hgB
  have hBw := hpre.hB
  have hP := hid (hpre.below (((Below.refl w.heap.size w).alloc (Nat.le_refl _) (.cells #[.int .i64 4, .int .i64 o, .string a, .string b, .slice ka 0 kc] 99)).alloc (by simp) (.cells #[.int .i64 p.level, .bool p.dollar, .bool p.noIn, .bool p.noGt, .bool p.noSign] 36)))
  have hbt := hid (alloc2_at0 w (.cells #[.int .i64 4, .int .i64 o, .string a, .string b, .slice ka 0 kc] 99) (.cells #[.int .i64 p.level, .bool p.dollar, .bool p.noIn, .bool p.noGt, .bool p.noSign] 36))
  have hbp := hid (alloc2_at1 w (.cells #[.int .i64 4, .int .i64 o, .string a, .string b, .slice ka 0 kc] 99) (.cells #[.int .i64 p.level, .bool p.dollar, .bool p.noIn, .bool p.noGt, .bool p.noSign] 36))
  have hK : Hid (Sk g B w ((w.alloc (.cells #[.int .i64 4, .int .i64 o, .string a, .string b, .slice ka 0 kc] 99)).alloc (.cells #[.int .i64 p.level, .bool p.dollar, .bool p.noIn, .bool p.noGt, .bool p.noSign] 36))) := hid (Sk.of_below (((Below.refl w.heap.size w).alloc (Nat.le_refl _) (.cells #[.int .i64 4, .int .i64 o, .string a, .string b, .slice ka 0 kc] 99)).alloc (by simp) (.cells #[.int .i64 p.level, .bool p.dollar, .bool p.noIn, .bool p.noGt, .bool p.noSign] 36)))
  have hws : Hid (((w.alloc (.cells #[.int .i64 4, .int .i64 o, .string a, .string b, .slice ka 0 kc] 99)).alloc (.cells #[.int .i64 p.level, .bool p.dollar, .bool p.noIn, .bool p.noGt, .bool p.noSign] 36)).heap.size = w.heap.size + 1 + 1) := hid (by simp)
  clear hpre
  have t0 := hP.out.st.box.c0
  go_enter Tryz.func91, Tryz.ntmps91
  go_wp2_with fail
  generalize (w.alloc (.cells #[.int .i64 4, .int .i64 o, .string a, .string b, .slice ka 0 kc] 99)).alloc (.cells #[.int .i64 p.level, .bool p.dollar, .bool p.noIn, .bool p.noGt, .bool p.noSign] 36) = w1 at hP hbt hbp hK hws t0 ⊢
  clear t0 
  obtain ⟨c0, c1, c2, c3, c4⟩ := box_cells hbt.out
  obtain ⟨d0, d1, d2, d3, d4⟩ := box_cells hbp.out
  rw [← hws.out]
  refine (implput1 g B full L M _ _ w1 5 a hP.out.st hgB hP.out.hB (by have h1 := hLen.out; (try simp only [List.length_append, List.length_cons, List.length_nil] at h1); (try simp only [List.length_append, List.length_cons, List.length_nil]); omega)).mono ?_; rintro e w2 ⟨rfl, tv2, hst, hsk⟩
  clear c0 c1 c2 c3 c4 d0 d1 d2 d3 d4
  have hP := hid (hP.out.next hsk hst)
  have hbt := hid (hsk.box hbt.out (by decide) (by decide) (by omega))
  have hbp := hid (hsk.box hbp.out (by decide) (by decide) (by omega))
  have hK := hid (hK.out.trans hsk)
  clear hst hsk
  obtain ⟨c0, c1, c2, c3, c4⟩ := box_cells hbt.out
  obtain ⟨d0, d1, d2, d3, d4⟩ := box_cells hbp.out
  have hst2 := hP.out.st
  obtain ⟨ta2, tc2, he2, _⟩ := own_slice hst2.tok
  subst he2
  have t0 := hst2.box.c0
  have t1 := hst2.box.c1
  have f1 := hst2.box.fr 1
  have hgr := hst2.box.lt
  have hne := hid (own_neS hst2.spn hgB)
  have hown := hid hst2.spn
  have hLc := hid (show (L ++ [(⟨5, a, 0⟩ : Token)]).length ≤ 2000000 ∧ M.length + 1 ≤ 1000000 from ⟨(by have h1 := hLen.out; (try simp only [List.length_append, List.length_cons, List.length_nil] at h1); (try simp only [List.length_append, List.length_cons, List.length_nil]); omega), (by have h1 := hLen2.out; (try simp only [List.length_append, List.length_cons, List.length_nil] at h1); (try simp only [List.length_append, List.length_cons, List.length_nil]); omega)⟩)
  obtain ⟨Lx, hLx⟩ : ∃ Lx, Lx = (L ++ [(⟨5, a, 0⟩ : Token)]) := ⟨_, rfl⟩
  obtain ⟨Mx, hMx⟩ : ∃ Mx, Mx = M := ⟨_, rfl⟩
  rw [← hLx] at hst2 hP t0 hLc
  rw [← hMx] at hst2 hP hown hLc
  replace hLx := hid hLx
  replace hMx := hid hMx
  replace hst2 := hid hst2
  have hLc1 := hLc.out.1
  have hLc2 := hLc.out.2
  clear c0 c1 c2 c3 c4 d0 d1 d2 d3 d4
  go_wp2_with fail
  go_region_law
    (first
      | (refine step_append_lies _ (by rfl) _ _ _ (by rfl) B 70 i0 _ 2 16 Tryz.underlying67 hi hz0 hz1 hz2 rfl (by omega) _ Mx.length (Mx.flatMap Span.cells) (by rfl) (own_drew (hown.out.alloc _))
          ⟨w2.heap.size, 0, none⟩ 1 1 [.int .i64 (L.length : Nat), .int .i64 (Lx.length : Nat)] (by rfl) (by rfl) (World.news_of_block (cs := #[.int .i64 (L.length : Nat), .int .i64 (Lx.length : Nat)]) (t := 70) (fr := (0, 0)) (heap_alloc_new w2 _)) (by simp [Value.oneCell'])
          (by omega) (by unfold maxLen; omega) (by omega) (by have := hP.out.hB; simp only [World.size_drew, World.size_alloc]; omega) (w2.heap.size + 1) (by simp) ?_; intro gg cap2 w2x hown2 hgrow hat hlt3; have q2 := (hgrow.cell_far _ (by simp; omega) hne.out).trans ((((Below.refl w2.heap.size w2).alloc (Nat.le_refl _) _).cell (p := ⟨g, 1, none⟩) hgr).trans t1); have q3 := (hgrow.frozen_far _ (by simp; omega) hne.out).trans ((((Below.refl w2.heap.size w2).alloc (Nat.le_refl _) _).frozen (p := ⟨g, 1, none⟩) hgr).trans f1)))
  all_goals go_wp2
  all_goals go_end0
  all_goals obtain ⟨k1, k2⟩ := hst2.out.mark (x := ⟨L.length, (Lx.length : Nat)⟩) (((Below.refl w2.heap.size w2).alloc (Nat.le_refl _) _).drew) hgB hown2 hgrow
  all_goals have q1 : Lx = L ++ Tree.tkb full (Tree.mk 4 o a b []) p := hLx.out.trans (by rw [Tree.tkb_eq]; show _ = L ++ nodeToks 4 o a _; simp [nodeToks, leafTok])
  all_goals have q2 : Mx ++ [⟨(L.length : Nat), (Lx.length : Nat)⟩] = M ++ Tree.spB full (Tree.mk 4 o a b []) p L.length := (by rw [hMx.out, q1]; rw [Tree.spB_eq]; simp [Tree.kidSps, Tree.kids, Tree.spL])
  all_goals rw [q2, q1] at k1
  all_goals exact ⟨rfl, _, _, k1, hK.out.trans k2⟩
end Go.Proofs.YtkelhmgdajiocaaGreatDoor
/- Walks and lemmas of this seat (FSpellR2): what each theorem says of the functions that it names. Conditions: those that each theorem states. -/
namespace Go.Proofs.YtkelhmgdajiocaaGreatDoor
set_option linter.unusedVariables false
set_option linter.unusedSimpArgs false
open Go.RowKit

/-! bare: an expression without parentheses, kind by kind. -/
set_option maxRecDepth 100000 in
set_option maxHeartbeats 3200000 in
theorem implbare_5 (full : Bool) (o : Int) (a b : ByteArray) (l : List Tree) (hlist : ListC full (Tree.mk 5 o a b l)) : BareC full (Tree.mk 5 o a b l) := by
  intro p ka kn kc w g B S L M tv sv hp hpre hl hm
  obtain rfl : kn = l.length := hpre.kn
  obtain ⟨i0, hi, hz0, hz1, hz2⟩ := info_parts Tryz.infoSpn
  have hLen : Hid (L.length + 8 * (Tree.mk 5 o a b l).post.length ≤ 1000002 ∧ (Tree.tkb full (Tree.mk 5 o a b l) p).length + 4 ≤ 8 * (Tree.mk 5 o a b l).post.length ∧ sumLen (Tree.kidTks full (Tree.mk 5 o a b l) p) + l.length + 8 ≤ 8 * (Tree.mk 5 o a b l).post.length ∧ (commas (Tree.kidTks full (Tree.mk 5 o a b l) p)).length ≤ sumLen (Tree.kidTks full (Tree.mk 5 o a b l) p) + l.length) := hid ⟨hl, Tree.tkb_len _ _ _, Tree.all_len full (Tree.mk 5 o a b l) p, by have := commas_len (Tree.kidTks full (Tree.mk 5 o a b l) p); rw [Tree.kidTks_len] at this; exact this⟩
  have hLen2 : Hid (M.length + (Tree.mk 5 o a b l).post.length ≤ 1000000 ∧ (Tree.kidSps full (Tree.mk 5 o a b l) p L.length).flatten.length + 1 = (Tree.mk 5 o a b l).post.length) := hid ⟨hm, Tree.all_sp _ _ _ _⟩
  show Calls Tryz.prog 91 #[.pointer (some ⟨g, 0, none⟩), .agg #[.int .i64 5, .int .i64 o, .string a, .string b, .slice ka l.length kc], .agg #[.int .i64 p.level, .bool p.dollar, .bool p.noIn, .bool p.noGt, .bool p.noSign]] w fun e w' => SpPost w g B full (L ++ Tree.tkb full (Tree.mk 5 o a b l) p) (M ++ Tree.spB full (Tree.mk 5 o a b l) p L.length) e w'
  obtain ⟨ta, tc, he, _⟩ := own_slice hpre.st.tok
  subst he
  have hLl : L.length ≤ 2000000 := by omega
  clear hl hm
  have hgB := hpre.hgB
  have hBw := hpre.hB
  have hP := hid (hpre.below (((Below.refl w.heap.size w).alloc (Nat.le_refl _) (.cells #[.int .i64 5, .int .i64 o, .string a, .string b, .slice ka l.length kc] 99)).alloc (by simp) (.cells #[.int .i64 p.level, .bool p.dollar, .bool p.noIn, .bool p.noGt, .bool p.noSign] 36)))
  have hbt := hid (alloc2_at0 w (.cells #[.int .i64 5, .int .i64 o, .string a, .string b, .slice ka l.length kc] 99) (.cells #[.int .i64 p.level, .bool p.dollar, .bool p.noIn, .bool p.noGt, .bool p.noSign] 36))
  have hbp := hid (alloc2_at1 w (.cells #[.int .i64 5, .int .i64 o, .string a, .string b, .slice ka l.length kc] 99) (.cells #[.int .i64 p.level, .bool p.dollar, .bool p.noIn, .bool p.noGt, .bool p.noSign] 36))
  have hK : Hid (Sk g B w ((w.alloc (.cells #[.int .i64 5, .int .i64 o, .string a, .string b, .slice ka l.length kc] 99)).alloc (.cells #[.int .i64 p.level, .bool p.dollar, .bool p.noIn, .bool p.noGt, .bool p.noSign] 36))) := hid (Sk.of_below (((Below.refl w.heap.size w).alloc (Nat.le_refl _) (.cells #[.int .i64 5, .int .i64 o, .string a, .string b, .slice ka l.length kc] 99)).alloc (by simp) (.cells #[.int .i64 p.level, .bool p.dollar, .bool p.noIn, .bool p.noGt, .bool p.noSign] 36)))
  have hws : Hid (((w.alloc (.cells #[.int .i64 5, .int .i64 o, .string a, .string b, .slice ka l.length kc] 99)).alloc (.cells #[.int .i64 p.level, .bool p.dollar, .bool p.noIn, .bool p.noGt, .bool p.noSign] 36)).heap.size = w.heap.size + 1 + 1) := hid (by simp)
  clear hpre
  have t0 := hP.out.st.box.c0
  go_enter Tryz.func91, Tryz.ntmps91
  go_wp2_with fail
  generalize (w.alloc (.cells #[.int .i64 5, .int .i64 o, .string a, .string b, .slice ka l.length kc] 99)).alloc (.cells #[.int .i64 p.level, .bool p.dollar, .bool p.noIn, .bool p.noGt, .bool p.noSign] 36) = w1 at hP hbt hbp hK hws t0 ⊢
  clear t0 
  obtain ⟨c0, c1, c2, c3, c4⟩ := box_cells hbt.out
  obtain ⟨d0, d1, d2, d3, d4⟩ := box_cells hbp.out
  rw [← hws.out]
  refine (implput1 g B full L M _ _ w1 6 a hP.out.st hgB hP.out.hB (by have h1 := hLen.out; (try simp only [List.length_append, List.length_cons, List.length_nil] at h1); (try simp only [List.length_append, List.length_cons, List.length_nil]); omega)).mono ?_; rintro e w2 ⟨rfl, tv2, hst, hsk⟩
  clear c0 c1 c2 c3 c4 d0 d1 d2 d3 d4
  have hP := hid (hP.out.next hsk hst)
  have hbt := hid (hsk.box hbt.out (by decide) (by decide) (by omega))
  have hbp := hid (hsk.box hbp.out (by decide) (by decide) (by omega))
  have hK := hid (hK.out.trans hsk)
  clear hst hsk
  obtain ⟨c0, c1, c2, c3, c4⟩ := box_cells hbt.out
  obtain ⟨d0, d1, d2, d3, d4⟩ := box_cells hbp.out
  go_wp2_with fail
  refine (hlist p ka _ kc w2 g B S (L ++ [(⟨6, a, 0⟩ : Token)]) M _ _ 34 35 L.length hp hP.out (by have h1 := hLen.out; (try simp only [List.length_append, List.length_cons, List.length_nil] at h1); (try simp only [List.length_append, List.length_cons, List.length_nil]); omega) (by have h1 := hLen2.out; (try simp only [List.length_append, List.length_cons, List.length_nil] at h1); (try simp only [List.length_append, List.length_cons, List.length_nil]); omega) (by simp [headLen, Tree.kind, Tree.kids]) (by simp [sepLen, Tree.kind])).mono ?_; rintro e w3 ⟨rfl, tv3, sv3, hst, hsk⟩
  clear c0 c1 c2 c3 c4 d0 d1 d2 d3 d4
  have hP := hid (hP.out.next hsk hst)
  have hbt := hid (hsk.box hbt.out (by decide) (by decide) (by omega))
  have hbp := hid (hsk.box hbp.out (by decide) (by decide) (by omega))
  have hK := hid (hK.out.trans hsk)
  clear hst hsk
  obtain ⟨c0, c1, c2, c3, c4⟩ := box_cells hbt.out
  obtain ⟨d0, d1, d2, d3, d4⟩ := box_cells hbp.out
  have hst2 := hP.out.st
  obtain ⟨ta2, tc2, he2, _⟩ := own_slice hst2.tok
  subst he2
  have t0 := hst2.box.c0
  have t1 := hst2.box.c1
  have f1 := hst2.box.fr 1
  have hgr := hst2.box.lt
  have hne := hid (own_neS hst2.spn hgB)
  have hown := hid hst2.spn
  have hLc := hid (show ((L ++ [(⟨6, a, 0⟩ : Token)]) ++ sgn 34 :: (commas (Tree.kidTks full (Tree.mk 5 o a b l) p) ++ [sgn 35])).length ≤ 2000000 ∧ (M ++ (Tree.kidSps full (Tree.mk 5 o a b l) p L.length).flatten).length + 1 ≤ 1000000 from ⟨(by have h1 := hLen.out; (try simp only [List.length_append, List.length_cons, List.length_nil] at h1); (try simp only [List.length_append, List.length_cons, List.length_nil]); omega), (by have h1 := hLen2.out; (try simp only [List.length_append, List.length_cons, List.length_nil] at h1); (try simp only [List.length_append, List.length_cons, List.length_nil]); omega)⟩)
  obtain ⟨Lx, hLx⟩ : ∃ Lx, Lx = ((L ++ [(⟨6, a, 0⟩ : Token)]) ++ sgn 34 :: (commas (Tree.kidTks full (Tree.mk 5 o a b l) p) ++ [sgn 35])) := ⟨_, rfl⟩
  obtain ⟨Mx, hMx⟩ : ∃ Mx, Mx = (M ++ (Tree.kidSps full (Tree.mk 5 o a b l) p L.length).flatten) := ⟨_, rfl⟩
  rw [← hLx] at hst2 hP t0 hLc
  rw [← hMx] at hst2 hP hown hLc
  replace hLx := hid hLx
  replace hMx := hid hMx
  replace hst2 := hid hst2
  have hLc1 := hLc.out.1
  have hLc2 := hLc.out.2
  clear c0 c1 c2 c3 c4 d0 d1 d2 d3 d4
  go_wp2_with fail
  go_region_law
    (first
      | (refine step_append_lies _ (by rfl) _ _ _ (by rfl) B 70 i0 _ 2 16 Tryz.underlying67 hi hz0 hz1 hz2 rfl (by omega) _ Mx.length (Mx.flatMap Span.cells) (by rfl) (own_drew (hown.out.alloc _))
          ⟨w3.heap.size, 0, none⟩ 1 1 [.int .i64 (L.length : Nat), .int .i64 (Lx.length : Nat)] (by rfl) (by rfl) (World.news_of_block (cs := #[.int .i64 (L.length : Nat), .int .i64 (Lx.length : Nat)]) (t := 70) (fr := (0, 0)) (heap_alloc_new w3 _)) (by simp [Value.oneCell'])
          (by omega) (by unfold maxLen; omega) (by omega) (by have := hP.out.hB; simp only [World.size_drew, World.size_alloc]; omega) (w3.heap.size + 1) (by simp) ?_; intro gg cap2 w2x hown2 hgrow hat hlt3; have q2 := (hgrow.cell_far _ (by simp; omega) hne.out).trans ((((Below.refl w3.heap.size w3).alloc (Nat.le_refl _) _).cell (p := ⟨g, 1, none⟩) hgr).trans t1); have q3 := (hgrow.frozen_far _ (by simp; omega) hne.out).trans ((((Below.refl w3.heap.size w3).alloc (Nat.le_refl _) _).frozen (p := ⟨g, 1, none⟩) hgr).trans f1)))
  all_goals go_wp2
  all_goals go_end0
  all_goals obtain ⟨k1, k2⟩ := hst2.out.mark (x := ⟨L.length, (Lx.length : Nat)⟩) (((Below.refl w3.heap.size w3).alloc (Nat.le_refl _) _).drew) hgB hown2 hgrow
  all_goals have q1 : Lx = L ++ Tree.tkb full (Tree.mk 5 o a b l) p := hLx.out.trans (by rw [Tree.tkb_eq]; show _ = L ++ nodeToks 5 o a _; simp [nodeToks])
  all_goals have q2 : Mx ++ [⟨(L.length : Nat), (Lx.length : Nat)⟩] = M ++ Tree.spB full (Tree.mk 5 o a b l) p L.length := (by rw [hMx.out, q1]; rw [Tree.spB_eq]; simp)
  all_goals rw [q2, q1] at k1
  all_goals exact ⟨rfl, _, _, k1, hK.out.trans k2⟩
set_option maxRecDepth 100000 in
set_option maxHeartbeats 3200000 in
theorem implbare_7 (full : Bool) (o : Int) (a b : ByteArray) (l : List Tree) (hlist : ListC full (Tree.mk 7 o a b l)) : BareC full (Tree.mk 7 o a b l) := by
  intro p ka kn kc w g B S L M tv sv hp hpre hl hm
  obtain rfl : kn = l.length := hpre.kn
  obtain ⟨i0, hi, hz0, hz1, hz2⟩ := info_parts Tryz.infoSpn
  have hLen : Hid (L.length + 8 * (Tree.mk 7 o a b l).post.length ≤ 1000002 ∧ (Tree.tkb full (Tree.mk 7 o a b l) p).length + 4 ≤ 8 * (Tree.mk 7 o a b l).post.length ∧ sumLen (Tree.kidTks full (Tree.mk 7 o a b l) p) + l.length + 8 ≤ 8 * (Tree.mk 7 o a b l).post.length ∧ (commas (Tree.kidTks full (Tree.mk 7 o a b l) p)).length ≤ sumLen (Tree.kidTks full (Tree.mk 7 o a b l) p) + l.length) := hid ⟨hl, Tree.tkb_len _ _ _, Tree.all_len full (Tree.mk 7 o a b l) p, by have := commas_len (Tree.kidTks full (Tree.mk 7 o a b l) p); rw [Tree.kidTks_len] at this; exact this⟩
  have hLen2 : Hid (M.length + (Tree.mk 7 o a b l).post.length ≤ 1000000 ∧ (Tree.kidSps full (Tree.mk 7 o a b l) p L.length).flatten.length + 1 = (Tree.mk 7 o a b l).post.length) := hid ⟨hm, Tree.all_sp _ _ _ _⟩
  show Calls Tryz.prog 91 #[.pointer (some ⟨g, 0, none⟩), .agg #[.int .i64 7, .int .i64 o, .string a, .string b, .slice ka l.length kc], .agg #[.int .i64 p.level, .bool p.dollar, .bool p.noIn, .bool p.noGt, .bool p.noSign]] w fun e w' => SpPost w g B full (L ++ Tree.tkb full (Tree.mk 7 o a b l) p) (M ++ Tree.spB full (Tree.mk 7 o a b l) p L.length) e w'
  obtain ⟨ta, tc, he, _⟩ := own_slice hpre.st.tok
  subst he
  have hLl : L.length ≤ 2000000 := by omega
  clear hl hm
  have hgB := hpre.hgB
  have hBw := hpre.hB
  have hP := hid (hpre.below (((Below.refl w.heap.size w).alloc (Nat.le_refl _) (.cells #[.int .i64 7, .int .i64 o, .string a, .string b, .slice ka l.length kc] 99)).alloc (by simp) (.cells #[.int .i64 p.level, .bool p.dollar, .bool p.noIn, .bool p.noGt, .bool p.noSign] 36)))
  have hbt := hid (alloc2_at0 w (.cells #[.int .i64 7, .int .i64 o, .string a, .string b, .slice ka l.length kc] 99) (.cells #[.int .i64 p.level, .bool p.dollar, .bool p.noIn, .bool p.noGt, .bool p.noSign] 36))
  have hbp := hid (alloc2_at1 w (.cells #[.int .i64 7, .int .i64 o, .string a, .string b, .slice ka l.length kc] 99) (.cells #[.int .i64 p.level, .bool p.dollar, .bool p.noIn, .bool p.noGt, .bool p.noSign] 36))
  have hK : Hid (Sk g B w ((w.alloc (.cells #[.int .i64 7, .int .i64 o, .string a, .string b, .slice ka l.length kc] 99)).alloc (.cells #[.int .i64 p.level, .bool p.dollar, .bool p.noIn, .bool p.noGt, .bool p.noSign] 36))) := hid (Sk.of_below (((Below.refl w.heap.size w).alloc (Nat.le_refl _) (.cells #[.int .i64 7, .int .i64 o, .string a, .string b, .slice ka l.length kc] 99)).alloc (by simp) (.cells #[.int .i64 p.level, .bool p.dollar, .bool p.noIn, .bool p.noGt, .bool p.noSign] 36)))
  have hws : Hid (((w.alloc (.cells #[.int .i64 7, .int .i64 o, .string a, .string b, .slice ka l.length kc] 99)).alloc (.cells #[.int .i64 p.level, .bool p.dollar, .bool p.noIn, .bool p.noGt, .bool p.noSign] 36)).heap.size = w.heap.size + 1 + 1) := hid (by simp)
  clear hpre
  have t0 := hP.out.st.box.c0
  go_enter Tryz.func91, Tryz.ntmps91
  go_wp2_with fail
  generalize (w.alloc (.cells #[.int .i64 7, .int .i64 o, .string a, .string b, .slice ka l.length kc] 99)).alloc (.cells #[.int .i64 p.level, .bool p.dollar, .bool p.noIn, .bool p.noGt, .bool p.noSign] 36) = w1 at hP hbt hbp hK hws t0 ⊢
  clear t0 
  obtain ⟨c0, c1, c2, c3, c4⟩ := box_cells hbt.out
  obtain ⟨d0, d1, d2, d3, d4⟩ := box_cells hbp.out
  rw [← hws.out]
  refine (implput1 g B full L M _ _ w1 7 a hP.out.st hgB hP.out.hB (by have h1 := hLen.out; (try simp only [List.length_append, List.length_cons, List.length_nil] at h1); (try simp only [List.length_append, List.length_cons, List.length_nil]); omega)).mono ?_; rintro e w2 ⟨rfl, tv2, hst, hsk⟩
  clear c0 c1 c2 c3 c4 d0 d1 d2 d3 d4
  have hP := hid (hP.out.next hsk hst)
  have hbt := hid (hsk.box hbt.out (by decide) (by decide) (by omega))
  have hbp := hid (hsk.box hbp.out (by decide) (by decide) (by omega))
  have hK := hid (hK.out.trans hsk)
  clear hst hsk
  obtain ⟨c0, c1, c2, c3, c4⟩ := box_cells hbt.out
  obtain ⟨d0, d1, d2, d3, d4⟩ := box_cells hbp.out
  go_wp2_with fail
  refine (hlist p ka _ kc w2 g B S (L ++ [(⟨7, a, 0⟩ : Token)]) M _ _ 32 33 L.length hp hP.out (by have h1 := hLen.out; (try simp only [List.length_append, List.length_cons, List.length_nil] at h1); (try simp only [List.length_append, List.length_cons, List.length_nil]); omega) (by have h1 := hLen2.out; (try simp only [List.length_append, List.length_cons, List.length_nil] at h1); (try simp only [List.length_append, List.length_cons, List.length_nil]); omega) (by simp [headLen, Tree.kind, Tree.kids]) (by simp [sepLen, Tree.kind])).mono ?_; rintro e w3 ⟨rfl, tv3, sv3, hst, hsk⟩
  clear c0 c1 c2 c3 c4 d0 d1 d2 d3 d4
  have hP := hid (hP.out.next hsk hst)
  have hbt := hid (hsk.box hbt.out (by decide) (by decide) (by omega))
  have hbp := hid (hsk.box hbp.out (by decide) (by decide) (by omega))
  have hK := hid (hK.out.trans hsk)
  clear hst hsk
  obtain ⟨c0, c1, c2, c3, c4⟩ := box_cells hbt.out
  obtain ⟨d0, d1, d2, d3, d4⟩ := box_cells hbp.out
  have hst2 := hP.out.st
  obtain ⟨ta2, tc2, he2, _⟩ := own_slice hst2.tok
  subst he2
  have t0 := hst2.box.c0
  have t1 := hst2.box.c1
  have f1 := hst2.box.fr 1
  have hgr := hst2.box.lt
  have hne := hid (own_neS hst2.spn hgB)
  have hown := hid hst2.spn
  have hLc := hid (show ((L ++ [(⟨7, a, 0⟩ : Token)]) ++ sgn 32 :: (commas (Tree.kidTks full (Tree.mk 7 o a b l) p) ++ [sgn 33])).length ≤ 2000000 ∧ (M ++ (Tree.kidSps full (Tree.mk 7 o a b l) p L.length).flatten).length + 1 ≤ 1000000 from ⟨(by have h1 := hLen.out; (try simp only [List.length_append, List.length_cons, List.length_nil] at h1); (try simp only [List.length_append, List.length_cons, List.length_nil]); omega), (by have h1 := hLen2.out; (try simp only [List.length_append, List.length_cons, List.length_nil] at h1); (try simp only [List.length_append, List.length_cons, List.length_nil]); omega)⟩)
  obtain ⟨Lx, hLx⟩ : ∃ Lx, Lx = ((L ++ [(⟨7, a, 0⟩ : Token)]) ++ sgn 32 :: (commas (Tree.kidTks full (Tree.mk 7 o a b l) p) ++ [sgn 33])) := ⟨_, rfl⟩
  obtain ⟨Mx, hMx⟩ : ∃ Mx, Mx = (M ++ (Tree.kidSps full (Tree.mk 7 o a b l) p L.length).flatten) := ⟨_, rfl⟩
  rw [← hLx] at hst2 hP t0 hLc
  rw [← hMx] at hst2 hP hown hLc
  replace hLx := hid hLx
  replace hMx := hid hMx
  replace hst2 := hid hst2
  have hLc1 := hLc.out.1
  have hLc2 := hLc.out.2
  clear c0 c1 c2 c3 c4 d0 d1 d2 d3 d4
  go_wp2_with fail
  go_region_law
    (first
      | (refine step_append_lies _ (by rfl) _ _ _ (by rfl) B 70 i0 _ 2 16 Tryz.underlying67 hi hz0 hz1 hz2 rfl (by omega) _ Mx.length (Mx.flatMap Span.cells) (by rfl) (own_drew (hown.out.alloc _))
          ⟨w3.heap.size, 0, none⟩ 1 1 [.int .i64 (L.length : Nat), .int .i64 (Lx.length : Nat)] (by rfl) (by rfl) (World.news_of_block (cs := #[.int .i64 (L.length : Nat), .int .i64 (Lx.length : Nat)]) (t := 70) (fr := (0, 0)) (heap_alloc_new w3 _)) (by simp [Value.oneCell'])
          (by omega) (by unfold maxLen; omega) (by omega) (by have := hP.out.hB; simp only [World.size_drew, World.size_alloc]; omega) (w3.heap.size + 1) (by simp) ?_; intro gg cap2 w2x hown2 hgrow hat hlt3; have q2 := (hgrow.cell_far _ (by simp; omega) hne.out).trans ((((Below.refl w3.heap.size w3).alloc (Nat.le_refl _) _).cell (p := ⟨g, 1, none⟩) hgr).trans t1); have q3 := (hgrow.frozen_far _ (by simp; omega) hne.out).trans ((((Below.refl w3.heap.size w3).alloc (Nat.le_refl _) _).frozen (p := ⟨g, 1, none⟩) hgr).trans f1)))
  all_goals go_wp2
  all_goals go_end0
  all_goals obtain ⟨k1, k2⟩ := hst2.out.mark (x := ⟨L.length, (Lx.length : Nat)⟩) (((Below.refl w3.heap.size w3).alloc (Nat.le_refl _) _).drew) hgB hown2 hgrow
  all_goals have q1 : Lx = L ++ Tree.tkb full (Tree.mk 7 o a b l) p := hLx.out.trans (by rw [Tree.tkb_eq]; show _ = L ++ nodeToks 7 o a _; simp [nodeToks])
  all_goals have q2 : Mx ++ [⟨(L.length : Nat), (Lx.length : Nat)⟩] = M ++ Tree.spB full (Tree.mk 7 o a b l) p L.length := (by rw [hMx.out, q1]; rw [Tree.spB_eq]; simp)
  all_goals rw [q2, q1] at k1
  all_goals exact ⟨rfl, _, _, k1, hK.out.trans k2⟩
set_option maxRecDepth 100000 in
set_option maxHeartbeats 3200000 in
theorem implbare_8 (full : Bool) (o : Int) (a b : ByteArray) (l : List Tree) (hlist : ListC full (Tree.mk 8 o a b l)) : BareC full (Tree.mk 8 o a b l) := by
  intro p ka kn kc w g B S L M tv sv hp hpre hl hm
  obtain rfl : kn = l.length := hpre.kn
  obtain ⟨i0, hi, hz0, hz1, hz2⟩ := info_parts Tryz.infoSpn
  have hLen : Hid (L.length + 8 * (Tree.mk 8 o a b l).post.length ≤ 1000002 ∧ (Tree.tkb full (Tree.mk 8 o a b l) p).length + 4 ≤ 8 * (Tree.mk 8 o a b l).post.length ∧ sumLen (Tree.kidTks full (Tree.mk 8 o a b l) p) + l.length + 8 ≤ 8 * (Tree.mk 8 o a b l).post.length ∧ (commas (Tree.kidTks full (Tree.mk 8 o a b l) p)).length ≤ sumLen (Tree.kidTks full (Tree.mk 8 o a b l) p) + l.length) := hid ⟨hl, Tree.tkb_len _ _ _, Tree.all_len full (Tree.mk 8 o a b l) p, by have := commas_len (Tree.kidTks full (Tree.mk 8 o a b l) p); rw [Tree.kidTks_len] at this; exact this⟩
  have hLen2 : Hid (M.length + (Tree.mk 8 o a b l).post.length ≤ 1000000 ∧ (Tree.kidSps full (Tree.mk 8 o a b l) p L.length).flatten.length + 1 = (Tree.mk 8 o a b l).post.length) := hid ⟨hm, Tree.all_sp _ _ _ _⟩
  show Calls Tryz.prog 91 #[.pointer (some ⟨g, 0, none⟩), .agg #[.int .i64 8, .int .i64 o, .string a, .string b, .slice ka l.length kc], .agg #[.int .i64 p.level, .bool p.dollar, .bool p.noIn, .bool p.noGt, .bool p.noSign]] w fun e w' => SpPost w g B full (L ++ Tree.tkb full (Tree.mk 8 o a b l) p) (M ++ Tree.spB full (Tree.mk 8 o a b l) p L.length) e w'
  obtain ⟨ta, tc, he, _⟩ := own_slice hpre.st.tok
  subst he
  have hLl : L.length ≤ 2000000 := by omega
  clear hl hm
  have hgB := hpre.hgB
  have hBw := hpre.hB
  have hP := hid (hpre.below (((Below.refl w.heap.size w).alloc (Nat.le_refl _) (.cells #[.int .i64 8, .int .i64 o, .string a, .string b, .slice ka l.length kc] 99)).alloc (by simp) (.cells #[.int .i64 p.level, .bool p.dollar, .bool p.noIn, .bool p.noGt, .bool p.noSign] 36)))
  have hbt := hid (alloc2_at0 w (.cells #[.int .i64 8, .int .i64 o, .string a, .string b, .slice ka l.length kc] 99) (.cells #[.int .i64 p.level, .bool p.dollar, .bool p.noIn, .bool p.noGt, .bool p.noSign] 36))
  have hbp := hid (alloc2_at1 w (.cells #[.int .i64 8, .int .i64 o, .string a, .string b, .slice ka l.length kc] 99) (.cells #[.int .i64 p.level, .bool p.dollar, .bool p.noIn, .bool p.noGt, .bool p.noSign] 36))
  have hK : Hid (Sk g B w ((w.alloc (.cells #[.int .i64 8, .int .i64 o, .string a, .string b, .slice ka l.length kc] 99)).alloc (.cells #[.int .i64 p.level, .bool p.dollar, .bool p.noIn, .bool p.noGt, .bool p.noSign] 36))) := hid (Sk.of_below (((Below.refl w.heap.size w).alloc (Nat.le_refl _) (.cells #[.int .i64 8, .int .i64 o, .string a, .string b, .slice ka l.length kc] 99)).alloc (by simp) (.cells #[.int .i64 p.level, .bool p.dollar, .bool p.noIn, .bool p.noGt, .bool p.noSign] 36)))
  have hws : Hid (((w.alloc (.cells #[.int .i64 8, .int .i64 o, .string a, .string b, .slice ka l.length kc] 99)).alloc (.cells #[.int .i64 p.level, .bool p.dollar, .bool p.noIn, .bool p.noGt, .bool p.noSign] 36)).heap.size = w.heap.size + 1 + 1) := hid (by simp)
  clear hpre
  have t0 := hP.out.st.box.c0
  go_enter Tryz.func91, Tryz.ntmps91
  go_wp2_with fail
  generalize (w.alloc (.cells #[.int .i64 8, .int .i64 o, .string a, .string b, .slice ka l.length kc] 99)).alloc (.cells #[.int .i64 p.level, .bool p.dollar, .bool p.noIn, .bool p.noGt, .bool p.noSign] 36) = w1 at hP hbt hbp hK hws t0 ⊢
  clear t0 
  obtain ⟨c0, c1, c2, c3, c4⟩ := box_cells hbt.out
  obtain ⟨d0, d1, d2, d3, d4⟩ := box_cells hbp.out
  rw [← hws.out]
  refine (implput1 g B full L M _ _ w1 8 a hP.out.st hgB hP.out.hB (by have h1 := hLen.out; (try simp only [List.length_append, List.length_cons, List.length_nil] at h1); (try simp only [List.length_append, List.length_cons, List.length_nil]); omega)).mono ?_; rintro e w2 ⟨rfl, tv2, hst, hsk⟩
  clear c0 c1 c2 c3 c4 d0 d1 d2 d3 d4
  have hP := hid (hP.out.next hsk hst)
  have hbt := hid (hsk.box hbt.out (by decide) (by decide) (by omega))
  have hbp := hid (hsk.box hbp.out (by decide) (by decide) (by omega))
  have hK := hid (hK.out.trans hsk)
  clear hst hsk
  obtain ⟨c0, c1, c2, c3, c4⟩ := box_cells hbt.out
  obtain ⟨d0, d1, d2, d3, d4⟩ := box_cells hbp.out
  go_wp2_with fail
  refine (hlist p ka _ kc w2 g B S (L ++ [(⟨8, a, 0⟩ : Token)]) M _ _ 32 33 L.length hp hP.out (by have h1 := hLen.out; (try simp only [List.length_append, List.length_cons, List.length_nil] at h1); (try simp only [List.length_append, List.length_cons, List.length_nil]); omega) (by have h1 := hLen2.out; (try simp only [List.length_append, List.length_cons, List.length_nil] at h1); (try simp only [List.length_append, List.length_cons, List.length_nil]); omega) (by simp [headLen, Tree.kind, Tree.kids]) (by simp [sepLen, Tree.kind])).mono ?_; rintro e w3 ⟨rfl, tv3, sv3, hst, hsk⟩
  clear c0 c1 c2 c3 c4 d0 d1 d2 d3 d4
  have hP := hid (hP.out.next hsk hst)
  have hbt := hid (hsk.box hbt.out (by decide) (by decide) (by omega))
  have hbp := hid (hsk.box hbp.out (by decide) (by decide) (by omega))
  have hK := hid (hK.out.trans hsk)
  clear hst hsk
  obtain ⟨c0, c1, c2, c3, c4⟩ := box_cells hbt.out
  obtain ⟨d0, d1, d2, d3, d4⟩ := box_cells hbp.out
  have hst2 := hP.out.st
  obtain ⟨ta2, tc2, he2, _⟩ := own_slice hst2.tok
  subst he2
  have t0 := hst2.box.c0
  have t1 := hst2.box.c1
  have f1 := hst2.box.fr 1
  have hgr := hst2.box.lt
  have hne := hid (own_neS hst2.spn hgB)
  have hown := hid hst2.spn
  have hLc := hid (show ((L ++ [(⟨8, a, 0⟩ : Token)]) ++ sgn 32 :: (commas (Tree.kidTks full (Tree.mk 8 o a b l) p) ++ [sgn 33])).length ≤ 2000000 ∧ (M ++ (Tree.kidSps full (Tree.mk 8 o a b l) p L.length).flatten).length + 1 ≤ 1000000 from ⟨(by have h1 := hLen.out; (try simp only [List.length_append, List.length_cons, List.length_nil] at h1); (try simp only [List.length_append, List.length_cons, List.length_nil]); omega), (by have h1 := hLen2.out; (try simp only [List.length_append, List.length_cons, List.length_nil] at h1); (try simp only [List.length_append, List.length_cons, List.length_nil]); omega)⟩)
  obtain ⟨Lx, hLx⟩ : ∃ Lx, Lx = ((L ++ [(⟨8, a, 0⟩ : Token)]) ++ sgn 32 :: (commas (Tree.kidTks full (Tree.mk 8 o a b l) p) ++ [sgn 33])) := ⟨_, rfl⟩
  obtain ⟨Mx, hMx⟩ : ∃ Mx, Mx = (M ++ (Tree.kidSps full (Tree.mk 8 o a b l) p L.length).flatten) := ⟨_, rfl⟩
  rw [← hLx] at hst2 hP t0 hLc
  rw [← hMx] at hst2 hP hown hLc
  replace hLx := hid hLx
  replace hMx := hid hMx
  replace hst2 := hid hst2
  have hLc1 := hLc.out.1
  have hLc2 := hLc.out.2
  clear c0 c1 c2 c3 c4 d0 d1 d2 d3 d4
  go_wp2_with fail
  go_region_law
    (first
      | (refine step_append_lies _ (by rfl) _ _ _ (by rfl) B 70 i0 _ 2 16 Tryz.underlying67 hi hz0 hz1 hz2 rfl (by omega) _ Mx.length (Mx.flatMap Span.cells) (by rfl) (own_drew (hown.out.alloc _))
          ⟨w3.heap.size, 0, none⟩ 1 1 [.int .i64 (L.length : Nat), .int .i64 (Lx.length : Nat)] (by rfl) (by rfl) (World.news_of_block (cs := #[.int .i64 (L.length : Nat), .int .i64 (Lx.length : Nat)]) (t := 70) (fr := (0, 0)) (heap_alloc_new w3 _)) (by simp [Value.oneCell'])
          (by omega) (by unfold maxLen; omega) (by omega) (by have := hP.out.hB; simp only [World.size_drew, World.size_alloc]; omega) (w3.heap.size + 1) (by simp) ?_; intro gg cap2 w2x hown2 hgrow hat hlt3; have q2 := (hgrow.cell_far _ (by simp; omega) hne.out).trans ((((Below.refl w3.heap.size w3).alloc (Nat.le_refl _) _).cell (p := ⟨g, 1, none⟩) hgr).trans t1); have q3 := (hgrow.frozen_far _ (by simp; omega) hne.out).trans ((((Below.refl w3.heap.size w3).alloc (Nat.le_refl _) _).frozen (p := ⟨g, 1, none⟩) hgr).trans f1)))
  all_goals go_wp2
  all_goals go_end0
  all_goals obtain ⟨k1, k2⟩ := hst2.out.mark (x := ⟨L.length, (Lx.length : Nat)⟩) (((Below.refl w3.heap.size w3).alloc (Nat.le_refl _) _).drew) hgB hown2 hgrow
  all_goals have q1 : Lx = L ++ Tree.tkb full (Tree.mk 8 o a b l) p := hLx.out.trans (by rw [Tree.tkb_eq]; show _ = L ++ nodeToks 8 o a _; simp [nodeToks])
  all_goals have q2 : Mx ++ [⟨(L.length : Nat), (Lx.length : Nat)⟩] = M ++ Tree.spB full (Tree.mk 8 o a b l) p L.length := (by rw [hMx.out, q1]; rw [Tree.spB_eq]; simp)
  all_goals rw [q2, q1] at k1
  all_goals exact ⟨rfl, _, _, k1, hK.out.trans k2⟩
end Go.Proofs.YtkelhmgdajiocaaGreatDoor
