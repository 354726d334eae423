/- Walks and lemmas of this seat (FSpellO): what each theorem says of the functions that it names. Conditions: those that each theorem states. -/
import Derived.Test.YtkelhmgdajiocaaGreatDoorFSpellB
import Derived.Test.YtkelhmgdajiocaaGreatDoorGB
import Derived.Deep.RegionLaw
namespace Go.Proofs.YtkelhmgdajiocaaGreatDoor
set_option linter.unusedVariables false
set_option linter.unusedSimpArgs false
open Go.RowKit

/-! operator: an expression with an operator, kind by kind. -/
set_option maxRecDepth 100000 in
set_option maxHeartbeats 3200000 in
theorem imploper_9 (full : Bool) (o : Int) (a b : ByteArray) (u : Tree) (hkid : KidC full (Tree.mk 9 o a b [u])) : OperC full (Tree.mk 9 o a b [u]) := by
  intro p ka kn kc w g B S L M tv sv hp hpre hl hm
  obtain rfl : kn = 1 := hpre.kn
  rw [post1] at hl hm
  have hLen : Hid ((kidTk full 9 o 1 p 0 u).length + 1 ≤ 8 * u.post.length ∧ L.length + (8 * u.post.length) + 8 ≤ 1000002 ∧ 1 ≤ u.post.length) := hid ⟨kidTk_len full 9 o 1 p 0 u, by omega, u.posts_pos⟩
  have hLen2 : Hid (M.length + (u.post.length) + 1 ≤ 1000000) := hid (by omega)
  show Calls Tryz.prog 123 #[.pointer (some ⟨g, 0, none⟩), .agg #[.int .i64 9, .int .i64 o, .string a, .string b, .slice ka 1 kc], .agg #[.int .i64 p.level, .bool p.dollar, .bool p.noIn, .bool p.noGt, .bool p.noSign]] w fun e w' => SpPost w g B full (L ++ Tree.tkb full (Tree.mk 9 o a b [u]) p) (M ++ (Tree.kidSps full (Tree.mk 9 o a b [u]) p L.length).flatten) e w'
  clear hl hm
  have hgB := hpre.hgB
  have hBw := hpre.hB
  have hP := hid (hpre.below (((Below.refl w.heap.size w).alloc (Nat.le_refl _) (.cells #[.int .i64 9, .int .i64 o, .string a, .string b, .slice ka 1 kc] 99)).alloc (by simp) (.cells #[.int .i64 p.level, .bool p.dollar, .bool p.noIn, .bool p.noGt, .bool p.noSign] 36)))
  have hbt := hid (alloc2_at0 w (.cells #[.int .i64 9, .int .i64 o, .string a, .string b, .slice ka 1 kc] 99) (.cells #[.int .i64 p.level, .bool p.dollar, .bool p.noIn, .bool p.noGt, .bool p.noSign] 36))
  have hbp := hid (alloc2_at1 w (.cells #[.int .i64 9, .int .i64 o, .string a, .string b, .slice ka 1 kc] 99) (.cells #[.int .i64 p.level, .bool p.dollar, .bool p.noIn, .bool p.noGt, .bool p.noSign] 36))
  have hK : Hid (Sk g B w ((w.alloc (.cells #[.int .i64 9, .int .i64 o, .string a, .string b, .slice ka 1 kc] 99)).alloc (.cells #[.int .i64 p.level, .bool p.dollar, .bool p.noIn, .bool p.noGt, .bool p.noSign] 36))) := hid (Sk.of_below (((Below.refl w.heap.size w).alloc (Nat.le_refl _) (.cells #[.int .i64 9, .int .i64 o, .string a, .string b, .slice ka 1 kc] 99)).alloc (by simp) (.cells #[.int .i64 p.level, .bool p.dollar, .bool p.noIn, .bool p.noGt, .bool p.noSign] 36)))
  have hws : Hid (((w.alloc (.cells #[.int .i64 9, .int .i64 o, .string a, .string b, .slice ka 1 kc] 99)).alloc (.cells #[.int .i64 p.level, .bool p.dollar, .bool p.noIn, .bool p.noGt, .bool p.noSign] 36)).heap.size = w.heap.size + 1 + 1) := hid (by simp)
  clear hpre
  go_enter Tryz.func123, Tryz.ntmps123
  go_wp2_with fail
  generalize (w.alloc (.cells #[.int .i64 9, .int .i64 o, .string a, .string b, .slice ka 1 kc] 99)).alloc (.cells #[.int .i64 p.level, .bool p.dollar, .bool p.noIn, .bool p.noGt, .bool p.noSign] 36) = w1 at hP hbt hbp hK hws ⊢
  obtain ⟨c0, c1, c2, c3, c4⟩ := box_cells hbt.out
  obtain ⟨d0, d1, d2, d3, d4⟩ := box_cells hbp.out
  refine (implsign_any o w1 hP.out.low.env).mono ?_; rintro e w2 ⟨rfl, hbs⟩
  clear c0 c1 c2 c3 c4 d0 d1 d2 d3 d4
  have hP := hid (hP.out.below hbs)
  have hbt := hid (box_below hbt.out hbs)
  have hbp := hid (box_below hbp.out hbs)
  have hK := hid (hK.out.below hbs)
  clear hbs
  obtain ⟨c0, c1, c2, c3, c4⟩ := box_cells hbt.out
  obtain ⟨d0, d1, d2, d3, d4⟩ := box_cells hbp.out
  go_wp2_with fail
  refine (implput1 g B full L M _ _ w2 o (spellB o) hP.out.st hgB hP.out.hB (by have h1 := hLen.out; (try simp only [List.length_append, List.length_cons, List.length_nil] at h1); (try simp only [List.length_append, List.length_cons, List.length_nil]); omega)).mono ?_; rintro e w3 ⟨rfl, tv3, hst, hsk⟩
  clear c0 c1 c2 c3 c4 d0 d1 d2 d3 d4
  have hP := hid (hP.out.next hsk hst)
  have hbt := hid (hsk.box hbt.out (by decide) (by decide) (by omega))
  have hbp := hid (hsk.box hbp.out (by decide) (by decide) (by omega))
  have hK := hid (hK.out.trans hsk)
  clear hst hsk
  obtain ⟨c0, c1, c2, c3, c4⟩ := box_cells hbt.out
  obtain ⟨d0, d1, d2, d3, d4⟩ := box_cells hbp.out
  go_wp2_with fail
  refine (hkid p ka _ kc w3 g B S (L ++ [(⟨o, (spellB o), 0⟩ : Token)]) M _ _ 0 0 u hp hP.out rfl rfl (by have h1 := hLen.out; (try simp only [List.length_append, List.length_cons, List.length_nil] at h1); (try simp only [List.length_append, List.length_cons, List.length_nil]); omega) (by have h1 := hLen2.out; (try simp only [List.length_append, List.length_cons, List.length_nil, kidSp_len] at h1); (try simp only [List.length_append, List.length_cons, List.length_nil, kidSp_len]); omega)).mono ?_; rintro e w4 ⟨rfl, tv4, sv4, hst, hsk⟩
  replace hst : SpSt w4 g B full ((L ++ [(⟨o, (spellB o), 0⟩ : Token)]) ++ kidTk full 9 o 1 p 0 u) (M ++ kidSp full 9 o 1 p 0 u (L ++ [(⟨o, (spellB o), 0⟩ : Token)]).length) tv4 sv4 := hst
  clear c0 c1 c2 c3 c4 d0 d1 d2 d3 d4
  have hP := hid (hP.out.next hsk hst)
  have hbt := hid (hsk.box hbt.out (by decide) (by decide) (by omega))
  have hbp := hid (hsk.box hbp.out (by decide) (by decide) (by omega))
  have hK := hid (hK.out.trans hsk)
  clear hst hsk
  obtain ⟨c0, c1, c2, c3, c4⟩ := box_cells hbt.out
  obtain ⟨d0, d1, d2, d3, d4⟩ := box_cells hbp.out
  have q1 : ((L ++ [(⟨o, (spellB o), 0⟩ : Token)]) ++ kidTk full 9 o 1 p 0 u) = L ++ Tree.tkb full (Tree.mk 9 o a b [u]) p := (by rw [Tree.tkb_eq, kidTks1]; show _ = L ++ nodeToks 9 o a _; simp [nodeToks, sgn])
  have q2 : (M ++ kidSp full 9 o 1 p 0 u (L ++ [(⟨o, (spellB o), 0⟩ : Token)]).length) = M ++ (Tree.kidSps full (Tree.mk 9 o a b [u]) p L.length).flatten := (by rw [kidSps1]; simp [headLen, sepLen, Nat.add_assoc, Nat.add_comm, Nat.add_left_comm])
  have hfin := hP.out.st
  rw [q1, q2] at hfin
  replace hfin := hid hfin
  clear q1 q2
  go_wp2
  go_end0
  exact ⟨rfl, _, _, hfin.out, hK.out⟩
set_option maxRecDepth 100000 in
set_option maxHeartbeats 3200000 in
theorem imploper_11 (full : Bool) (o : Int) (a b : ByteArray) (u : Tree) (hkid : KidC full (Tree.mk 11 o a b [u])) : OperC full (Tree.mk 11 o a b [u]) := by
  intro p ka kn kc w g B S L M tv sv hp hpre hl hm
  obtain rfl : kn = 1 := hpre.kn
  rw [post1] at hl hm
  have hLen : Hid ((kidTk full 11 o 1 p 0 u).length + 1 ≤ 8 * u.post.length ∧ L.length + (8 * u.post.length) + 8 ≤ 1000002 ∧ 1 ≤ u.post.length) := hid ⟨kidTk_len full 11 o 1 p 0 u, by omega, u.posts_pos⟩
  have hLen2 : Hid (M.length + (u.post.length) + 1 ≤ 1000000) := hid (by omega)
  show Calls Tryz.prog 123 #[.pointer (some ⟨g, 0, none⟩), .agg #[.int .i64 11, .int .i64 o, .string a, .string b, .slice ka 1 kc], .agg #[.int .i64 p.level, .bool p.dollar, .bool p.noIn, .bool p.noGt, .bool p.noSign]] w fun e w' => SpPost w g B full (L ++ Tree.tkb full (Tree.mk 11 o a b [u]) p) (M ++ (Tree.kidSps full (Tree.mk 11 o a b [u]) p L.length).flatten) e w'
  clear hl hm
  have hgB := hpre.hgB
  have hBw := hpre.hB
  have hP := hid (hpre.below (((Below.refl w.heap.size w).alloc (Nat.le_refl _) (.cells #[.int .i64 11, .int .i64 o, .string a, .string b, .slice ka 1 kc] 99)).alloc (by simp) (.cells #[.int .i64 p.level, .bool p.dollar, .bool p.noIn, .bool p.noGt, .bool p.noSign] 36)))
  have hbt := hid (alloc2_at0 w (.cells #[.int .i64 11, .int .i64 o, .string a, .string b, .slice ka 1 kc] 99) (.cells #[.int .i64 p.level, .bool p.dollar, .bool p.noIn, .bool p.noGt, .bool p.noSign] 36))
  have hbp := hid (alloc2_at1 w (.cells #[.int .i64 11, .int .i64 o, .string a, .string b, .slice ka 1 kc] 99) (.cells #[.int .i64 p.level, .bool p.dollar, .bool p.noIn, .bool p.noGt, .bool p.noSign] 36))
  have hK : Hid (Sk g B w ((w.alloc (.cells #[.int .i64 11, .int .i64 o, .string a, .string b, .slice ka 1 kc] 99)).alloc (.cells #[.int .i64 p.level, .bool p.dollar, .bool p.noIn, .bool p.noGt, .bool p.noSign] 36))) := hid (Sk.of_below (((Below.refl w.heap.size w).alloc (Nat.le_refl _) (.cells #[.int .i64 11, .int .i64 o, .string a, .string b, .slice ka 1 kc] 99)).alloc (by simp) (.cells #[.int .i64 p.level, .bool p.dollar, .bool p.noIn, .bool p.noGt, .bool p.noSign] 36)))
  have hws : Hid (((w.alloc (.cells #[.int .i64 11, .int .i64 o, .string a, .string b, .slice ka 1 kc] 99)).alloc (.cells #[.int .i64 p.level, .bool p.dollar, .bool p.noIn, .bool p.noGt, .bool p.noSign] 36)).heap.size = w.heap.size + 1 + 1) := hid (by simp)
  clear hpre
  go_enter Tryz.func123, Tryz.ntmps123
  go_wp2_with fail
  generalize (w.alloc (.cells #[.int .i64 11, .int .i64 o, .string a, .string b, .slice ka 1 kc] 99)).alloc (.cells #[.int .i64 p.level, .bool p.dollar, .bool p.noIn, .bool p.noGt, .bool p.noSign] 36) = w1 at hP hbt hbp hK hws ⊢
  obtain ⟨c0, c1, c2, c3, c4⟩ := box_cells hbt.out
  obtain ⟨d0, d1, d2, d3, d4⟩ := box_cells hbp.out
  refine (implsign_any o w1 hP.out.low.env).mono ?_; rintro e w2 ⟨rfl, hbs⟩
  clear c0 c1 c2 c3 c4 d0 d1 d2 d3 d4
  have hP := hid (hP.out.below hbs)
  have hbt := hid (box_below hbt.out hbs)
  have hbp := hid (box_below hbp.out hbs)
  have hK := hid (hK.out.below hbs)
  clear hbs
  obtain ⟨c0, c1, c2, c3, c4⟩ := box_cells hbt.out
  obtain ⟨d0, d1, d2, d3, d4⟩ := box_cells hbp.out
  go_wp2_with fail
  refine (implput1 g B full L M _ _ w2 o (spellB o) hP.out.st hgB hP.out.hB (by have h1 := hLen.out; (try simp only [List.length_append, List.length_cons, List.length_nil] at h1); (try simp only [List.length_append, List.length_cons, List.length_nil]); omega)).mono ?_; rintro e w3 ⟨rfl, tv3, hst, hsk⟩
  clear c0 c1 c2 c3 c4 d0 d1 d2 d3 d4
  have hP := hid (hP.out.next hsk hst)
  have hbt := hid (hsk.box hbt.out (by decide) (by decide) (by omega))
  have hbp := hid (hsk.box hbp.out (by decide) (by decide) (by omega))
  have hK := hid (hK.out.trans hsk)
  clear hst hsk
  obtain ⟨c0, c1, c2, c3, c4⟩ := box_cells hbt.out
  obtain ⟨d0, d1, d2, d3, d4⟩ := box_cells hbp.out
  go_wp2_with fail
  refine (hkid p ka _ kc w3 g B S (L ++ [(⟨o, (spellB o), 0⟩ : Token)]) M _ _ 0 0 u hp hP.out rfl rfl (by have h1 := hLen.out; (try simp only [List.length_append, List.length_cons, List.length_nil] at h1); (try simp only [List.length_append, List.length_cons, List.length_nil]); omega) (by have h1 := hLen2.out; (try simp only [List.length_append, List.length_cons, List.length_nil, kidSp_len] at h1); (try simp only [List.length_append, List.length_cons, List.length_nil, kidSp_len]); omega)).mono ?_; rintro e w4 ⟨rfl, tv4, sv4, hst, hsk⟩
  replace hst : SpSt w4 g B full ((L ++ [(⟨o, (spellB o), 0⟩ : Token)]) ++ kidTk full 11 o 1 p 0 u) (M ++ kidSp full 11 o 1 p 0 u (L ++ [(⟨o, (spellB o), 0⟩ : Token)]).length) tv4 sv4 := hst
  clear c0 c1 c2 c3 c4 d0 d1 d2 d3 d4
  have hP := hid (hP.out.next hsk hst)
  have hbt := hid (hsk.box hbt.out (by decide) (by decide) (by omega))
  have hbp := hid (hsk.box hbp.out (by decide) (by decide) (by omega))
  have hK := hid (hK.out.trans hsk)
  clear hst hsk
  obtain ⟨c0, c1, c2, c3, c4⟩ := box_cells hbt.out
  obtain ⟨d0, d1, d2, d3, d4⟩ := box_cells hbp.out
  have q1 : ((L ++ [(⟨o, (spellB o), 0⟩ : Token)]) ++ kidTk full 11 o 1 p 0 u) = L ++ Tree.tkb full (Tree.mk 11 o a b [u]) p := (by rw [Tree.tkb_eq, kidTks1]; show _ = L ++ nodeToks 11 o a _; simp [nodeToks, sgn])
  have q2 : (M ++ kidSp full 11 o 1 p 0 u (L ++ [(⟨o, (spellB o), 0⟩ : Token)]).length) = M ++ (Tree.kidSps full (Tree.mk 11 o a b [u]) p L.length).flatten := (by rw [kidSps1]; simp [headLen, sepLen, Nat.add_assoc, Nat.add_comm, Nat.add_left_comm])
  have hfin := hP.out.st
  rw [q1, q2] at hfin
  replace hfin := hid hfin
  clear q1 q2
  go_wp2
  go_end0
  exact ⟨rfl, _, _, hfin.out, hK.out⟩
set_option maxRecDepth 100000 in
set_option maxHeartbeats 3200000 in
theorem imploper_6 (full : Bool) (o : Int) (a b : ByteArray) (u : Tree) (hkid : KidC full (Tree.mk 6 o a b [u])) : OperC full (Tree.mk 6 o a b [u]) := by
  intro p ka kn kc w g B S L M tv sv hp hpre hl hm
  obtain rfl : kn = 1 := hpre.kn
  rw [post1] at hl hm
  have hLen : Hid ((kidTk full 6 o 1 p 0 u).length + 1 ≤ 8 * u.post.length ∧ L.length + (8 * u.post.length) + 8 ≤ 1000002 ∧ 1 ≤ u.post.length) := hid ⟨kidTk_len full 6 o 1 p 0 u, by omega, u.posts_pos⟩
  have hLen2 : Hid (M.length + (u.post.length) + 1 ≤ 1000000) := hid (by omega)
  show Calls Tryz.prog 123 #[.pointer (some ⟨g, 0, none⟩), .agg #[.int .i64 6, .int .i64 o, .string a, .string b, .slice ka 1 kc], .agg #[.int .i64 p.level, .bool p.dollar, .bool p.noIn, .bool p.noGt, .bool p.noSign]] w fun e w' => SpPost w g B full (L ++ Tree.tkb full (Tree.mk 6 o a b [u]) p) (M ++ (Tree.kidSps full (Tree.mk 6 o a b [u]) p L.length).flatten) e w'
  clear hl hm
  have hgB := hpre.hgB
  have hBw := hpre.hB
  have hP := hid (hpre.below (((Below.refl w.heap.size w).alloc (Nat.le_refl _) (.cells #[.int .i64 6, .int .i64 o, .string a, .string b, .slice ka 1 kc] 99)).alloc (by simp) (.cells #[.int .i64 p.level, .bool p.dollar, .bool p.noIn, .bool p.noGt, .bool p.noSign] 36)))
  have hbt := hid (alloc2_at0 w (.cells #[.int .i64 6, .int .i64 o, .string a, .string b, .slice ka 1 kc] 99) (.cells #[.int .i64 p.level, .bool p.dollar, .bool p.noIn, .bool p.noGt, .bool p.noSign] 36))
  have hbp := hid (alloc2_at1 w (.cells #[.int .i64 6, .int .i64 o, .string a, .string b, .slice ka 1 kc] 99) (.cells #[.int .i64 p.level, .bool p.dollar, .bool p.noIn, .bool p.noGt, .bool p.noSign] 36))
  have hK : Hid (Sk g B w ((w.alloc (.cells #[.int .i64 6, .int .i64 o, .string a, .string b, .slice ka 1 kc] 99)).alloc (.cells #[.int .i64 p.level, .bool p.dollar, .bool p.noIn, .bool p.noGt, .bool p.noSign] 36))) := hid (Sk.of_below (((Below.refl w.heap.size w).alloc (Nat.le_refl _) (.cells #[.int .i64 6, .int .i64 o, .string a, .string b, .slice ka 1 kc] 99)).alloc (by simp) (.cells #[.int .i64 p.level, .bool p.dollar, .bool p.noIn, .bool p.noGt, .bool p.noSign] 36)))
  have hws : Hid (((w.alloc (.cells #[.int .i64 6, .int .i64 o, .string a, .string b, .slice ka 1 kc] 99)).alloc (.cells #[.int .i64 p.level, .bool p.dollar, .bool p.noIn, .bool p.noGt, .bool p.noSign] 36)).heap.size = w.heap.size + 1 + 1) := hid (by simp)
  clear hpre
  go_enter Tryz.func123, Tryz.ntmps123
  go_wp2_with fail
  generalize (w.alloc (.cells #[.int .i64 6, .int .i64 o, .string a, .string b, .slice ka 1 kc] 99)).alloc (.cells #[.int .i64 p.level, .bool p.dollar, .bool p.noIn, .bool p.noGt, .bool p.noSign] 36) = w1 at hP hbt hbp hK hws ⊢
  obtain ⟨c0, c1, c2, c3, c4⟩ := box_cells hbt.out
  obtain ⟨d0, d1, d2, d3, d4⟩ := box_cells hbp.out
  refine (implsign_any 68 w1 hP.out.low.env).mono ?_; rintro e w2 ⟨rfl, hbs⟩
  clear c0 c1 c2 c3 c4 d0 d1 d2 d3 d4
  have hP := hid (hP.out.below hbs)
  have hbt := hid (box_below hbt.out hbs)
  have hbp := hid (box_below hbp.out hbs)
  have hK := hid (hK.out.below hbs)
  clear hbs
  obtain ⟨c0, c1, c2, c3, c4⟩ := box_cells hbt.out
  obtain ⟨d0, d1, d2, d3, d4⟩ := box_cells hbp.out
  go_wp2_with fail
  refine (implput1 g B full L M _ _ w2 68 (spellB 68) hP.out.st hgB hP.out.hB (by have h1 := hLen.out; (try simp only [List.length_append, List.length_cons, List.length_nil] at h1); (try simp only [List.length_append, List.length_cons, List.length_nil]); omega)).mono ?_; rintro e w3 ⟨rfl, tv3, hst, hsk⟩
  clear c0 c1 c2 c3 c4 d0 d1 d2 d3 d4
  have hP := hid (hP.out.next hsk hst)
  have hbt := hid (hsk.box hbt.out (by decide) (by decide) (by omega))
  have hbp := hid (hsk.box hbp.out (by decide) (by decide) (by omega))
  have hK := hid (hK.out.trans hsk)
  clear hst hsk
  obtain ⟨c0, c1, c2, c3, c4⟩ := box_cells hbt.out
  obtain ⟨d0, d1, d2, d3, d4⟩ := box_cells hbp.out
  go_wp2_with fail
  refine (hkid p ka _ kc w3 g B S (L ++ [(⟨68, (spellB 68), 0⟩ : Token)]) M _ _ 0 0 u hp hP.out rfl rfl (by have h1 := hLen.out; (try simp only [List.length_append, List.length_cons, List.length_nil] at h1); (try simp only [List.length_append, List.length_cons, List.length_nil]); omega) (by have h1 := hLen2.out; (try simp only [List.length_append, List.length_cons, List.length_nil, kidSp_len] at h1); (try simp only [List.length_append, List.length_cons, List.length_nil, kidSp_len]); omega)).mono ?_; rintro e w4 ⟨rfl, tv4, sv4, hst, hsk⟩
  replace hst : SpSt w4 g B full ((L ++ [(⟨68, (spellB 68), 0⟩ : Token)]) ++ kidTk full 6 o 1 p 0 u) (M ++ kidSp full 6 o 1 p 0 u (L ++ [(⟨68, (spellB 68), 0⟩ : Token)]).length) tv4 sv4 := hst
  clear c0 c1 c2 c3 c4 d0 d1 d2 d3 d4
  have hP := hid (hP.out.next hsk hst)
  have hbt := hid (hsk.box hbt.out (by decide) (by decide) (by omega))
  have hbp := hid (hsk.box hbp.out (by decide) (by decide) (by omega))
  have hK := hid (hK.out.trans hsk)
  clear hst hsk
  obtain ⟨c0, c1, c2, c3, c4⟩ := box_cells hbt.out
  obtain ⟨d0, d1, d2, d3, d4⟩ := box_cells hbp.out
  have q1 : ((L ++ [(⟨68, (spellB 68), 0⟩ : Token)]) ++ kidTk full 6 o 1 p 0 u) = L ++ Tree.tkb full (Tree.mk 6 o a b [u]) p := (by rw [Tree.tkb_eq, kidTks1]; show _ = L ++ nodeToks 6 o a _; simp [nodeToks, sgn])
  have q2 : (M ++ kidSp full 6 o 1 p 0 u (L ++ [(⟨68, (spellB 68), 0⟩ : Token)]).length) = M ++ (Tree.kidSps full (Tree.mk 6 o a b [u]) p L.length).flatten := (by rw [kidSps1]; simp [headLen, sepLen, Nat.add_assoc, Nat.add_comm, Nat.add_left_comm])
  have hfin := hP.out.st
  rw [q1, q2] at hfin
  replace hfin := hid hfin
  clear q1 q2
  go_wp2
  go_end0
  exact ⟨rfl, _, _, hfin.out, hK.out⟩
set_option maxRecDepth 100000 in
set_option maxHeartbeats 3200000 in
theorem imploper_10 (full : Bool) (o : Int) (a b : ByteArray) (u : Tree) (hkid : KidC full (Tree.mk 10 o a b [u])) : OperC full (Tree.mk 10 o a b [u]) := by
  intro p ka kn kc w g B S L M tv sv hp hpre hl hm
  obtain rfl : kn = 1 := hpre.kn
  rw [post1] at hl hm
  have hLen : Hid ((kidTk full 10 o 1 p 0 u).length + 1 ≤ 8 * u.post.length ∧ L.length + (8 * u.post.length) + 8 ≤ 1000002 ∧ 1 ≤ u.post.length) := hid ⟨kidTk_len full 10 o 1 p 0 u, by omega, u.posts_pos⟩
  have hLen2 : Hid (M.length + (u.post.length) + 1 ≤ 1000000) := hid (by omega)
  show Calls Tryz.prog 123 #[.pointer (some ⟨g, 0, none⟩), .agg #[.int .i64 10, .int .i64 o, .string a, .string b, .slice ka 1 kc], .agg #[.int .i64 p.level, .bool p.dollar, .bool p.noIn, .bool p.noGt, .bool p.noSign]] w fun e w' => SpPost w g B full (L ++ Tree.tkb full (Tree.mk 10 o a b [u]) p) (M ++ (Tree.kidSps full (Tree.mk 10 o a b [u]) p L.length).flatten) e w'
  clear hl hm
  have hgB := hpre.hgB
  have hBw := hpre.hB
  have hP := hid (hpre.below (((Below.refl w.heap.size w).alloc (Nat.le_refl _) (.cells #[.int .i64 10, .int .i64 o, .string a, .string b, .slice ka 1 kc] 99)).alloc (by simp) (.cells #[.int .i64 p.level, .bool p.dollar, .bool p.noIn, .bool p.noGt, .bool p.noSign] 36)))
  have hbt := hid (alloc2_at0 w (.cells #[.int .i64 10, .int .i64 o, .string a, .string b, .slice ka 1 kc] 99) (.cells #[.int .i64 p.level, .bool p.dollar, .bool p.noIn, .bool p.noGt, .bool p.noSign] 36))
  have hbp := hid (alloc2_at1 w (.cells #[.int .i64 10, .int .i64 o, .string a, .string b, .slice ka 1 kc] 99) (.cells #[.int .i64 p.level, .bool p.dollar, .bool p.noIn, .bool p.noGt, .bool p.noSign] 36))
  have hK : Hid (Sk g B w ((w.alloc (.cells #[.int .i64 10, .int .i64 o, .string a, .string b, .slice ka 1 kc] 99)).alloc (.cells #[.int .i64 p.level, .bool p.dollar, .bool p.noIn, .bool p.noGt, .bool p.noSign] 36))) := hid (Sk.of_below (((Below.refl w.heap.size w).alloc (Nat.le_refl _) (.cells #[.int .i64 10, .int .i64 o, .string a, .string b, .slice ka 1 kc] 99)).alloc (by simp) (.cells #[.int .i64 p.level, .bool p.dollar, .bool p.noIn, .bool p.noGt, .bool p.noSign] 36)))
  have hws : Hid (((w.alloc (.cells #[.int .i64 10, .int .i64 o, .string a, .string b, .slice ka 1 kc] 99)).alloc (.cells #[.int .i64 p.level, .bool p.dollar, .bool p.noIn, .bool p.noGt, .bool p.noSign] 36)).heap.size = w.heap.size + 1 + 1) := hid (by simp)
  clear hpre
  go_enter Tryz.func123, Tryz.ntmps123
  go_wp2_with fail
  generalize (w.alloc (.cells #[.int .i64 10, .int .i64 o, .string a, .string b, .slice ka 1 kc] 99)).alloc (.cells #[.int .i64 p.level, .bool p.dollar, .bool p.noIn, .bool p.noGt, .bool p.noSign] 36) = w1 at hP hbt hbp hK hws ⊢
  obtain ⟨c0, c1, c2, c3, c4⟩ := box_cells hbt.out
  obtain ⟨d0, d1, d2, d3, d4⟩ := box_cells hbp.out
  refine (hkid p ka _ kc w1 g B S L M _ _ 0 0 u hp hP.out rfl rfl (by have h1 := hLen.out; (try simp only [List.length_append, List.length_cons, List.length_nil] at h1); (try simp only [List.length_append, List.length_cons, List.length_nil]); omega) (by have h1 := hLen2.out; (try simp only [List.length_append, List.length_cons, List.length_nil, kidSp_len] at h1); (try simp only [List.length_append, List.length_cons, List.length_nil, kidSp_len]); omega)).mono ?_; rintro e w2 ⟨rfl, tv2, sv2, hst, hsk⟩
  replace hst : SpSt w2 g B full (L ++ kidTk full 10 o 1 p 0 u) (M ++ kidSp full 10 o 1 p 0 u L.length) tv2 sv2 := hst
  clear c0 c1 c2 c3 c4 d0 d1 d2 d3 d4
  have hP := hid (hP.out.next hsk hst)
  have hbt := hid (hsk.box hbt.out (by decide) (by decide) (by omega))
  have hbp := hid (hsk.box hbp.out (by decide) (by decide) (by omega))
  have hK := hid (hK.out.trans hsk)
  clear hst hsk
  obtain ⟨c0, c1, c2, c3, c4⟩ := box_cells hbt.out
  obtain ⟨d0, d1, d2, d3, d4⟩ := box_cells hbp.out
  go_wp2_with fail
  refine (implsign_any o w2 hP.out.low.env).mono ?_; rintro e w3 ⟨rfl, hbs⟩
  clear c0 c1 c2 c3 c4 d0 d1 d2 d3 d4
  have hP := hid (hP.out.below hbs)
  have hbt := hid (box_below hbt.out hbs)
  have hbp := hid (box_below hbp.out hbs)
  have hK := hid (hK.out.below hbs)
  clear hbs
  obtain ⟨c0, c1, c2, c3, c4⟩ := box_cells hbt.out
  obtain ⟨d0, d1, d2, d3, d4⟩ := box_cells hbp.out
  go_wp2_with fail
  refine (implput1 g B full (L ++ kidTk full 10 o 1 p 0 u) (M ++ kidSp full 10 o 1 p 0 u L.length) _ _ w3 o (spellB o) hP.out.st hgB hP.out.hB (by have h1 := hLen.out; (try simp only [List.length_append, List.length_cons, List.length_nil] at h1); (try simp only [List.length_append, List.length_cons, List.length_nil]); omega)).mono ?_; rintro e w4 ⟨rfl, tv4, hst, hsk⟩
  clear c0 c1 c2 c3 c4 d0 d1 d2 d3 d4
  have hP := hid (hP.out.next hsk hst)
  have hbt := hid (hsk.box hbt.out (by decide) (by decide) (by omega))
  have hbp := hid (hsk.box hbp.out (by decide) (by decide) (by omega))
  have hK := hid (hK.out.trans hsk)
  clear hst hsk
  obtain ⟨c0, c1, c2, c3, c4⟩ := box_cells hbt.out
  obtain ⟨d0, d1, d2, d3, d4⟩ := box_cells hbp.out
  have q1 : ((L ++ kidTk full 10 o 1 p 0 u) ++ [(⟨o, (spellB o), 0⟩ : Token)]) = L ++ Tree.tkb full (Tree.mk 10 o a b [u]) p := (by rw [Tree.tkb_eq, kidTks1]; show _ = L ++ nodeToks 10 o a _; simp [nodeToks, sgn])
  have q2 : (M ++ kidSp full 10 o 1 p 0 u L.length) = M ++ (Tree.kidSps full (Tree.mk 10 o a b [u]) p L.length).flatten := (by rw [kidSps1]; simp [headLen, sepLen, Nat.add_assoc, Nat.add_comm, Nat.add_left_comm])
  have hfin := hP.out.st
  rw [q1, q2] at hfin
  replace hfin := hid hfin
  clear q1 q2
  go_wp2
  go_end0
  exact ⟨rfl, _, _, hfin.out, hK.out⟩
set_option maxRecDepth 100000 in
set_option maxHeartbeats 3200000 in
theorem imploper_14 (full : Bool) (o : Int) (a b : ByteArray) (u v x : Tree) (hkid : KidC full (Tree.mk 14 o a b [u, v, x])) : OperC full (Tree.mk 14 o a b [u, v, x]) := by
  intro p ka kn kc w g B S L M tv sv hp hpre hl hm
  obtain rfl : kn = 3 := hpre.kn
  rw [post3] at hl hm
  have hLen : Hid ((kidTk full 14 o 3 p 0 u).length + 1 ≤ 8 * u.post.length ∧ (kidTk full 14 o 3 p 1 v).length + 1 ≤ 8 * v.post.length ∧ (kidTk full 14 o 3 p 2 x).length + 1 ≤ 8 * x.post.length ∧ L.length + (8 * u.post.length + 8 * v.post.length + 8 * x.post.length) + 8 ≤ 1000002 ∧ 1 ≤ u.post.length ∧ 1 ≤ v.post.length ∧ 1 ≤ x.post.length) := hid ⟨kidTk_len full 14 o 3 p 0 u, kidTk_len full 14 o 3 p 1 v, kidTk_len full 14 o 3 p 2 x, by omega, u.posts_pos, v.posts_pos, x.posts_pos⟩
  have hLen2 : Hid (M.length + (u.post.length + v.post.length + x.post.length) + 1 ≤ 1000000) := hid (by omega)
  show Calls Tryz.prog 123 #[.pointer (some ⟨g, 0, none⟩), .agg #[.int .i64 14, .int .i64 o, .string a, .string b, .slice ka 3 kc], .agg #[.int .i64 p.level, .bool p.dollar, .bool p.noIn, .bool p.noGt, .bool p.noSign]] w fun e w' => SpPost w g B full (L ++ Tree.tkb full (Tree.mk 14 o a b [u, v, x]) p) (M ++ (Tree.kidSps full (Tree.mk 14 o a b [u, v, x]) p L.length).flatten) e w'
  clear hl hm
  have hgB := hpre.hgB
  have hBw := hpre.hB
  have hP := hid (hpre.below (((Below.refl w.heap.size w).alloc (Nat.le_refl _) (.cells #[.int .i64 14, .int .i64 o, .string a, .string b, .slice ka 3 kc] 99)).alloc (by simp) (.cells #[.int .i64 p.level, .bool p.dollar, .bool p.noIn, .bool p.noGt, .bool p.noSign] 36)))
  have hbt := hid (alloc2_at0 w (.cells #[.int .i64 14, .int .i64 o, .string a, .string b, .slice ka 3 kc] 99) (.cells #[.int .i64 p.level, .bool p.dollar, .bool p.noIn, .bool p.noGt, .bool p.noSign] 36))
  have hbp := hid (alloc2_at1 w (.cells #[.int .i64 14, .int .i64 o, .string a, .string b, .slice ka 3 kc] 99) (.cells #[.int .i64 p.level, .bool p.dollar, .bool p.noIn, .bool p.noGt, .bool p.noSign] 36))
  have hK : Hid (Sk g B w ((w.alloc (.cells #[.int .i64 14, .int .i64 o, .string a, .string b, .slice ka 3 kc] 99)).alloc (.cells #[.int .i64 p.level, .bool p.dollar, .bool p.noIn, .bool p.noGt, .bool p.noSign] 36))) := hid (Sk.of_below (((Below.refl w.heap.size w).alloc (Nat.le_refl _) (.cells #[.int .i64 14, .int .i64 o, .string a, .string b, .slice ka 3 kc] 99)).alloc (by simp) (.cells #[.int .i64 p.level, .bool p.dollar, .bool p.noIn, .bool p.noGt, .bool p.noSign] 36)))
  have hws : Hid (((w.alloc (.cells #[.int .i64 14, .int .i64 o, .string a, .string b, .slice ka 3 kc] 99)).alloc (.cells #[.int .i64 p.level, .bool p.dollar, .bool p.noIn, .bool p.noGt, .bool p.noSign] 36)).heap.size = w.heap.size + 1 + 1) := hid (by simp)
  clear hpre
  go_enter Tryz.func123, Tryz.ntmps123
  go_wp2_with fail
  generalize (w.alloc (.cells #[.int .i64 14, .int .i64 o, .string a, .string b, .slice ka 3 kc] 99)).alloc (.cells #[.int .i64 p.level, .bool p.dollar, .bool p.noIn, .bool p.noGt, .bool p.noSign] 36) = w1 at hP hbt hbp hK hws ⊢
  obtain ⟨c0, c1, c2, c3, c4⟩ := box_cells hbt.out
  obtain ⟨d0, d1, d2, d3, d4⟩ := box_cells hbp.out
  refine (hkid p ka _ kc w1 g B S L M _ _ 0 0 u hp hP.out rfl rfl (by have h1 := hLen.out; (try simp only [List.length_append, List.length_cons, List.length_nil] at h1); (try simp only [List.length_append, List.length_cons, List.length_nil]); omega) (by have h1 := hLen2.out; (try simp only [List.length_append, List.length_cons, List.length_nil, kidSp_len] at h1); (try simp only [List.length_append, List.length_cons, List.length_nil, kidSp_len]); omega)).mono ?_; rintro e w2 ⟨rfl, tv2, sv2, hst, hsk⟩
  replace hst : SpSt w2 g B full (L ++ kidTk full 14 o 3 p 0 u) (M ++ kidSp full 14 o 3 p 0 u L.length) tv2 sv2 := hst
  clear c0 c1 c2 c3 c4 d0 d1 d2 d3 d4
  have hP := hid (hP.out.next hsk hst)
  have hbt := hid (hsk.box hbt.out (by decide) (by decide) (by omega))
  have hbp := hid (hsk.box hbp.out (by decide) (by decide) (by omega))
  have hK := hid (hK.out.trans hsk)
  clear hst hsk
  obtain ⟨c0, c1, c2, c3, c4⟩ := box_cells hbt.out
  obtain ⟨d0, d1, d2, d3, d4⟩ := box_cells hbp.out
  go_wp2_with fail
  refine (implsign_any 65 w2 hP.out.low.env).mono ?_; rintro e w3 ⟨rfl, hbs⟩
  clear c0 c1 c2 c3 c4 d0 d1 d2 d3 d4
  have hP := hid (hP.out.below hbs)
  have hbt := hid (box_below hbt.out hbs)
  have hbp := hid (box_below hbp.out hbs)
  have hK := hid (hK.out.below hbs)
  clear hbs
  obtain ⟨c0, c1, c2, c3, c4⟩ := box_cells hbt.out
  obtain ⟨d0, d1, d2, d3, d4⟩ := box_cells hbp.out
  go_wp2_with fail
  refine (implput1 g B full (L ++ kidTk full 14 o 3 p 0 u) (M ++ kidSp full 14 o 3 p 0 u L.length) _ _ w3 65 (spellB 65) hP.out.st hgB hP.out.hB (by have h1 := hLen.out; (try simp only [List.length_append, List.length_cons, List.length_nil] at h1); (try simp only [List.length_append, List.length_cons, List.length_nil]); omega)).mono ?_; rintro e w4 ⟨rfl, tv4, hst, hsk⟩
  clear c0 c1 c2 c3 c4 d0 d1 d2 d3 d4
  have hP := hid (hP.out.next hsk hst)
  have hbt := hid (hsk.box hbt.out (by decide) (by decide) (by omega))
  have hbp := hid (hsk.box hbp.out (by decide) (by decide) (by omega))
  have hK := hid (hK.out.trans hsk)
  clear hst hsk
  obtain ⟨c0, c1, c2, c3, c4⟩ := box_cells hbt.out
  obtain ⟨d0, d1, d2, d3, d4⟩ := box_cells hbp.out
  go_wp2_with fail
  refine (hkid p ka _ kc w4 g B S ((L ++ kidTk full 14 o 3 p 0 u) ++ [(⟨65, (spellB 65), 0⟩ : Token)]) (M ++ kidSp full 14 o 3 p 0 u L.length) _ _ 1 1 v hp hP.out rfl rfl (by have h1 := hLen.out; (try simp only [List.length_append, List.length_cons, List.length_nil] at h1); (try simp only [List.length_append, List.length_cons, List.length_nil]); omega) (by have h1 := hLen2.out; (try simp only [List.length_append, List.length_cons, List.length_nil, kidSp_len] at h1); (try simp only [List.length_append, List.length_cons, List.length_nil, kidSp_len]); omega)).mono ?_; rintro e w5 ⟨rfl, tv5, sv5, hst, hsk⟩
  replace hst : SpSt w5 g B full (((L ++ kidTk full 14 o 3 p 0 u) ++ [(⟨65, (spellB 65), 0⟩ : Token)]) ++ kidTk full 14 o 3 p 1 v) ((M ++ kidSp full 14 o 3 p 0 u L.length) ++ kidSp full 14 o 3 p 1 v ((L ++ kidTk full 14 o 3 p 0 u) ++ [(⟨65, (spellB 65), 0⟩ : Token)]).length) tv5 sv5 := hst
  clear c0 c1 c2 c3 c4 d0 d1 d2 d3 d4
  have hP := hid (hP.out.next hsk hst)
  have hbt := hid (hsk.box hbt.out (by decide) (by decide) (by omega))
  have hbp := hid (hsk.box hbp.out (by decide) (by decide) (by omega))
  have hK := hid (hK.out.trans hsk)
  clear hst hsk
  obtain ⟨c0, c1, c2, c3, c4⟩ := box_cells hbt.out
  obtain ⟨d0, d1, d2, d3, d4⟩ := box_cells hbp.out
  go_wp2_with fail
  refine (implsign_any 66 w5 hP.out.low.env).mono ?_; rintro e w6 ⟨rfl, hbs⟩
  clear c0 c1 c2 c3 c4 d0 d1 d2 d3 d4
  have hP := hid (hP.out.below hbs)
  have hbt := hid (box_below hbt.out hbs)
  have hbp := hid (box_below hbp.out hbs)
  have hK := hid (hK.out.below hbs)
  clear hbs
  obtain ⟨c0, c1, c2, c3, c4⟩ := box_cells hbt.out
  obtain ⟨d0, d1, d2, d3, d4⟩ := box_cells hbp.out
  go_wp2_with fail
  refine (implput1 g B full (((L ++ kidTk full 14 o 3 p 0 u) ++ [(⟨65, (spellB 65), 0⟩ : Token)]) ++ kidTk full 14 o 3 p 1 v) ((M ++ kidSp full 14 o 3 p 0 u L.length) ++ kidSp full 14 o 3 p 1 v ((L ++ kidTk full 14 o 3 p 0 u) ++ [(⟨65, (spellB 65), 0⟩ : Token)]).length) _ _ w6 66 (spellB 66) hP.out.st hgB hP.out.hB (by have h1 := hLen.out; (try simp only [List.length_append, List.length_cons, List.length_nil] at h1); (try simp only [List.length_append, List.length_cons, List.length_nil]); omega)).mono ?_; rintro e w7 ⟨rfl, tv7, hst, hsk⟩
  clear c0 c1 c2 c3 c4 d0 d1 d2 d3 d4
  have hP := hid (hP.out.next hsk hst)
  have hbt := hid (hsk.box hbt.out (by decide) (by decide) (by omega))
  have hbp := hid (hsk.box hbp.out (by decide) (by decide) (by omega))
  have hK := hid (hK.out.trans hsk)
  clear hst hsk
  obtain ⟨c0, c1, c2, c3, c4⟩ := box_cells hbt.out
  obtain ⟨d0, d1, d2, d3, d4⟩ := box_cells hbp.out
  go_wp2_with fail
  refine (hkid p ka _ kc w7 g B S ((((L ++ kidTk full 14 o 3 p 0 u) ++ [(⟨65, (spellB 65), 0⟩ : Token)]) ++ kidTk full 14 o 3 p 1 v) ++ [(⟨66, (spellB 66), 0⟩ : Token)]) ((M ++ kidSp full 14 o 3 p 0 u L.length) ++ kidSp full 14 o 3 p 1 v ((L ++ kidTk full 14 o 3 p 0 u) ++ [(⟨65, (spellB 65), 0⟩ : Token)]).length) _ _ 2 2 x hp hP.out rfl rfl (by have h1 := hLen.out; (try simp only [List.length_append, List.length_cons, List.length_nil] at h1); (try simp only [List.length_append, List.length_cons, List.length_nil]); omega) (by have h1 := hLen2.out; (try simp only [List.length_append, List.length_cons, List.length_nil, kidSp_len] at h1); (try simp only [List.length_append, List.length_cons, List.length_nil, kidSp_len]); omega)).mono ?_; rintro e w8 ⟨rfl, tv8, sv8, hst, hsk⟩
  replace hst : SpSt w8 g B full (((((L ++ kidTk full 14 o 3 p 0 u) ++ [(⟨65, (spellB 65), 0⟩ : Token)]) ++ kidTk full 14 o 3 p 1 v) ++ [(⟨66, (spellB 66), 0⟩ : Token)]) ++ kidTk full 14 o 3 p 2 x) (((M ++ kidSp full 14 o 3 p 0 u L.length) ++ kidSp full 14 o 3 p 1 v ((L ++ kidTk full 14 o 3 p 0 u) ++ [(⟨65, (spellB 65), 0⟩ : Token)]).length) ++ kidSp full 14 o 3 p 2 x ((((L ++ kidTk full 14 o 3 p 0 u) ++ [(⟨65, (spellB 65), 0⟩ : Token)]) ++ kidTk full 14 o 3 p 1 v) ++ [(⟨66, (spellB 66), 0⟩ : Token)]).length) tv8 sv8 := hst
  clear c0 c1 c2 c3 c4 d0 d1 d2 d3 d4
  have hP := hid (hP.out.next hsk hst)
  have hbt := hid (hsk.box hbt.out (by decide) (by decide) (by omega))
  have hbp := hid (hsk.box hbp.out (by decide) (by decide) (by omega))
  have hK := hid (hK.out.trans hsk)
  clear hst hsk
  obtain ⟨c0, c1, c2, c3, c4⟩ := box_cells hbt.out
  obtain ⟨d0, d1, d2, d3, d4⟩ := box_cells hbp.out
  have q1 : (((((L ++ kidTk full 14 o 3 p 0 u) ++ [(⟨65, (spellB 65), 0⟩ : Token)]) ++ kidTk full 14 o 3 p 1 v) ++ [(⟨66, (spellB 66), 0⟩ : Token)]) ++ kidTk full 14 o 3 p 2 x) = L ++ Tree.tkb full (Tree.mk 14 o a b [u, v, x]) p := (by rw [Tree.tkb_eq, kidTks3]; show _ = L ++ nodeToks 14 o a _; simp [nodeToks, sgn])
  have q2 : (((M ++ kidSp full 14 o 3 p 0 u L.length) ++ kidSp full 14 o 3 p 1 v ((L ++ kidTk full 14 o 3 p 0 u) ++ [(⟨65, (spellB 65), 0⟩ : Token)]).length) ++ kidSp full 14 o 3 p 2 x ((((L ++ kidTk full 14 o 3 p 0 u) ++ [(⟨65, (spellB 65), 0⟩ : Token)]) ++ kidTk full 14 o 3 p 1 v) ++ [(⟨66, (spellB 66), 0⟩ : Token)]).length) = M ++ (Tree.kidSps full (Tree.mk 14 o a b [u, v, x]) p L.length).flatten := (by rw [kidSps3]; simp [headLen, sepLen, Nat.add_assoc, Nat.add_comm, Nat.add_left_comm])
  have hfin := hP.out.st
  rw [q1, q2] at hfin
  replace hfin := hid hfin
  clear q1 q2
  go_wp2
  go_end0
  exact ⟨rfl, _, _, hfin.out, hK.out⟩
set_option maxRecDepth 100000 in
set_option maxHeartbeats 3200000 in
theorem imploper_12c (full : Bool) (a b : ByteArray) (u v : Tree) (hkid : KidC full (Tree.mk 12 99 a b [u, v])) : OperC full (Tree.mk 12 99 a b [u, v]) := by
  intro p ka kn kc w g B S L M tv sv hp hpre hl hm
  obtain rfl : kn = 2 := hpre.kn
  rw [post2] at hl hm
  have hLen : Hid ((kidTk full 12 99 2 p 0 u).length + 1 ≤ 8 * u.post.length ∧ (kidTk full 12 99 2 p 1 v).length + 1 ≤ 8 * v.post.length ∧ L.length + (8 * u.post.length + 8 * v.post.length) + 8 ≤ 1000002 ∧ 1 ≤ u.post.length ∧ 1 ≤ v.post.length) := hid ⟨kidTk_len full 12 99 2 p 0 u, kidTk_len full 12 99 2 p 1 v, by omega, u.posts_pos, v.posts_pos⟩
  have hLen2 : Hid (M.length + (u.post.length + v.post.length) + 1 ≤ 1000000) := hid (by omega)
  show Calls Tryz.prog 123 #[.pointer (some ⟨g, 0, none⟩), .agg #[.int .i64 12, .int .i64 99, .string a, .string b, .slice ka 2 kc], .agg #[.int .i64 p.level, .bool p.dollar, .bool p.noIn, .bool p.noGt, .bool p.noSign]] w fun e w' => SpPost w g B full (L ++ Tree.tkb full (Tree.mk 12 99 a b [u, v]) p) (M ++ (Tree.kidSps full (Tree.mk 12 99 a b [u, v]) p L.length).flatten) e w'
  clear hl hm
  have hgB := hpre.hgB
  have hBw := hpre.hB
  have hP := hid (hpre.below (((Below.refl w.heap.size w).alloc (Nat.le_refl _) (.cells #[.int .i64 12, .int .i64 99, .string a, .string b, .slice ka 2 kc] 99)).alloc (by simp) (.cells #[.int .i64 p.level, .bool p.dollar, .bool p.noIn, .bool p.noGt, .bool p.noSign] 36)))
  have hbt := hid (alloc2_at0 w (.cells #[.int .i64 12, .int .i64 99, .string a, .string b, .slice ka 2 kc] 99) (.cells #[.int .i64 p.level, .bool p.dollar, .bool p.noIn, .bool p.noGt, .bool p.noSign] 36))
  have hbp := hid (alloc2_at1 w (.cells #[.int .i64 12, .int .i64 99, .string a, .string b, .slice ka 2 kc] 99) (.cells #[.int .i64 p.level, .bool p.dollar, .bool p.noIn, .bool p.noGt, .bool p.noSign] 36))
  have hK : Hid (Sk g B w ((w.alloc (.cells #[.int .i64 12, .int .i64 99, .string a, .string b, .slice ka 2 kc] 99)).alloc (.cells #[.int .i64 p.level, .bool p.dollar, .bool p.noIn, .bool p.noGt, .bool p.noSign] 36))) := hid (Sk.of_below (((Below.refl w.heap.size w).alloc (Nat.le_refl _) (.cells #[.int .i64 12, .int .i64 99, .string a, .string b, .slice ka 2 kc] 99)).alloc (by simp) (.cells #[.int .i64 p.level, .bool p.dollar, .bool p.noIn, .bool p.noGt, .bool p.noSign] 36)))
  have hws : Hid (((w.alloc (.cells #[.int .i64 12, .int .i64 99, .string a, .string b, .slice ka 2 kc] 99)).alloc (.cells #[.int .i64 p.level, .bool p.dollar, .bool p.noIn, .bool p.noGt, .bool p.noSign] 36)).heap.size = w.heap.size + 1 + 1) := hid (by simp)
  clear hpre
  go_enter Tryz.func123, Tryz.ntmps123
  go_wp2_with fail
  generalize (w.alloc (.cells #[.int .i64 12, .int .i64 99, .string a, .string b, .slice ka 2 kc] 99)).alloc (.cells #[.int .i64 p.level, .bool p.dollar, .bool p.noIn, .bool p.noGt, .bool p.noSign] 36) = w1 at hP hbt hbp hK hws ⊢
  obtain ⟨c0, c1, c2, c3, c4⟩ := box_cells hbt.out
  obtain ⟨d0, d1, d2, d3, d4⟩ := box_cells hbp.out
  refine (hkid p ka _ kc w1 g B S L M _ _ 0 0 u hp hP.out rfl rfl (by have h1 := hLen.out; (try simp only [List.length_append, List.length_cons, List.length_nil] at h1); (try simp only [List.length_append, List.length_cons, List.length_nil]); omega) (by have h1 := hLen2.out; (try simp only [List.length_append, List.length_cons, List.length_nil, kidSp_len] at h1); (try simp only [List.length_append, List.length_cons, List.length_nil, kidSp_len]); omega)).mono ?_; rintro e w2 ⟨rfl, tv2, sv2, hst, hsk⟩
  replace hst : SpSt w2 g B full (L ++ kidTk full 12 99 2 p 0 u) (M ++ kidSp full 12 99 2 p 0 u L.length) tv2 sv2 := hst
  clear c0 c1 c2 c3 c4 d0 d1 d2 d3 d4
  have hP := hid (hP.out.next hsk hst)
  have hbt := hid (hsk.box hbt.out (by decide) (by decide) (by omega))
  have hbp := hid (hsk.box hbp.out (by decide) (by decide) (by omega))
  have hK := hid (hK.out.trans hsk)
  clear hst hsk
  obtain ⟨c0, c1, c2, c3, c4⟩ := box_cells hbt.out
  obtain ⟨d0, d1, d2, d3, d4⟩ := box_cells hbp.out
  go_wp2_with fail
  refine (hkid p ka _ kc w2 g B S (L ++ kidTk full 12 99 2 p 0 u) (M ++ kidSp full 12 99 2 p 0 u L.length) _ _ 1 1 v hp hP.out rfl rfl (by have h1 := hLen.out; (try simp only [List.length_append, List.length_cons, List.length_nil] at h1); (try simp only [List.length_append, List.length_cons, List.length_nil]); omega) (by have h1 := hLen2.out; (try simp only [List.length_append, List.length_cons, List.length_nil, kidSp_len] at h1); (try simp only [List.length_append, List.length_cons, List.length_nil, kidSp_len]); omega)).mono ?_; rintro e w3 ⟨rfl, tv3, sv3, hst, hsk⟩
  replace hst : SpSt w3 g B full ((L ++ kidTk full 12 99 2 p 0 u) ++ kidTk full 12 99 2 p 1 v) ((M ++ kidSp full 12 99 2 p 0 u L.length) ++ kidSp full 12 99 2 p 1 v (L ++ kidTk full 12 99 2 p 0 u).length) tv3 sv3 := hst
  clear c0 c1 c2 c3 c4 d0 d1 d2 d3 d4
  have hP := hid (hP.out.next hsk hst)
  have hbt := hid (hsk.box hbt.out (by decide) (by decide) (by omega))
  have hbp := hid (hsk.box hbp.out (by decide) (by decide) (by omega))
  have hK := hid (hK.out.trans hsk)
  clear hst hsk
  obtain ⟨c0, c1, c2, c3, c4⟩ := box_cells hbt.out
  obtain ⟨d0, d1, d2, d3, d4⟩ := box_cells hbp.out
  have q1 : ((L ++ kidTk full 12 99 2 p 0 u) ++ kidTk full 12 99 2 p 1 v) = L ++ Tree.tkb full (Tree.mk 12 99 a b [u, v]) p := (by rw [Tree.tkb_eq, kidTks2]; show _ = L ++ nodeToks 12 99 a _; simp [nodeToks, sgn])
  have q2 : ((M ++ kidSp full 12 99 2 p 0 u L.length) ++ kidSp full 12 99 2 p 1 v (L ++ kidTk full 12 99 2 p 0 u).length) = M ++ (Tree.kidSps full (Tree.mk 12 99 a b [u, v]) p L.length).flatten := (by rw [kidSps2]; simp [headLen, sepLen, Nat.add_assoc, Nat.add_comm, Nat.add_left_comm])
  have hfin := hP.out.st
  rw [q1, q2] at hfin
  replace hfin := hid hfin
  clear q1 q2
  go_wp2
  go_end0
  exact ⟨rfl, _, _, hfin.out, hK.out⟩
set_option maxRecDepth 100000 in
set_option maxHeartbeats 3200000 in
theorem imploper_12 (full : Bool) (o : Int) (a b : ByteArray) (u v : Tree) (ho : ¬ o = 99) (hkid : KidC full (Tree.mk 12 o a b [u, v])) : OperC full (Tree.mk 12 o a b [u, v]) := by
  intro p ka kn kc w g B S L M tv sv hp hpre hl hm
  obtain rfl : kn = 2 := hpre.kn
  rw [post2] at hl hm
  have hLen : Hid ((kidTk full 12 o 2 p 0 u).length + 1 ≤ 8 * u.post.length ∧ (kidTk full 12 o 2 p 1 v).length + 1 ≤ 8 * v.post.length ∧ L.length + (8 * u.post.length + 8 * v.post.length) + 8 ≤ 1000002 ∧ 1 ≤ u.post.length ∧ 1 ≤ v.post.length) := hid ⟨kidTk_len full 12 o 2 p 0 u, kidTk_len full 12 o 2 p 1 v, by omega, u.posts_pos, v.posts_pos⟩
  have hLen2 : Hid (M.length + (u.post.length + v.post.length) + 1 ≤ 1000000) := hid (by omega)
  show Calls Tryz.prog 123 #[.pointer (some ⟨g, 0, none⟩), .agg #[.int .i64 12, .int .i64 o, .string a, .string b, .slice ka 2 kc], .agg #[.int .i64 p.level, .bool p.dollar, .bool p.noIn, .bool p.noGt, .bool p.noSign]] w fun e w' => SpPost w g B full (L ++ Tree.tkb full (Tree.mk 12 o a b [u, v]) p) (M ++ (Tree.kidSps full (Tree.mk 12 o a b [u, v]) p L.length).flatten) e w'
  clear hl hm
  have hgB := hpre.hgB
  have hBw := hpre.hB
  have hP := hid (hpre.below (((Below.refl w.heap.size w).alloc (Nat.le_refl _) (.cells #[.int .i64 12, .int .i64 o, .string a, .string b, .slice ka 2 kc] 99)).alloc (by simp) (.cells #[.int .i64 p.level, .bool p.dollar, .bool p.noIn, .bool p.noGt, .bool p.noSign] 36)))
  have hbt := hid (alloc2_at0 w (.cells #[.int .i64 12, .int .i64 o, .string a, .string b, .slice ka 2 kc] 99) (.cells #[.int .i64 p.level, .bool p.dollar, .bool p.noIn, .bool p.noGt, .bool p.noSign] 36))
  have hbp := hid (alloc2_at1 w (.cells #[.int .i64 12, .int .i64 o, .string a, .string b, .slice ka 2 kc] 99) (.cells #[.int .i64 p.level, .bool p.dollar, .bool p.noIn, .bool p.noGt, .bool p.noSign] 36))
  have hK : Hid (Sk g B w ((w.alloc (.cells #[.int .i64 12, .int .i64 o, .string a, .string b, .slice ka 2 kc] 99)).alloc (.cells #[.int .i64 p.level, .bool p.dollar, .bool p.noIn, .bool p.noGt, .bool p.noSign] 36))) := hid (Sk.of_below (((Below.refl w.heap.size w).alloc (Nat.le_refl _) (.cells #[.int .i64 12, .int .i64 o, .string a, .string b, .slice ka 2 kc] 99)).alloc (by simp) (.cells #[.int .i64 p.level, .bool p.dollar, .bool p.noIn, .bool p.noGt, .bool p.noSign] 36)))
  have hws : Hid (((w.alloc (.cells #[.int .i64 12, .int .i64 o, .string a, .string b, .slice ka 2 kc] 99)).alloc (.cells #[.int .i64 p.level, .bool p.dollar, .bool p.noIn, .bool p.noGt, .bool p.noSign] 36)).heap.size = w.heap.size + 1 + 1) := hid (by simp)
  clear hpre
  go_enter Tryz.func123, Tryz.ntmps123
  go_wp2_with fail
  generalize (w.alloc (.cells #[.int .i64 12, .int .i64 o, .string a, .string b, .slice ka 2 kc] 99)).alloc (.cells #[.int .i64 p.level, .bool p.dollar, .bool p.noIn, .bool p.noGt, .bool p.noSign] 36) = w1 at hP hbt hbp hK hws ⊢
  obtain ⟨c0, c1, c2, c3, c4⟩ := box_cells hbt.out
  obtain ⟨d0, d1, d2, d3, d4⟩ := box_cells hbp.out
  refine (hkid p ka _ kc w1 g B S L M _ _ 0 0 u hp hP.out rfl rfl (by have h1 := hLen.out; (try simp only [List.length_append, List.length_cons, List.length_nil] at h1); (try simp only [List.length_append, List.length_cons, List.length_nil]); omega) (by have h1 := hLen2.out; (try simp only [List.length_append, List.length_cons, List.length_nil, kidSp_len] at h1); (try simp only [List.length_append, List.length_cons, List.length_nil, kidSp_len]); omega)).mono ?_; rintro e w2 ⟨rfl, tv2, sv2, hst, hsk⟩
  replace hst : SpSt w2 g B full (L ++ kidTk full 12 o 2 p 0 u) (M ++ kidSp full 12 o 2 p 0 u L.length) tv2 sv2 := hst
  clear c0 c1 c2 c3 c4 d0 d1 d2 d3 d4
  have hP := hid (hP.out.next hsk hst)
  have hbt := hid (hsk.box hbt.out (by decide) (by decide) (by omega))
  have hbp := hid (hsk.box hbp.out (by decide) (by decide) (by omega))
  have hK := hid (hK.out.trans hsk)
  clear hst hsk
  obtain ⟨c0, c1, c2, c3, c4⟩ := box_cells hbt.out
  obtain ⟨d0, d1, d2, d3, d4⟩ := box_cells hbp.out
  go_wp2_with fail
  refine (implsign_any o w2 hP.out.low.env).mono ?_; rintro e w3 ⟨rfl, hbs⟩
  clear c0 c1 c2 c3 c4 d0 d1 d2 d3 d4
  have hP := hid (hP.out.below hbs)
  have hbt := hid (box_below hbt.out hbs)
  have hbp := hid (box_below hbp.out hbs)
  have hK := hid (hK.out.below hbs)
  clear hbs
  obtain ⟨c0, c1, c2, c3, c4⟩ := box_cells hbt.out
  obtain ⟨d0, d1, d2, d3, d4⟩ := box_cells hbp.out
  go_wp2_with fail
  refine (implput1 g B full (L ++ kidTk full 12 o 2 p 0 u) (M ++ kidSp full 12 o 2 p 0 u L.length) _ _ w3 o (spellB o) hP.out.st hgB hP.out.hB (by have h1 := hLen.out; (try simp only [List.length_append, List.length_cons, List.length_nil] at h1); (try simp only [List.length_append, List.length_cons, List.length_nil]); omega)).mono ?_; rintro e w4 ⟨rfl, tv4, hst, hsk⟩
  clear c0 c1 c2 c3 c4 d0 d1 d2 d3 d4
  have hP := hid (hP.out.next hsk hst)
  have hbt := hid (hsk.box hbt.out (by decide) (by decide) (by omega))
  have hbp := hid (hsk.box hbp.out (by decide) (by decide) (by omega))
  have hK := hid (hK.out.trans hsk)
  clear hst hsk
  obtain ⟨c0, c1, c2, c3, c4⟩ := box_cells hbt.out
  obtain ⟨d0, d1, d2, d3, d4⟩ := box_cells hbp.out
  go_wp2_with fail
  refine (hkid p ka _ kc w4 g B S ((L ++ kidTk full 12 o 2 p 0 u) ++ [(⟨o, (spellB o), 0⟩ : Token)]) (M ++ kidSp full 12 o 2 p 0 u L.length) _ _ 1 1 v hp hP.out rfl rfl (by have h1 := hLen.out; (try simp only [List.length_append, List.length_cons, List.length_nil] at h1); (try simp only [List.length_append, List.length_cons, List.length_nil]); omega) (by have h1 := hLen2.out; (try simp only [List.length_append, List.length_cons, List.length_nil, kidSp_len] at h1); (try simp only [List.length_append, List.length_cons, List.length_nil, kidSp_len]); omega)).mono ?_; rintro e w5 ⟨rfl, tv5, sv5, hst, hsk⟩
  replace hst : SpSt w5 g B full (((L ++ kidTk full 12 o 2 p 0 u) ++ [(⟨o, (spellB o), 0⟩ : Token)]) ++ kidTk full 12 o 2 p 1 v) ((M ++ kidSp full 12 o 2 p 0 u L.length) ++ kidSp full 12 o 2 p 1 v ((L ++ kidTk full 12 o 2 p 0 u) ++ [(⟨o, (spellB o), 0⟩ : Token)]).length) tv5 sv5 := hst
  clear c0 c1 c2 c3 c4 d0 d1 d2 d3 d4
  have hP := hid (hP.out.next hsk hst)
  have hbt := hid (hsk.box hbt.out (by decide) (by decide) (by omega))
  have hbp := hid (hsk.box hbp.out (by decide) (by decide) (by omega))
  have hK := hid (hK.out.trans hsk)
  clear hst hsk
  obtain ⟨c0, c1, c2, c3, c4⟩ := box_cells hbt.out
  obtain ⟨d0, d1, d2, d3, d4⟩ := box_cells hbp.out
  have q1 : (((L ++ kidTk full 12 o 2 p 0 u) ++ [(⟨o, (spellB o), 0⟩ : Token)]) ++ kidTk full 12 o 2 p 1 v) = L ++ Tree.tkb full (Tree.mk 12 o a b [u, v]) p := (by rw [Tree.tkb_eq, kidTks2]; show _ = L ++ nodeToks 12 o a _; simp [nodeToks, sgn, ho])
  have q2 : ((M ++ kidSp full 12 o 2 p 0 u L.length) ++ kidSp full 12 o 2 p 1 v ((L ++ kidTk full 12 o 2 p 0 u) ++ [(⟨o, (spellB o), 0⟩ : Token)]).length) = M ++ (Tree.kidSps full (Tree.mk 12 o a b [u, v]) p L.length).flatten := (by rw [kidSps2]; simp [headLen, sepLen, Nat.add_assoc, Nat.add_comm, Nat.add_left_comm, ho])
  have hfin := hP.out.st
  rw [q1, q2] at hfin
  replace hfin := hid hfin
  clear q1 q2
  go_wp2
  go_end0
  exact ⟨rfl, _, _, hfin.out, hK.out⟩
set_option maxRecDepth 100000 in
set_option maxHeartbeats 3200000 in
theorem imploper_15 (full : Bool) (o : Int) (a b : ByteArray) (u v : Tree) (ho : ¬ o = 99) (hkid : KidC full (Tree.mk 15 o a b [u, v])) : OperC full (Tree.mk 15 o a b [u, v]) := by
  intro p ka kn kc w g B S L M tv sv hp hpre hl hm
  obtain rfl : kn = 2 := hpre.kn
  rw [post2] at hl hm
  have hLen : Hid ((kidTk full 15 o 2 p 0 u).length + 1 ≤ 8 * u.post.length ∧ (kidTk full 15 o 2 p 1 v).length + 1 ≤ 8 * v.post.length ∧ L.length + (8 * u.post.length + 8 * v.post.length) + 8 ≤ 1000002 ∧ 1 ≤ u.post.length ∧ 1 ≤ v.post.length) := hid ⟨kidTk_len full 15 o 2 p 0 u, kidTk_len full 15 o 2 p 1 v, by omega, u.posts_pos, v.posts_pos⟩
  have hLen2 : Hid (M.length + (u.post.length + v.post.length) + 1 ≤ 1000000) := hid (by omega)
  show Calls Tryz.prog 123 #[.pointer (some ⟨g, 0, none⟩), .agg #[.int .i64 15, .int .i64 o, .string a, .string b, .slice ka 2 kc], .agg #[.int .i64 p.level, .bool p.dollar, .bool p.noIn, .bool p.noGt, .bool p.noSign]] w fun e w' => SpPost w g B full (L ++ Tree.tkb full (Tree.mk 15 o a b [u, v]) p) (M ++ (Tree.kidSps full (Tree.mk 15 o a b [u, v]) p L.length).flatten) e w'
  clear hl hm
  have hgB := hpre.hgB
  have hBw := hpre.hB
  have hP := hid (hpre.below (((Below.refl w.heap.size w).alloc (Nat.le_refl _) (.cells #[.int .i64 15, .int .i64 o, .string a, .string b, .slice ka 2 kc] 99)).alloc (by simp) (.cells #[.int .i64 p.level, .bool p.dollar, .bool p.noIn, .bool p.noGt, .bool p.noSign] 36)))
  have hbt := hid (alloc2_at0 w (.cells #[.int .i64 15, .int .i64 o, .string a, .string b, .slice ka 2 kc] 99) (.cells #[.int .i64 p.level, .bool p.dollar, .bool p.noIn, .bool p.noGt, .bool p.noSign] 36))
  have hbp := hid (alloc2_at1 w (.cells #[.int .i64 15, .int .i64 o, .string a, .string b, .slice ka 2 kc] 99) (.cells #[.int .i64 p.level, .bool p.dollar, .bool p.noIn, .bool p.noGt, .bool p.noSign] 36))
  have hK : Hid (Sk g B w ((w.alloc (.cells #[.int .i64 15, .int .i64 o, .string a, .string b, .slice ka 2 kc] 99)).alloc (.cells #[.int .i64 p.level, .bool p.dollar, .bool p.noIn, .bool p.noGt, .bool p.noSign] 36))) := hid (Sk.of_below (((Below.refl w.heap.size w).alloc (Nat.le_refl _) (.cells #[.int .i64 15, .int .i64 o, .string a, .string b, .slice ka 2 kc] 99)).alloc (by simp) (.cells #[.int .i64 p.level, .bool p.dollar, .bool p.noIn, .bool p.noGt, .bool p.noSign] 36)))
  have hws : Hid (((w.alloc (.cells #[.int .i64 15, .int .i64 o, .string a, .string b, .slice ka 2 kc] 99)).alloc (.cells #[.int .i64 p.level, .bool p.dollar, .bool p.noIn, .bool p.noGt, .bool p.noSign] 36)).heap.size = w.heap.size + 1 + 1) := hid (by simp)
  clear hpre
  go_enter Tryz.func123, Tryz.ntmps123
  go_wp2_with fail
  generalize (w.alloc (.cells #[.int .i64 15, .int .i64 o, .string a, .string b, .slice ka 2 kc] 99)).alloc (.cells #[.int .i64 p.level, .bool p.dollar, .bool p.noIn, .bool p.noGt, .bool p.noSign] 36) = w1 at hP hbt hbp hK hws ⊢
  obtain ⟨c0, c1, c2, c3, c4⟩ := box_cells hbt.out
  obtain ⟨d0, d1, d2, d3, d4⟩ := box_cells hbp.out
  refine (hkid p ka _ kc w1 g B S L M _ _ 0 0 u hp hP.out rfl rfl (by have h1 := hLen.out; (try simp only [List.length_append, List.length_cons, List.length_nil] at h1); (try simp only [List.length_append, List.length_cons, List.length_nil]); omega) (by have h1 := hLen2.out; (try simp only [List.length_append, List.length_cons, List.length_nil, kidSp_len] at h1); (try simp only [List.length_append, List.length_cons, List.length_nil, kidSp_len]); omega)).mono ?_; rintro e w2 ⟨rfl, tv2, sv2, hst, hsk⟩
  replace hst : SpSt w2 g B full (L ++ kidTk full 15 o 2 p 0 u) (M ++ kidSp full 15 o 2 p 0 u L.length) tv2 sv2 := hst
  clear c0 c1 c2 c3 c4 d0 d1 d2 d3 d4
  have hP := hid (hP.out.next hsk hst)
  have hbt := hid (hsk.box hbt.out (by decide) (by decide) (by omega))
  have hbp := hid (hsk.box hbp.out (by decide) (by decide) (by omega))
  have hK := hid (hK.out.trans hsk)
  clear hst hsk
  obtain ⟨c0, c1, c2, c3, c4⟩ := box_cells hbt.out
  obtain ⟨d0, d1, d2, d3, d4⟩ := box_cells hbp.out
  go_wp2_with fail
  refine (implsign_any o w2 hP.out.low.env).mono ?_; rintro e w3 ⟨rfl, hbs⟩
  clear c0 c1 c2 c3 c4 d0 d1 d2 d3 d4
  have hP := hid (hP.out.below hbs)
  have hbt := hid (box_below hbt.out hbs)
  have hbp := hid (box_below hbp.out hbs)
  have hK := hid (hK.out.below hbs)
  clear hbs
  obtain ⟨c0, c1, c2, c3, c4⟩ := box_cells hbt.out
  obtain ⟨d0, d1, d2, d3, d4⟩ := box_cells hbp.out
  go_wp2_with fail
  refine (implput1 g B full (L ++ kidTk full 15 o 2 p 0 u) (M ++ kidSp full 15 o 2 p 0 u L.length) _ _ w3 o (spellB o) hP.out.st hgB hP.out.hB (by have h1 := hLen.out; (try simp only [List.length_append, List.length_cons, List.length_nil] at h1); (try simp only [List.length_append, List.length_cons, List.length_nil]); omega)).mono ?_; rintro e w4 ⟨rfl, tv4, hst, hsk⟩
  clear c0 c1 c2 c3 c4 d0 d1 d2 d3 d4
  have hP := hid (hP.out.next hsk hst)
  have hbt := hid (hsk.box hbt.out (by decide) (by decide) (by omega))
  have hbp := hid (hsk.box hbp.out (by decide) (by decide) (by omega))
  have hK := hid (hK.out.trans hsk)
  clear hst hsk
  obtain ⟨c0, c1, c2, c3, c4⟩ := box_cells hbt.out
  obtain ⟨d0, d1, d2, d3, d4⟩ := box_cells hbp.out
  go_wp2_with fail
  refine (hkid p ka _ kc w4 g B S ((L ++ kidTk full 15 o 2 p 0 u) ++ [(⟨o, (spellB o), 0⟩ : Token)]) (M ++ kidSp full 15 o 2 p 0 u L.length) _ _ 1 1 v hp hP.out rfl rfl (by have h1 := hLen.out; (try simp only [List.length_append, List.length_cons, List.length_nil] at h1); (try simp only [List.length_append, List.length_cons, List.length_nil]); omega) (by have h1 := hLen2.out; (try simp only [List.length_append, List.length_cons, List.length_nil, kidSp_len] at h1); (try simp only [List.length_append, List.length_cons, List.length_nil, kidSp_len]); omega)).mono ?_; rintro e w5 ⟨rfl, tv5, sv5, hst, hsk⟩
  replace hst : SpSt w5 g B full (((L ++ kidTk full 15 o 2 p 0 u) ++ [(⟨o, (spellB o), 0⟩ : Token)]) ++ kidTk full 15 o 2 p 1 v) ((M ++ kidSp full 15 o 2 p 0 u L.length) ++ kidSp full 15 o 2 p 1 v ((L ++ kidTk full 15 o 2 p 0 u) ++ [(⟨o, (spellB o), 0⟩ : Token)]).length) tv5 sv5 := hst
  clear c0 c1 c2 c3 c4 d0 d1 d2 d3 d4
  have hP := hid (hP.out.next hsk hst)
  have hbt := hid (hsk.box hbt.out (by decide) (by decide) (by omega))
  have hbp := hid (hsk.box hbp.out (by decide) (by decide) (by omega))
  have hK := hid (hK.out.trans hsk)
  clear hst hsk
  obtain ⟨c0, c1, c2, c3, c4⟩ := box_cells hbt.out
  obtain ⟨d0, d1, d2, d3, d4⟩ := box_cells hbp.out
  have q1 : (((L ++ kidTk full 15 o 2 p 0 u) ++ [(⟨o, (spellB o), 0⟩ : Token)]) ++ kidTk full 15 o 2 p 1 v) = L ++ Tree.tkb full (Tree.mk 15 o a b [u, v]) p := (by rw [Tree.tkb_eq, kidTks2]; show _ = L ++ nodeToks 15 o a _; simp [nodeToks, sgn, ho])
  have q2 : ((M ++ kidSp full 15 o 2 p 0 u L.length) ++ kidSp full 15 o 2 p 1 v ((L ++ kidTk full 15 o 2 p 0 u) ++ [(⟨o, (spellB o), 0⟩ : Token)]).length) = M ++ (Tree.kidSps full (Tree.mk 15 o a b [u, v]) p L.length).flatten := (by rw [kidSps2]; simp [headLen, sepLen, Nat.add_assoc, Nat.add_comm, Nat.add_left_comm, ho])
  have hfin := hP.out.st
  rw [q1, q2] at hfin
  replace hfin := hid hfin
  clear q1 q2
  go_wp2
  go_end0
  exact ⟨rfl, _, _, hfin.out, hK.out⟩
set_option maxRecDepth 100000 in
set_option maxHeartbeats 3200000 in
theorem imploper_13a (full : Bool) (o : Int) (a b : ByteArray) (u : Tree) (hkid : KidC full (Tree.mk 13 o a b [u])) : OperC full (Tree.mk 13 o a b [u]) := by
  intro p ka kn kc w g B S L M tv sv hp hpre hl hm
  obtain rfl : kn = 1 := hpre.kn
  rw [post1] at hl hm
  have hLen : Hid ((kidTk full 13 o 1 p 0 u).length + 1 ≤ 8 * u.post.length ∧ L.length + (8 * u.post.length) + 8 ≤ 1000002 ∧ 1 ≤ u.post.length) := hid ⟨kidTk_len full 13 o 1 p 0 u, by omega, u.posts_pos⟩
  have hLen2 : Hid (M.length + (u.post.length) + 1 ≤ 1000000) := hid (by omega)
  show Calls Tryz.prog 123 #[.pointer (some ⟨g, 0, none⟩), .agg #[.int .i64 13, .int .i64 o, .string a, .string b, .slice ka 1 kc], .agg #[.int .i64 p.level, .bool p.dollar, .bool p.noIn, .bool p.noGt, .bool p.noSign]] w fun e w' => SpPost w g B full (L ++ Tree.tkb full (Tree.mk 13 o a b [u]) p) (M ++ (Tree.kidSps full (Tree.mk 13 o a b [u]) p L.length).flatten) e w'
  clear hl hm
  have hgB := hpre.hgB
  have hBw := hpre.hB
  have hP := hid (hpre.below (((Below.refl w.heap.size w).alloc (Nat.le_refl _) (.cells #[.int .i64 13, .int .i64 o, .string a, .string b, .slice ka 1 kc] 99)).alloc (by simp) (.cells #[.int .i64 p.level, .bool p.dollar, .bool p.noIn, .bool p.noGt, .bool p.noSign] 36)))
  have hbt := hid (alloc2_at0 w (.cells #[.int .i64 13, .int .i64 o, .string a, .string b, .slice ka 1 kc] 99) (.cells #[.int .i64 p.level, .bool p.dollar, .bool p.noIn, .bool p.noGt, .bool p.noSign] 36))
  have hbp := hid (alloc2_at1 w (.cells #[.int .i64 13, .int .i64 o, .string a, .string b, .slice ka 1 kc] 99) (.cells #[.int .i64 p.level, .bool p.dollar, .bool p.noIn, .bool p.noGt, .bool p.noSign] 36))
  have hK : Hid (Sk g B w ((w.alloc (.cells #[.int .i64 13, .int .i64 o, .string a, .string b, .slice ka 1 kc] 99)).alloc (.cells #[.int .i64 p.level, .bool p.dollar, .bool p.noIn, .bool p.noGt, .bool p.noSign] 36))) := hid (Sk.of_below (((Below.refl w.heap.size w).alloc (Nat.le_refl _) (.cells #[.int .i64 13, .int .i64 o, .string a, .string b, .slice ka 1 kc] 99)).alloc (by simp) (.cells #[.int .i64 p.level, .bool p.dollar, .bool p.noIn, .bool p.noGt, .bool p.noSign] 36)))
  have hws : Hid (((w.alloc (.cells #[.int .i64 13, .int .i64 o, .string a, .string b, .slice ka 1 kc] 99)).alloc (.cells #[.int .i64 p.level, .bool p.dollar, .bool p.noIn, .bool p.noGt, .bool p.noSign] 36)).heap.size = w.heap.size + 1 + 1) := hid (by simp)
  clear hpre
  go_enter Tryz.func123, Tryz.ntmps123
  go_wp2_with fail
  generalize (w.alloc (.cells #[.int .i64 13, .int .i64 o, .string a, .string b, .slice ka 1 kc] 99)).alloc (.cells #[.int .i64 p.level, .bool p.dollar, .bool p.noIn, .bool p.noGt, .bool p.noSign] 36) = w1 at hP hbt hbp hK hws ⊢
  obtain ⟨c0, c1, c2, c3, c4⟩ := box_cells hbt.out
  obtain ⟨d0, d1, d2, d3, d4⟩ := box_cells hbp.out
  refine (hkid p ka _ kc w1 g B S L M _ _ 0 0 u hp hP.out rfl rfl (by have h1 := hLen.out; (try simp only [List.length_append, List.length_cons, List.length_nil] at h1); (try simp only [List.length_append, List.length_cons, List.length_nil]); omega) (by have h1 := hLen2.out; (try simp only [List.length_append, List.length_cons, List.length_nil, kidSp_len] at h1); (try simp only [List.length_append, List.length_cons, List.length_nil, kidSp_len]); omega)).mono ?_; rintro e w2 ⟨rfl, tv2, sv2, hst, hsk⟩
  replace hst : SpSt w2 g B full (L ++ kidTk full 13 o 1 p 0 u) (M ++ kidSp full 13 o 1 p 0 u L.length) tv2 sv2 := hst
  clear c0 c1 c2 c3 c4 d0 d1 d2 d3 d4
  have hP := hid (hP.out.next hsk hst)
  have hbt := hid (hsk.box hbt.out (by decide) (by decide) (by omega))
  have hbp := hid (hsk.box hbp.out (by decide) (by decide) (by omega))
  have hK := hid (hK.out.trans hsk)
  clear hst hsk
  obtain ⟨c0, c1, c2, c3, c4⟩ := box_cells hbt.out
  obtain ⟨d0, d1, d2, d3, d4⟩ := box_cells hbp.out
  go_wp2_with fail
  have hPd := hid (hP.out.below ((Below.refl w2.heap.size w2).drew))
  have hlow := hid hP.out.low.env
  go_region_law (first
    | (go_simp; go_at_call 93; refine (implsign_any 24 _ (by first | exact hlow.out | exact hPd.out.low.env)).mono ?_; rintro e ws ⟨rfl, hbs⟩; have zb := box_below (w := w2.drew) hbt.out hbs; obtain ⟨x0, x1, x2, x3, x4⟩ := box_cells zb; clear zb)
    | (go_simp; go_at_call 92; refine (implput2 g B full (L ++ kidTk full 13 o 1 p 0 u) (M ++ kidSp full 13 o 1 p 0 u L.length) _ _ _ 24 6 (spellB 24) a (hPd.out.below hbs).st hgB (hPd.out.below hbs).hB (by have h1 := hLen.out; (try simp only [List.length_append, List.length_cons, List.length_nil] at h1); (try simp only [List.length_append, List.length_cons, List.length_nil]); omega)).mono ?_; rintro e w3 ⟨rfl, tv3, hst, hsk0⟩; have hsk : Sk g B w2 w3 := ((Sk.of_below ((Below.refl w2.heap.size w2).drew)).below hbs).trans hsk0; clear hsk0))
  all_goals
    clear hPd hlow x0 x1 x2 x3 x4 hbs
    clear c0 c1 c2 c3 c4 d0 d1 d2 d3 d4
    have hP := hid (hP.out.next hsk hst)
    have hbt := hid (hsk.box hbt.out (by decide) (by decide) (by omega))
    have hbp := hid (hsk.box hbp.out (by decide) (by decide) (by omega))
    have hK := hid (hK.out.trans hsk)
    clear hst hsk
    obtain ⟨c0, c1, c2, c3, c4⟩ := box_cells hbt.out
    obtain ⟨d0, d1, d2, d3, d4⟩ := box_cells hbp.out
    have q1 : ((L ++ kidTk full 13 o 1 p 0 u) ++ [(⟨24, (spellB 24), 0⟩ : Token), ⟨6, a, 0⟩]) = L ++ Tree.tkb full (Tree.mk 13 o a b [u]) p := (by rw [Tree.tkb_eq, kidTks1]; show _ = L ++ nodeToks 13 o a _; simp [nodeToks, sgn])
    have q2 : (M ++ kidSp full 13 o 1 p 0 u L.length) = M ++ (Tree.kidSps full (Tree.mk 13 o a b [u]) p L.length).flatten := (by rw [kidSps1]; simp [headLen, sepLen, Nat.add_assoc, Nat.add_comm, Nat.add_left_comm])
    have hfin := hP.out.st
    rw [q1, q2] at hfin
    replace hfin := hid hfin
    clear q1 q2
    go_wp2
    go_end0
    exact ⟨rfl, _, _, hfin.out, hK.out⟩
set_option maxRecDepth 100000 in
set_option maxHeartbeats 3200000 in
theorem imploper_13b (full : Bool) (o : Int) (a b : ByteArray) (l : List Tree) (hn : 1 < l.length) (hlist : ListC full (Tree.mk 13 o a b l)) : OperC full (Tree.mk 13 o a b l) := by
  intro p ka kn kc w g B S L M tv sv hp hpre hl hm
  obtain rfl : kn = l.length := hpre.kn
  have hLen : Hid (L.length + 8 * (Tree.mk 13 o a b l).post.length ≤ 1000002 ∧ sumLen (Tree.kidTks full (Tree.mk 13 o a b l) p) + l.length + 8 ≤ 8 * (Tree.mk 13 o a b l).post.length ∧ (commas (Tree.kidTks full (Tree.mk 13 o a b l) p)).length ≤ sumLen (Tree.kidTks full (Tree.mk 13 o a b l) p) + l.length) := hid ⟨hl, Tree.all_len _ _ _, by have := commas_len (Tree.kidTks full (Tree.mk 13 o a b l) p); rw [Tree.kidTks_len] at this; exact this⟩
  have hLen2 : Hid (M.length + (Tree.mk 13 o a b l).post.length ≤ 1000000) := hid hm
  have hhl := hid hn
  have hn2 : (1 : Int) < (l.length : Int) := by omega
  show Calls Tryz.prog 123 #[.pointer (some ⟨g, 0, none⟩), .agg #[.int .i64 13, .int .i64 o, .string a, .string b, .slice ka l.length kc], .agg #[.int .i64 p.level, .bool p.dollar, .bool p.noIn, .bool p.noGt, .bool p.noSign]] w fun e w' => SpPost w g B full (L ++ Tree.tkb full (Tree.mk 13 o a b l) p) (M ++ (Tree.kidSps full (Tree.mk 13 o a b l) p L.length).flatten) e w'
  clear hl hm hn
  have hgB := hpre.hgB
  have hBw := hpre.hB
  have hP := hid (hpre.below (((Below.refl w.heap.size w).alloc (Nat.le_refl _) (.cells #[.int .i64 13, .int .i64 o, .string a, .string b, .slice ka l.length kc] 99)).alloc (by simp) (.cells #[.int .i64 p.level, .bool p.dollar, .bool p.noIn, .bool p.noGt, .bool p.noSign] 36)))
  have hbt := hid (alloc2_at0 w (.cells #[.int .i64 13, .int .i64 o, .string a, .string b, .slice ka l.length kc] 99) (.cells #[.int .i64 p.level, .bool p.dollar, .bool p.noIn, .bool p.noGt, .bool p.noSign] 36))
  have hbp := hid (alloc2_at1 w (.cells #[.int .i64 13, .int .i64 o, .string a, .string b, .slice ka l.length kc] 99) (.cells #[.int .i64 p.level, .bool p.dollar, .bool p.noIn, .bool p.noGt, .bool p.noSign] 36))
  have hK : Hid (Sk g B w ((w.alloc (.cells #[.int .i64 13, .int .i64 o, .string a, .string b, .slice ka l.length kc] 99)).alloc (.cells #[.int .i64 p.level, .bool p.dollar, .bool p.noIn, .bool p.noGt, .bool p.noSign] 36))) := hid (Sk.of_below (((Below.refl w.heap.size w).alloc (Nat.le_refl _) (.cells #[.int .i64 13, .int .i64 o, .string a, .string b, .slice ka l.length kc] 99)).alloc (by simp) (.cells #[.int .i64 p.level, .bool p.dollar, .bool p.noIn, .bool p.noGt, .bool p.noSign] 36)))
  have hws : Hid (((w.alloc (.cells #[.int .i64 13, .int .i64 o, .string a, .string b, .slice ka l.length kc] 99)).alloc (.cells #[.int .i64 p.level, .bool p.dollar, .bool p.noIn, .bool p.noGt, .bool p.noSign] 36)).heap.size = w.heap.size + 1 + 1) := hid (by simp)
  clear hpre
  go_enter Tryz.func123, Tryz.ntmps123
  go_wp2_with fail
  generalize (w.alloc (.cells #[.int .i64 13, .int .i64 o, .string a, .string b, .slice ka l.length kc] 99)).alloc (.cells #[.int .i64 p.level, .bool p.dollar, .bool p.noIn, .bool p.noGt, .bool p.noSign] 36) = w1 at hP hbt hbp hK hws ⊢
  obtain ⟨c0, c1, c2, c3, c4⟩ := box_cells hbt.out
  obtain ⟨d0, d1, d2, d3, d4⟩ := box_cells hbp.out
  refine (hlist p ka _ kc w1 g B S L M _ _ 32 33 L.length hp hP.out (by have h1 := hLen.out; omega) (by have h1 := hLen2.out; omega) (by simp [headLen, Tree.kind, Tree.kids, hhl.out]) (by simp [sepLen, Tree.kind])).mono ?_; rintro e w2 ⟨rfl, tv2, sv2, hst, hsk⟩
  clear c0 c1 c2 c3 c4 d0 d1 d2 d3 d4
  have hP := hid (hP.out.next hsk hst)
  have hbt := hid (hsk.box hbt.out (by decide) (by decide) (by omega))
  have hbp := hid (hsk.box hbp.out (by decide) (by decide) (by omega))
  have hK := hid (hK.out.trans hsk)
  clear hst hsk
  obtain ⟨c0, c1, c2, c3, c4⟩ := box_cells hbt.out
  obtain ⟨d0, d1, d2, d3, d4⟩ := box_cells hbp.out
  go_wp2_with fail
  have hPd := hid (hP.out.below ((Below.refl w2.heap.size w2).drew))
  have hlow := hid hP.out.low.env
  go_region_law (first
    | (go_simp; go_at_call 93; refine (implsign_any 24 _ (by first | exact hlow.out | exact hPd.out.low.env)).mono ?_; rintro e ws ⟨rfl, hbs⟩; have zb := box_below (w := w2.drew) hbt.out hbs; obtain ⟨x0, x1, x2, x3, x4⟩ := box_cells zb; clear zb)
    | (go_simp; go_at_call 92; refine (implput2 g B full (L ++ sgn 32 :: (commas (Tree.kidTks full (Tree.mk 13 o a b l) p) ++ [sgn 33])) (M ++ (Tree.kidSps full (Tree.mk 13 o a b l) p L.length).flatten) _ _ _ 24 6 (spellB 24) a (hPd.out.below hbs).st hgB (hPd.out.below hbs).hB (by have h1 := hLen.out; (try simp only [List.length_append, List.length_cons, List.length_nil] at h1); (try simp only [List.length_append, List.length_cons, List.length_nil]); omega)).mono ?_; rintro e w3 ⟨rfl, tv3, hst, hsk0⟩; have hsk : Sk g B w2 w3 := ((Sk.of_below ((Below.refl w2.heap.size w2).drew)).below hbs).trans hsk0; clear hsk0))
  all_goals
    clear hPd hlow x0 x1 x2 x3 x4 hbs
    clear c0 c1 c2 c3 c4 d0 d1 d2 d3 d4
    have hP := hid (hP.out.next hsk hst)
    have hbt := hid (hsk.box hbt.out (by decide) (by decide) (by omega))
    have hbp := hid (hsk.box hbp.out (by decide) (by decide) (by omega))
    have hK := hid (hK.out.trans hsk)
    clear hst hsk
    obtain ⟨c0, c1, c2, c3, c4⟩ := box_cells hbt.out
    obtain ⟨d0, d1, d2, d3, d4⟩ := box_cells hbp.out
    have q1 : ((L ++ sgn 32 :: (commas (Tree.kidTks full (Tree.mk 13 o a b l) p) ++ [sgn 33])) ++ [(⟨24, (spellB 24), 0⟩ : Token), ⟨6, a, 0⟩]) = L ++ Tree.tkb full (Tree.mk 13 o a b l) p := (by rw [Tree.tkb_eq]; show _ = L ++ nodeToks 13 o a _; simp [nodeToks, Tree.kidTks_len, Tree.kids, hhl.out, sgn])
    have q2 : (M ++ (Tree.kidSps full (Tree.mk 13 o a b l) p L.length).flatten) = M ++ (Tree.kidSps full (Tree.mk 13 o a b l) p L.length).flatten := (rfl)
    have hfin := hP.out.st
    rw [q1, q2] at hfin
    replace hfin := hid hfin
    clear q1 q2
    go_wp2
    go_end0
    exact ⟨rfl, _, _, hfin.out, hK.out⟩
end Go.Proofs.YtkelhmgdajiocaaGreatDoor
