/- Walks and lemmas of this seat (FSpellL): what each theorem says of the functions that it names. Conditions: those that each theorem states. -/
import Derived.Test.YtkelhmgdajiocaaGreatDoorFSpellB
import Derived.Test.YtkelhmgdajiocaaGreatDoorGB
namespace Go.Proofs.YtkelhmgdajiocaaGreatDoor
set_option linter.unusedVariables false
set_option linter.unusedSimpArgs false
open Go.RowKit

/-! list: the kids with commas between, between two tokens. -/
set_option maxRecDepth 100000 in
set_option maxHeartbeats 3200000 in
theorem impllist_of (full : Bool) (t : Tree) (hkid : KidC full t) : ListC full t := by
  intro p ka kn kc w g B S L M tv sv o s at_ hp hpre hl hm hat hsep
  obtain rfl := hpre.kn
  have hLen := hid hl
  have hAll := hid (t.all_len full p)
  have hAt := hid hat
  have hSep := hid hsep
  have hm2 := hid hm
  have hln : t.kids.length ≤ 1000000 := by have := t.all_len full p; omega
  clear hl hm hat hsep
  have hgB := hpre.hgB
  have hBw := hpre.hB
  have hP := hid (hpre.below (((Below.refl w.heap.size w).alloc (Nat.le_refl _) (.cells #[.int .i64 t.kind, .int .i64 t.op, .string t.text, .string t.other, .slice ka t.kids.length kc] 99)).alloc (by simp) (.cells #[.int .i64 p.level, .bool p.dollar, .bool p.noIn, .bool p.noGt, .bool p.noSign] 36)))
  have hbt := hid (alloc2_at0 w (.cells #[.int .i64 t.kind, .int .i64 t.op, .string t.text, .string t.other, .slice ka t.kids.length kc] 99) (.cells #[.int .i64 p.level, .bool p.dollar, .bool p.noIn, .bool p.noGt, .bool p.noSign] 36))
  have hbp := hid (alloc2_at1 w (.cells #[.int .i64 t.kind, .int .i64 t.op, .string t.text, .string t.other, .slice ka t.kids.length kc] 99) (.cells #[.int .i64 p.level, .bool p.dollar, .bool p.noIn, .bool p.noGt, .bool p.noSign] 36))
  have hK : Hid (Sk g B w ((w.alloc (.cells #[.int .i64 t.kind, .int .i64 t.op, .string t.text, .string t.other, .slice ka t.kids.length kc] 99)).alloc (.cells #[.int .i64 p.level, .bool p.dollar, .bool p.noIn, .bool p.noGt, .bool p.noSign] 36))) := hid (Sk.of_below (((Below.refl w.heap.size w).alloc (Nat.le_refl _) (.cells #[.int .i64 t.kind, .int .i64 t.op, .string t.text, .string t.other, .slice ka t.kids.length kc] 99)).alloc (by simp) (.cells #[.int .i64 p.level, .bool p.dollar, .bool p.noIn, .bool p.noGt, .bool p.noSign] 36)))
  have hws : Hid (((w.alloc (.cells #[.int .i64 t.kind, .int .i64 t.op, .string t.text, .string t.other, .slice ka t.kids.length kc] 99)).alloc (.cells #[.int .i64 p.level, .bool p.dollar, .bool p.noIn, .bool p.noGt, .bool p.noSign] 36)).heap.size = w.heap.size + 1 + 1) := hid (by simp)
  clear hpre
  go_enter Tryz.func122, Tryz.ntmps122
  go_wp2_with fail
  generalize (w.alloc (.cells #[.int .i64 t.kind, .int .i64 t.op, .string t.text, .string t.other, .slice ka t.kids.length kc] 99)).alloc (.cells #[.int .i64 p.level, .bool p.dollar, .bool p.noIn, .bool p.noGt, .bool p.noSign] 36) = w1 at hP hbt hbp hK hws ⊢
  obtain ⟨c0, c1, c2, c3, c4⟩ := box_cells hbt.out
  obtain ⟨d0, d1, d2, d3, d4⟩ := box_cells hbp.out
  refine (implsign_any o w1 hP.out.low.env).mono ?_; rintro e w2 ⟨rfl, hbs⟩
  clear c0 c1 c2 c3 c4 d0 d1 d2 d3 d4
  have hP := hid (hP.out.below hbs)
  have hbt := hid (box_below hbt.out hbs)
  have hbp := hid (box_below hbp.out hbs)
  have hK := hid (hK.out.below hbs)
  clear hbs
  obtain ⟨c0, c1, c2, c3, c4⟩ := box_cells hbt.out
  obtain ⟨d0, d1, d2, d3, d4⟩ := box_cells hbp.out
  go_wp2_with fail
  refine (implput1 g B full L M _ _ w2 o (spellB o) hP.out.st hgB hP.out.hB (by have h1 := hLen.out; have h2 := hAll.out; (try simp only [List.length_append, List.length_cons, List.length_nil]); omega)).mono ?_; rintro e w3 ⟨rfl, tv3, hst, hsk⟩
  clear c0 c1 c2 c3 c4 d0 d1 d2 d3 d4
  have hP := hid (hP.out.next hsk hst)
  have hbt := hid (hsk.box hbt.out (by decide) (by decide) (by omega))
  have hbp := hid (hsk.box hbp.out (by decide) (by decide) (by omega))
  have hK := hid (hK.out.trans hsk)
  clear hst hsk
  obtain ⟨c0, c1, c2, c3, c4⟩ := box_cells hbt.out
  obtain ⟨d0, d1, d2, d3, d4⟩ := box_cells hbp.out
  go_wp2
  go_loopw [19] (fun i wr => ∃ (k : Nat) (tvk svk : Value), i = .int .i64 k ∧ k ≤ t.kids.length ∧ Hid (SpPre g B full ((L ++ [(⟨o, (spellB o), 0⟩ : Token)]) ++ commas ((t.kidTks full p).take k)) (M ++ ((t.kidSps full p at_).take k).flatten) t (.slice ka t.kids.length kc) S tvk svk wr) ∧ Hid (wr.heap[w.heap.size]? = some (.cells #[.int .i64 t.kind, .int .i64 t.op, .string t.text, .string t.other, .slice ka t.kids.length kc] 99 (0, 0))) ∧ Hid (wr.heap[w.heap.size + 1]? = some (.cells #[.int .i64 p.level, .bool p.dollar, .bool p.noIn, .bool p.noGt, .bool p.noSign] 36 (0, 0))) ∧ Hid (Sk g B w wr)) (fun i _ => t.kids.length - (intOf i).toNat)
  case atStart => exact ⟨0, _, _, rfl, by omega, hid (by simpa [commas] using hP.out), hbt, hbp, hK⟩
  clear hP hbt hbp hK c0 c1 c2 c3 c4 d0 d1 d2 d3 d4
  obtain ⟨k, tvk, svk, rfl, hk, hP, hbt, hbp, hK⟩ := hrel
  rename World => wr
  obtain ⟨c0, c1, c2, c3, c4⟩ := box_cells hbt.out
  obtain ⟨d0, d1, d2, d3, d4⟩ := box_cells hbp.out
  by_cases hlt : k < t.kids.length
  · obtain ⟨u, hu⟩ := get_of_lt hlt
    have hx := hid (commas_take (t.kidTks_at full p hu))
    have hy := hid (flat_take (t.kidSps_at full p at_ hu))
    have hpl := hid (t.pre_len full p hu)
    have hps := hid (t.pre_sp full p at_ hu)
    have hcl := hid (commas_take_len (ks := t.kidTks full p) (j := k) (by rw [t.kidTks_len]; omega))
    have hpu := hid hu
    have hof : Hid (t.kidOff full p k = headLen t.kind t.kids.length + (sumLen ((t.kidTks full p).take k) + k)) := hid (by unfold Tree.kidOff; rw [hSep.out, Nat.mul_one])
    clear hu
    by_cases hk0 : 0 < k
    · skip
      have hki : (0 : Int) < (k : Int) := by omega
      rw [if_pos hk0] at hx hcl
      go_wp2_with fail
      refine (implsign_any 36 wr hP.out.low.env).mono ?_; rintro e ws ⟨rfl, hbs⟩
      clear c0 c1 c2 c3 c4 d0 d1 d2 d3 d4
      have hP := hid (hP.out.below hbs)
      have hbt := hid (box_below hbt.out hbs)
      have hbp := hid (box_below hbp.out hbs)
      have hK := hid (hK.out.below hbs)
      clear hbs
      obtain ⟨c0, c1, c2, c3, c4⟩ := box_cells hbt.out
      obtain ⟨d0, d1, d2, d3, d4⟩ := box_cells hbp.out
      go_wp2_with fail
      refine (implput1 g B full ((L ++ [(⟨o, (spellB o), 0⟩ : Token)]) ++ commas ((t.kidTks full p).take k)) (M ++ ((t.kidSps full p at_).take k).flatten) _ _ ws 36 (spellB 36) hP.out.st hgB hP.out.hB (by have h1 := hLen.out; have h2 := hpl.out; have h3 := hcl.out; (try simp only [List.length_append, List.length_cons, List.length_nil]); omega)).mono ?_; rintro e wk ⟨rfl, tvq, hst, hsk⟩
      clear c0 c1 c2 c3 c4 d0 d1 d2 d3 d4
      have hP := hid (hP.out.next hsk hst)
      have hbt := hid (hsk.box hbt.out (by decide) (by decide) (by omega))
      have hbp := hid (hsk.box hbp.out (by decide) (by decide) (by omega))
      have hK := hid (hK.out.trans hsk)
      clear hst hsk
      obtain ⟨c0, c1, c2, c3, c4⟩ := box_cells hbt.out
      obtain ⟨d0, d1, d2, d3, d4⟩ := box_cells hbp.out
      go_wp2_with fail
      refine (hkid p ka _ kc wk g B S (((L ++ [(⟨o, (spellB o), 0⟩ : Token)]) ++ commas ((t.kidTks full p).take k)) ++ [(⟨36, (spellB 36), 0⟩ : Token)]) (M ++ ((t.kidSps full p at_).take k).flatten) _ _ k k u hp hP.out rfl hpu.out (by have h1 := hLen.out; have h2 := hpl.out; have h3 := hcl.out; (try simp only [List.length_append, List.length_cons, List.length_nil]); omega) (by have h1 := hm2.out; have h2 := hps.out; simp only [List.length_append]; omega)).mono ?_; rintro e wz ⟨rfl, tvz, svz, hst, hsk⟩
      clear c0 c1 c2 c3 c4 d0 d1 d2 d3 d4
      have hP := hid (hP.out.next hsk hst)
      have hbt := hid (hsk.box hbt.out (by decide) (by decide) (by omega))
      have hbp := hid (hsk.box hbp.out (by decide) (by decide) (by omega))
      have hK := hid (hK.out.trans hsk)
      clear hst hsk
      obtain ⟨c0, c1, c2, c3, c4⟩ := box_cells hbt.out
      obtain ⟨d0, d1, d2, d3, d4⟩ := box_cells hbp.out
      have hq1 : (((L ++ [(⟨o, (spellB o), 0⟩ : Token)]) ++ commas ((t.kidTks full p).take k)) ++ [(⟨36, (spellB 36), 0⟩ : Token)]) ++ kidTk full t.kind t.op t.kids.length p k u = (L ++ [(⟨o, (spellB o), 0⟩ : Token)]) ++ commas ((t.kidTks full p).take (k + 1)) := by rw [hx.out]; simp [sgn]
      have hpos : (((L ++ [(⟨o, (spellB o), 0⟩ : Token)]) ++ commas ((t.kidTks full p).take k)) ++ [(⟨36, (spellB 36), 0⟩ : Token)]).length = at_ + t.kidOff full p k := by
        rw [hof.out]
        have h1 := hAt.out
        have h3 := hcl.out
        simp only [List.length_append, List.length_cons, List.length_nil]
        omega
      have hq2 : (M ++ ((t.kidSps full p at_).take k).flatten) ++ kidSp full t.kind t.op t.kids.length p k u (((L ++ [(⟨o, (spellB o), 0⟩ : Token)]) ++ commas ((t.kidTks full p).take k)) ++ [(⟨36, (spellB 36), 0⟩ : Token)]).length = M ++ ((t.kidSps full p at_).take (k + 1)).flatten := by rw [hy.out, hpos]; simp
      rw [hq1, hq2] at hP
      clear hq1 hq2 hpos hx hy hpl hps hcl hpu hof
      go_wp2
      all_goals go_roundw
      all_goals first
        | (simp [intOf]; omega)
        | exact ⟨k + 1, _, _, by go_num, by omega, hP, hbt, hbp, hK⟩
    · skip
      have hki : ¬ (0 : Int) < (k : Int) := by omega
      rw [if_neg hk0] at hx hcl
      go_wp2_with fail
      refine (hkid p ka _ kc wr g B S ((L ++ [(⟨o, (spellB o), 0⟩ : Token)]) ++ commas ((t.kidTks full p).take k)) (M ++ ((t.kidSps full p at_).take k).flatten) _ _ k k u hp hP.out rfl hpu.out (by have h1 := hLen.out; have h2 := hpl.out; have h3 := hcl.out; (try simp only [List.length_append, List.length_cons, List.length_nil]); omega) (by have h1 := hm2.out; have h2 := hps.out; simp only [List.length_append]; omega)).mono ?_; rintro e wz ⟨rfl, tvz, svz, hst, hsk⟩
      clear c0 c1 c2 c3 c4 d0 d1 d2 d3 d4
      have hP := hid (hP.out.next hsk hst)
      have hbt := hid (hsk.box hbt.out (by decide) (by decide) (by omega))
      have hbp := hid (hsk.box hbp.out (by decide) (by decide) (by omega))
      have hK := hid (hK.out.trans hsk)
      clear hst hsk
      obtain ⟨c0, c1, c2, c3, c4⟩ := box_cells hbt.out
      obtain ⟨d0, d1, d2, d3, d4⟩ := box_cells hbp.out
      have hq1 : ((L ++ [(⟨o, (spellB o), 0⟩ : Token)]) ++ commas ((t.kidTks full p).take k)) ++ kidTk full t.kind t.op t.kids.length p k u = (L ++ [(⟨o, (spellB o), 0⟩ : Token)]) ++ commas ((t.kidTks full p).take (k + 1)) := by rw [hx.out]; simp [sgn]
      have hpos : ((L ++ [(⟨o, (spellB o), 0⟩ : Token)]) ++ commas ((t.kidTks full p).take k)).length = at_ + t.kidOff full p k := by
        rw [hof.out]
        have h1 := hAt.out
        have h3 := hcl.out
        simp only [List.length_append, List.length_cons, List.length_nil]
        omega
      have hq2 : (M ++ ((t.kidSps full p at_).take k).flatten) ++ kidSp full t.kind t.op t.kids.length p k u ((L ++ [(⟨o, (spellB o), 0⟩ : Token)]) ++ commas ((t.kidTks full p).take k)).length = M ++ ((t.kidSps full p at_).take (k + 1)).flatten := by rw [hy.out, hpos]; simp
      rw [hq1, hq2] at hP
      clear hq1 hq2 hpos hx hy hpl hps hcl hpu hof
      go_wp2
      all_goals go_roundw
      all_goals first
        | (simp [intOf]; omega)
        | exact ⟨k + 1, _, _, by go_num, by omega, hP, hbt, hbp, hK⟩
  · obtain rfl : k = t.kids.length := by omega
    have eT : (t.kidTks full p).take t.kids.length = t.kidTks full p := List.take_of_length_le (by rw [t.kidTks_len]; exact Nat.le_refl _)
    have eS : (t.kidSps full p at_).take t.kids.length = t.kidSps full p at_ := List.take_of_length_le (by rw [t.kidSps_len]; exact Nat.le_refl _)
    rw [eT, eS] at hP
    clear eT eS
    go_wp2_with fail
    refine (implsign_any s wr hP.out.low.env).mono ?_; rintro e ws ⟨rfl, hbs⟩
    clear c0 c1 c2 c3 c4 d0 d1 d2 d3 d4
    have hP := hid (hP.out.below hbs)
    have hbt := hid (box_below hbt.out hbs)
    have hbp := hid (box_below hbp.out hbs)
    have hK := hid (hK.out.below hbs)
    clear hbs
    obtain ⟨c0, c1, c2, c3, c4⟩ := box_cells hbt.out
    obtain ⟨d0, d1, d2, d3, d4⟩ := box_cells hbp.out
    go_wp2_with fail
    refine (implput1 g B full ((L ++ [(⟨o, (spellB o), 0⟩ : Token)]) ++ commas (t.kidTks full p)) (M ++ (t.kidSps full p at_).flatten) _ _ ws s (spellB s) hP.out.st hgB hP.out.hB (by have h1 := hLen.out; have h2 := hAll.out; have h3 := commas_len (t.kidTks full p); have h4 := t.kidTks_len full p; (try simp only [List.length_append, List.length_cons, List.length_nil]); omega)).mono ?_; rintro e wz ⟨rfl, tvz, hst, hsk⟩
    clear c0 c1 c2 c3 c4 d0 d1 d2 d3 d4
    have hP := hid (hP.out.next hsk hst)
    have hbt := hid (hsk.box hbt.out (by decide) (by decide) (by omega))
    have hbp := hid (hsk.box hbp.out (by decide) (by decide) (by omega))
    have hK := hid (hK.out.trans hsk)
    clear hst hsk
    obtain ⟨c0, c1, c2, c3, c4⟩ := box_cells hbt.out
    obtain ⟨d0, d1, d2, d3, d4⟩ := box_cells hbp.out
    have q1 : ((L ++ [(⟨o, (spellB o), 0⟩ : Token)]) ++ commas (t.kidTks full p)) ++ [(⟨s, spellB s, 0⟩ : Token)] = L ++ sgn o :: (commas (t.kidTks full p) ++ [sgn s]) := by simp [sgn]
    have hfin := hP.out.st
    rw [q1] at hfin
    replace hfin := hid hfin
    clear q1
    go_wp2
    go_end0
    exact ⟨rfl, _, _, hfin.out, hK.out⟩
end Go.Proofs.YtkelhmgdajiocaaGreatDoor
