/- Walks and lemmas of this seat (FSign): what each theorem says of the functions that it names. Conditions: those that each theorem states. -/
import Derived.Test.YtkelhmgdajiocaaGreatDoorGSP
import Derived.Test.YtkelhmgdajiocaaGreatDoorGC
import Derived.Test.YtkelhmgdajiocaaGreatDoorGA
namespace Go.Proofs.YtkelhmgdajiocaaGreatDoor
set_option linter.unusedVariables false
set_option linter.unusedSimpArgs false
open Go.RowKit Go.Lib

/-! The texts of signs, both sides. -/
theorem inB_iff {k a b : Int} : inB k a b = true ↔ a ≤ k ∧ k ≤ b := by unfold inB; simp
theorem inB_not {k a b : Int} (h : ¬ (a ≤ k ∧ k ≤ b)) : inB k a b = false := by
  cases e : inB k a b with
  | false => rfl
  | true => exact absurd (inB_iff.1 e) h
theorem spell_kw {i : Nat} (h : i < kwTab.length) : spellB ((i : Int) + 10) = kwTab.getD i ByteArray.empty := by
  have hl : kwTab.length = 17 := rfl
  unfold spellB
  rw [if_neg (by omega), if_pos (inB_iff.2 (by omega)), show ((i : Int) + 10 - 10).toNat = i by omega]
theorem spell_sign {i : Nat} (h : i < signTab.length) : spellB ((i : Int) + 30) = signTab.getD i ByteArray.empty := by
  have hl : signTab.length = 39 := rfl
  unfold spellB
  rw [if_neg (by omega), if_neg (by rw [inB_not (by omega)]; simp), if_pos (inB_iff.2 (by omega)), show ((i : Int) + 30 - 30).toNat = i by omega]
theorem spell_none {k : Int} (h1 : k ≠ 1) (h2 : ¬ (10 ≤ k ∧ k ≤ 26)) (h3 : ¬ (30 ≤ k ∧ k ≤ 68)) : spellB k = ByteArray.empty := by
  unfold spellB
  rw [if_neg h1, if_neg (by rw [inB_not h2]; simp), if_neg (by rw [inB_not h3]; simp)]
theorem spell_cases (k : Int) : k = 1 ∨ (∃ i : Nat, i < kwTab.length ∧ k = (i : Int) + 10) ∨ (∃ i : Nat, i < signTab.length ∧ k = (i : Int) + 30) ∨ (k ≠ 1 ∧ ¬ (10 ≤ k ∧ k ≤ 26) ∧ ¬ (30 ≤ k ∧ k ≤ 68)) := by
  have hl : kwTab.length = 17 := rfl
  have hl2 : signTab.length = 39 := rfl
  by_cases h1 : k = 1
  · exact .inl h1
  by_cases h2 : 10 ≤ k ∧ k ≤ 26
  · exact .inr (.inl ⟨(k - 10).toNat, by omega, by omega⟩)
  by_cases h3 : 30 ≤ k ∧ k ≤ 68
  · exact .inr (.inr (.inl ⟨(k - 30).toNat, by omega, by omega⟩))
  exact .inr (.inr (.inr ⟨h1, h2, h3⟩))
theorem spell_small (k : Int) : (spellB k).size ≤ 16 := by
  have h1 : ∀ i, (kwTab.getD i ByteArray.empty).size ≤ 16 := fun i => by
    by_cases h : i < 17
    · have : ∀ i, i < 17 → (kwTab.getD i ByteArray.empty).size ≤ 16 := by decide +kernel
      exact this i h
    · rw [List.getD_eq_getElem?_getD, List.getElem?_eq_none (by have : kwTab.length = 17 := rfl; omega)]; decide
  have h2 : ∀ i, (signTab.getD i ByteArray.empty).size ≤ 16 := fun i => by
    by_cases h : i < 39
    · have : ∀ i, i < 39 → (signTab.getD i ByteArray.empty).size ≤ 16 := by decide +kernel
      exact this i h
    · rw [List.getD_eq_getElem?_getD, List.getElem?_eq_none (by have : signTab.length = 39 := rfl; omega)]; decide
  unfold spellB
  repeat' split
  · decide
  · exact h1 _
  · exact h2 _
  · decide
set_option maxRecDepth 100000 in
theorem specl3Signs_any (w : World) : Calls Tryz.prog 132 #[] w fun e w' => ∃ v, e = .returned v ∧ Slc w' v 1 signTab.length (signTab.flatMap str1) ∧ Below w.heap.size w w' := by
  go_enter Tryz.func132, Tryz.ntmps132
  go_wp2
  go_ret
  exact ⟨_, rfl, slc_lit w (signTab.flatMap str1) _ _ rfl (by unfold maxLen; decide), (Below.refl _ _).alloc (Nat.le_refl _) _⟩
theorem tab_at {l : List ByteArray} {i : Nat} (h : i < l.length) : l[i]? = some (l.getD i ByteArray.empty) := by
  rw [List.getD_eq_getElem?_getD, List.getElem?_eq_getElem h]; rfl
set_option maxRecDepth 100000 in
set_option maxHeartbeats 1600000 in
theorem specSpellOf_any (k : Int) (w : World) : Calls Tryz.prog 107 #[.int .i64 k] w fun e w' => e = .returned (.string (spellB k)) ∧ Below w.heap.size w w' := by
  have hl : kwTab.length = 17 := rfl
  have hl2 : signTab.length = 39 := rfl
  rcases spell_cases k with rfl | ⟨i, hi, rfl⟩ | ⟨i, hi, rfl⟩ | ⟨h1, h2, h3⟩
  · go_enter Tryz.func107, Tryz.ntmps107
    go_wp2
    go_ret
    exact ⟨rfl, Below.refl _ _⟩
  · rw [spell_kw hi]
    have hb1 := inB_iff.2 (show (10 : Int) ≤ (i : Int) + 10 ∧ (i : Int) + 10 ≤ 26 by omega)
    have hx := tab_at hi
    generalize kwTab.getD i ByteArray.empty = t at *
    go_enter Tryz.func107, Tryz.ntmps107
    go_wp2_with (go_at_call 52; refine (specl1In_any _ _ _ _).mono ?_; rintro e w' ⟨rfl, rfl⟩)
    refine (specl3Words_any _).mono ?_; rintro e w1 ⟨v, rfl, ⟨_, a, cap, rfl, hcap, hm, hrow⟩, hb⟩
    obtain ⟨b, off, rfl, hro⟩ := slc_some hrow (by omega)
    have c0 := hro.one str1_len hx rfl
    have e1 : (i : Int) + 10 - 10 = (i : Int) := by omega
    clear hrow hro hx
    go_wp2
    all_goals go_ret
    all_goals exact ⟨rfl, hb⟩
  · rw [spell_sign hi]
    have hb1 := inB_not (show ¬ ((10 : Int) ≤ (i : Int) + 30 ∧ (i : Int) + 30 ≤ 26) by omega)
    have hb2 := inB_iff.2 (show (30 : Int) ≤ (i : Int) + 30 ∧ (i : Int) + 30 ≤ 68 by omega)
    have hx := tab_at hi
    generalize signTab.getD i ByteArray.empty = t at *
    go_enter Tryz.func107, Tryz.ntmps107
    go_wp2_with (go_at_call 52; refine (specl1In_any _ _ _ _).mono ?_; rintro e w' ⟨rfl, rfl⟩)
    refine (specl3Signs_any _).mono ?_; rintro e w1 ⟨v, rfl, ⟨_, a, cap, rfl, hcap, hm, hrow⟩, hb⟩
    obtain ⟨b, off, rfl, hro⟩ := slc_some hrow (by omega)
    have c0 := hro.one str1_len hx rfl
    have e1 : (i : Int) + 30 - 30 = (i : Int) := by omega
    clear hrow hro hx
    go_wp2
    all_goals go_ret
    all_goals exact ⟨rfl, hb⟩
  · rw [spell_none h1 h2 h3]
    have hb1 := inB_not h2
    have hb2 := inB_not h3
    go_enter Tryz.func107, Tryz.ntmps107
    go_wp2_with (go_at_call 52; refine (specl1In_any _ _ _ _).mono ?_; rintro e w' ⟨rfl, rfl⟩)
    go_ret
    exact ⟨rfl, Below.refl _ _⟩
theorem implisKeywordKind_any (k : Int) (w : World) : Calls Tryz.prog 149 #[.int .i64 k] w fun e w' => e = .returned (.bool (inB k 10 26)) ∧ w' = w := by
  go_enter Tryz.func149, Tryz.ntmps149
  go_wp2_with (go_at_call 45; refine (implwithin_any _ _ _ _).mono ?_; rintro e w' ⟨rfl, rfl⟩)
  go_ret
  exact ⟨rfl, rfl⟩
theorem implisSignKind_any (k : Int) (w : World) : Calls Tryz.prog 150 #[.int .i64 k] w fun e w' => e = .returned (.bool (inB k 30 68)) ∧ w' = w := by
  go_enter Tryz.func150, Tryz.ntmps150
  go_wp2_with (go_at_call 45; refine (implwithin_any _ _ _ _).mono ?_; rintro e w' ⟨rfl, rfl⟩)
  go_ret
  exact ⟨rfl, rfl⟩
set_option maxRecDepth 100000 in
set_option maxHeartbeats 1600000 in
theorem implSpellOf_any (k : Int) (w : World) (hE : WordEnv w) : Calls Tryz.prog 124 #[.int .i64 k] w fun e w' => e = .returned (.string (spellB k)) ∧ w' = w := by
  have hl : kwTab.length = 17 := rfl
  have hl2 : signTab.length = 39 := rfl
  have hi1 := hid (fun W => implisKeywordKind_any k W)
  have hi2 := hid (fun W => implisSignKind_any k W)
  rcases spell_cases k with rfl | ⟨i, hi, rfl⟩ | ⟨i, hi, rfl⟩ | ⟨h1, h2, h3⟩
  · go_enter Tryz.func124, Tryz.ntmps124
    go_wp2
    go_ret
    exact ⟨rfl, rfl⟩
  · rw [spell_kw hi]
    rw [inB_iff.2 (show (10 : Int) ≤ (i : Int) + 10 ∧ (i : Int) + 10 ≤ 26 by omega)] at hi1
    have c0 := hE.kwCell i hi
    rw [Nat.zero_add] at c0
    have e1 : (i : Int) + 10 - 10 = (i : Int) := by omega
    clear hE
    generalize kwTab.getD i ByteArray.empty = t at *
    go_enter Tryz.func124, Tryz.ntmps124
    go_wp2_with (go_at_call 149; refine (hi1.out _).mono ?_; rintro e w' ⟨rfl, hw'⟩; subst w')
    all_goals go_ret
    all_goals exact ⟨rfl, rfl⟩
  · rw [spell_sign hi]
    rw [inB_not (show ¬ ((10 : Int) ≤ (i : Int) + 30 ∧ (i : Int) + 30 ≤ 26) by omega)] at hi1
    rw [inB_iff.2 (show (30 : Int) ≤ (i : Int) + 30 ∧ (i : Int) + 30 ≤ 68 by omega)] at hi2
    have c0 := hE.signCell i hi
    rw [Nat.zero_add] at c0
    have e1 : (i : Int) + 30 - 30 = (i : Int) := by omega
    clear hE
    generalize signTab.getD i ByteArray.empty = t at *
    go_enter Tryz.func124, Tryz.ntmps124
    go_wp2_with (first | (go_at_call 149; refine (hi1.out _).mono ?_; rintro e w' ⟨rfl, hw'⟩; subst w') | (go_at_call 150; refine (hi2.out _).mono ?_; rintro e w' ⟨rfl, hw'⟩; subst w'))
    all_goals go_ret
    all_goals exact ⟨rfl, rfl⟩
  · rw [spell_none h1 h2 h3]
    rw [inB_not h2] at hi1
    rw [inB_not h3] at hi2
    go_enter Tryz.func124, Tryz.ntmps124
    go_wp2_with (first | (go_at_call 149; refine (hi1.out _).mono ?_; rintro e w' ⟨rfl, hw'⟩; subst w') | (go_at_call 150; refine (hi2.out _).mono ?_; rintro e w' ⟨rfl, hw'⟩; subst w'))
    go_ret
    exact ⟨rfl, rfl⟩
theorem implsign_any (k : Int) (w : World) (hE : WordEnv w) : Calls Tryz.prog 93 #[.int .i64 k] w fun e w' => e = .returned (.agg #[.int .i64 k, .string (spellB k), .int .i64 0]) ∧ Below w.heap.size w w' := by
  have h := hid (fun W (hb : Below w.heap.size w W) => implSpellOf_any k W (hE.below hb))
  generalize spellB k = s at *
  go_enter Tryz.func93, Tryz.ntmps93
  go_wp2_with (go_at_call 124; refine (h.out _ (by repeat (first | exact Below.refl _ _ | refine Below.alloc ?_ (by first | omega | (simp; done) | (simp; omega)) _ | refine Below.drew ?_))).mono ?_; rintro e w' ⟨rfl, hw'⟩; subst w')
  exact bodyPost_ret (v := .agg #[.int .i64 k, .string s, .int .i64 0]) (by simp [results, Tryz.results93, go_sem]) rfl ⟨rfl, by repeat (first | exact Below.refl _ _ | refine Below.alloc ?_ (by first | omega | (simp; done) | (simp; omega)) _ | refine Below.drew ?_)⟩
theorem three {W : World} {b : Nat} {T : TypeId} {v0 v1 v2 : Value} (u0 u1 u2 : Value) (h : W.heap[b]? = some (.cells #[v0, v1, v2] T (0, 0))) :
    (((W.setCell ⟨b, 0, none⟩ u0).setCell ⟨b, 1, none⟩ u1).setCell ⟨b, 2, none⟩ u2).heap[b]? = some (.cells #[u0, u1, u2] T (0, 0)) := by
  have := heap_setCell_at (j := 2) (u := u2) (heap_setCell_at (j := 1) (u := u1) (heap_setCell_at (j := 0) (u := u0) h))
  simpa using this
theorem three_done {P : Program} {fn : Func} {R : Ending → World → Prop} {a : Act} {W : World} {b : Nat} {T : TypeId} {v0 v1 v2 u0 u1 u2 : Value} (v : Value) (h : W.heap[b]? = some (.cells #[v0, v1, v2] T (0, 0)))
    (hr : ∀ W : World, W.heap[b]? = some (.cells #[u0, u1, u2] T (0, 0)) → (results fn a.tmps).run P W = .ok v W) (hd : a.defers = [])
    (hR : R (.returned v) (((W.setCell ⟨b, 0, none⟩ u0).setCell ⟨b, 1, none⟩ u1).setCell ⟨b, 2, none⟩ u2)) :
    bodyPost P fn R .ret a (((W.setCell ⟨b, 0, none⟩ u0).setCell ⟨b, 1, none⟩ u1).setCell ⟨b, 2, none⟩ u2) :=
  bodyPost_ret (hr _ (three u0 u1 u2 h)) hd hR
theorem three_below {B : Nat} {w0 W : World} {b : Nat} {u0 u1 u2 : Value} (h : Below B w0 W) (hb : B ≤ b) : Below B w0 (((W.setCell ⟨b, 0, none⟩ u0).setCell ⟨b, 1, none⟩ u1).setCell ⟨b, 2, none⟩ u2) :=
  ((h.setCell (p := ⟨b, 0, none⟩) hb _).setCell (p := ⟨b, 1, none⟩) hb _).setCell (p := ⟨b, 2, none⟩) hb _
theorem specl10Tok_any (k : Int) (w : World) : Calls Tryz.prog 79 #[.int .i64 k] w fun e w' => e = .returned (.agg #[.int .i64 k, .string (spellB k), .int .i64 0]) ∧ Below w.heap.size w w' := by
  have h := hid (fun W => specSpellOf_any k W)
  generalize spellB k = s at *
  go_enter Tryz.func79, Tryz.ntmps79
  go_wp2_with fail
  refine (h.out _).mono ?_; rintro e w1 ⟨rfl, hb⟩
  have hb2 := hid (((Below.refl w.heap.size w).alloc (Nat.le_refl _) (.cells #[.int .i64 0, .string ⟨#[]⟩, .int .i64 0] 50)).trans (hb.mono (by simp)))
  have hx := (hb.block w.heap.size (by simp)).trans (heap_alloc_new w (.cells #[.int .i64 0, .string ⟨#[]⟩, .int .i64 0] 50))
  have c0 : w1.cell? ⟨w.heap.size, 0, none⟩ = some (.int .i64 0) := box_cell hx rfl
  have c1 : w1.cell? ⟨w.heap.size, 1, none⟩ = some (.string ⟨#[]⟩) := box_cell hx rfl
  have c2 : w1.cell? ⟨w.heap.size, 2, none⟩ = some (.int .i64 0) := box_cell hx rfl
  have f0 : ∀ j, w1.frozen? ⟨w.heap.size, j, none⟩ = false := fun j => box_froz hx
  replace hx := hid hx
  clear hb
  go_wp2
  refine three_done (.agg #[.int .i64 k, .string s, .int .i64 0]) hx.out (fun W hW => ?_) rfl ⟨rfl, three_below hb2.out (Nat.le_refl _)⟩
  have z0 : W.cell? ⟨w.heap.size, 0, none⟩ = some (.int .i64 k) := box_cell hW rfl
  have z1 : W.cell? ⟨w.heap.size, 1, none⟩ = some (.string s) := box_cell hW rfl
  have z2 : W.cell? ⟨w.heap.size, 2, none⟩ = some (.int .i64 0) := box_cell hW rfl
  simp [results, Tryz.results79, go_sem, z0, z1, z2]
end Go.Proofs.YtkelhmgdajiocaaGreatDoor
