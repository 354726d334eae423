/- Walks and lemmas of this seat (FOnce): what each theorem says of the functions that it names. Conditions: those that each theorem states. -/
import Derived.Test.YtfdmfkonneonaaaFPut
namespace Go.Proofs.Ytfdmfkonneonaaa
set_option linter.unusedVariables false
set_option linter.unusedSimpArgs false
open Go.RowKit

theorem grown_putRow {α : Type} [Inhabited α] (enc : α → Value) (w : World) (q g : Nat) (d : Array α) : w.grownBy (Sort.putRow enc (Sort.ahead w q) g 0 d) (some g) := by
  refine ⟨rfl, rfl, rfl, by simp [Sort.putRow, Sort.mapBlock, Sort.ahead], fun k hk hne => ?_⟩
  have : g ≠ k := fun e => hne (by rw [e])
  simp [Sort.putRow, Sort.mapBlock, Sort.ahead, Array.getElem?_modify, this]
theorem strs_enc (l : List ByteArray) : l.flatMap str1 = (l.map dat).map encStr := by
  induction l with
  | nil => rfl
  | cons x l ih =>
    rw [List.flatMap_cons, List.map_cons, List.map_cons, ih]
    simp [str1, encStr, dat]
theorem enc_strs (l : List (List UInt8)) : l.map encStr = (l.map mkT).flatMap str1 := by
  have : (dat ∘ mkT) = id := by funext x; exact dat_mkT x
  have h2 : (l.map mkT).map dat = l := by rw [List.map_map, this, List.map_id]
  rw [strs_enc, h2]

set_option maxRecDepth 100000 in
set_option maxHeartbeats 1600000 in
/-- impl.once sorts a list of its caller's own and keeps each text once. -/
theorem implonce_any (l0 : List ByteArray) (v0 : Value) (w : World) (B : Nat) (hn0 : l0.length ≤ 4194304) (hnil : v0 ≠ .slice none 0 0) (ho : w.ownsRow B 9 1 v0 l0.length (l0.flatMap str1)) :
    Calls Try.prog 22 #[v0] w fun e w' => ∃ v', e = .returned v' ∧ w.grownBy w' v0.ownBlock ∧ w'.ownsRow B 9 1 v' (namesT l0).length ((namesT l0).flatMap str1) := by
  have ho1 := ho
  rw [strs_enc] at ho1
  obtain ⟨g, cap, rfl, hBg, hgw, hnc, hcm, hl, hH⟩ := Lib.holds_of_ownsRow ho1 hnil
  have hsort := Try.slices_Sort_string g 0 cap (l0.map dat) w hH hgw (by rw [hl]; omega)
  rw [List.length_map] at hsort
  obtain ⟨M, hM⟩ : ∃ M, M = (l0.map dat).mergeSort (fun x y => decide (x ≤ y)) := ⟨_, rfl⟩
  have hML : M.length = l0.length := by rw [hM]; simp
  have hNT := namesT_eq l0
  rw [← hM] at hsort hNT
  replace hM := hid hM
  replace hNT := hid hNT
  rcases ho1.2 with ⟨e0, _⟩ | ⟨g', cap', cur, he, hb1, hb2, h1, h2, h3, h4⟩
  · cases e0
  · injection he with e1 _ e3
    injection e1 with e1
    injection e1 with e1
    subst e1; subst e3
    go_enter Try.func22, Try.ntmps22
    go_wp2_with fail
    refine hsort.mono ?_; rintro e w1 ⟨rfl, n, os, rfl⟩
    have hown1 := ownsRow_sorted (n := n) (os := os) (ts := M) (ss := l0.map dat) (by rw [hML, List.length_map]) hBg hb2 (by rw [List.length_map]; exact h1) h2 h3
    rw [List.length_map] at hown1
    have hg1 := grownBy_sorted (w := w) (g := g) (n := n) (os := os) M.toArray
    generalize Sort.grow (Sort.putRow encStr (Sort.ahead w n) g 0 M.toArray) os = W1 at hown1 hg1 ⊢
    obtain ⟨g2, cap2, hv2, _, hg2w, hnc2, hcm2, hl2, hH2⟩ := Lib.holds_of_ownsRow hown1 (by simp)
    injection hv2 with e1 _ e3
    injection e1 with e1
    injection e1 with e1
    subst e1; subst e3
    have hcomp := Try.slices_Compact_string g 0 cap M W1 hH2 (by omega) (by omega)
    rw [hML] at hcomp
    have hlen := Lib.compact_length_le M
    rw [hML] at hlen
    go_wp2_with fail
    refine hcomp.mono ?_; rintro e w2 ⟨rfl, q, rfl⟩
    have hown2 := Lib.ownsRow_putRow (q := q) (k := (Lib.compact M).length) (ys := Lib.compact M ++ List.replicate (l0.length - (Lib.compact M).length) []) hown1 (by simp; omega) hlen
    have hg2 := grown_putRow encStr W1 q g (Lib.compact M ++ List.replicate (l0.length - (Lib.compact M).length) []).toArray
    rw [List.take_left] at hown2
    go_wp2
    go_ret
    refine ⟨_, rfl, grown_trans hg1 hg2, ?_⟩
    rw [hNT.out, List.length_map, ← enc_strs]
    exact hown2
end Go.Proofs.Ytfdmfkonneonaaa
