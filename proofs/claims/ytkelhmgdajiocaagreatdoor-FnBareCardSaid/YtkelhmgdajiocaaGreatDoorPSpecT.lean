/- Walks and lemmas of this seat (PSpecT): what each theorem says of the functions that it names. Conditions: those that each theorem states. -/
import Derived.Test.YtkelhmgdajiocaaGreatDoorGSP
import Derived.Test.YtkelhmgdajiocaaGreatDoorPSpellLaw
import Derived.Test.YtkelhmgdajiocaaGreatDoorGO
import Derived.Test.YtkelhmgdajiocaaGreatDoorGP
namespace Go.Proofs.YtkelhmgdajiocaaGreatDoor
set_option linter.unusedVariables false
set_option linter.unusedSimpArgs false
open Go.RowKit

/-! The tokens of a tree, kind by kind. Plain. -/
/-! Valid expressions. -/
def exprToks (l : List Node) (p : Pos) : List Token := if exprOkB l = true ∧ posOkB p = true then (rootTree l).tks false p else []
theorem exprOk_facts {l : List Node} (h : exprOkB l = true) : treeOk l = true ∧ (rootTree l).Ex ∧ (rootTree l).post.length = l.length ∧ 1 ≤ l.length ∧ l.length ≤ 400 ∧ (rootTree l).okT = true := by
  unfold exprOkB at h
  rw [Bool.and_eq_true, kindAt_tree] at h
  obtain ⟨hok, hk⟩ := h
  have hs := treeOk_shape hok
  obtain ⟨h1, h2, _⟩ := shapeOk_yes hs
  obtain ⟨h3, h4, h5, h6⟩ := treeOk_back hok
  exact ⟨hok, Tree.ex_of h4 hk, (list_post hs).2.symm, h1, h2, h4⟩
theorem exprToks_len (l : List Node) (p : Pos) : (exprToks l p).length ≤ 3200 := by
  unfold exprToks
  split
  · rename_i h
    obtain ⟨_, _, h3, _, h5, _⟩ := exprOk_facts h.1
    have := (rootTree l).tks_len false p
    omega
  · simp
end Go.Proofs.YtkelhmgdajiocaaGreatDoor
