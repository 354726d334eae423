/- Walks and lemmas of this seat (FDepth3): what each theorem says of the functions that it names. Conditions: those that each theorem states. -/
import Derived.Test.YtgmciglaapnahaaGD
namespace Go.Proofs.Ytgmciglaapnahaa
set_option linter.unusedVariables false
set_option linter.unusedSimpArgs false
open Go.RowKit

set_option maxRecDepth 100000 in
theorem implDepthOf_any (l0 : List Node) (v0 : Value) (w : World) (hx0 : ∀ x ∈ l0, x.Ok) (hn0 : bulk Node.sizes l0 ≤ 1048576) (hv0 : NodeSlc w v0 l0) :
    Calls Try.prog 10 #[v0] w fun e w' => e = .returned (.int .i64 ((depthOf l0 : Nat))) ∧ Below w.heap.size w w' := by
  have hsh := implShapeOk_any l0 v0 w hx0 hn0 hv0
  have hv := hv0
  obtain ⟨a, cap, rfl, hm, hc, hsl⟩ := hv0.shape
  by_cases hok : shapeOk (l0.map Node.kids) = true
  · have hR : Hid (depthOf l0 = (rootTree l0).depth) := hid (by unfold depthOf; rw [if_pos hok])
    obtain ⟨h1, h2, _⟩ := shapeOk_yes hok
    have hbd : (rootTree l0).depth ≤ 1048576 := by have := treeIx_depth_le (shapeOk_ahead hok) (l0.length - 1) (by omega); unfold rootTree; omega
    have hroot := hid (fun W (hb : Below w.heap.size w W) => implrootOf_any l0 _ W hx0 hn0 (hv.mono hb (Nat.le_refl _)) hok)
    rw [hok] at hsh
    replace hok := hid hok
    go_enter Try.func10, Try.ntmps10
    go_wp2_with fail
    refine hsh.mono ?_; rintro e w1 ⟨rfl, hb1⟩
    clear hsh
    go_wp2_with fail
    refine (hroot.out _ hb1).mono ?_; rintro e w2 ⟨ka, kn, kc, rfl, hb2, ht2⟩
    go_wp2_with fail
    refine (impldepth_any _ (rootTree l0) _ _ _ (Nat.lt_succ_self _) hbd ht2).mono ?_; rintro e w3 ⟨rfl, hb3⟩
    generalize (rootTree l0).depth = val at hR ⊢
    go_wp2
    go_ret
    exact ⟨ret_int (by rw [hR.out]), (hb1.trans (hb2.mono hb1.size)).trans (hb3.mono (Nat.le_trans hb1.size hb2.size))⟩
  · have hR : Hid (depthOf l0 = 0) := hid (by unfold depthOf; rw [if_neg hok])
    have hok : shapeOk (l0.map Node.kids) = false := by simpa using hok
    rw [hok] at hsh
    clear hok
    go_enter Try.func10, Try.ntmps10
    go_wp2_with fail
    refine hsh.mono ?_; rintro e w1 ⟨rfl, hb1⟩
    clear hsh
    go_wp2
    go_ret
    exact ⟨ret_int (by rw [hR.out]; rfl), hb1⟩
theorem depthOf_le (l : List Node) : depthOf l ≤ 1048576 := by
  unfold depthOf
  split
  · rename_i hok
    obtain ⟨h1, h2, _⟩ := shapeOk_yes hok
    have := treeIx_depth_le (shapeOk_ahead hok) (l.length - 1) (by omega)
    unfold rootTree
    omega
  · omega

end Go.Proofs.Ytgmciglaapnahaa
