/- Walks and lemmas of this seat (FBare): what each theorem says of the functions that it names. Conditions: those that each theorem states. -/
import Derived.Test.YtgmciglaapnahaaGreatDoorGB
import Derived.Test.YtgmciglaapnahaaGreatDoorGP
import Derived.Test.YtgmciglaapnahaaGreatDoorGH
namespace Go.Proofs.YtgmciglaapnahaaGreatDoor
set_option linter.unusedVariables false
set_option linter.unusedSimpArgs false
open Go.RowKit

theorem noComments_bulk (l : List Node) (hn : bulk Node.sizes l ≤ 1048576) : bulk Node.sizes (noComments l) ≤ 1048576 := by
  unfold noComments
  split
  · rename_i hok
    have hs := treeOk_shape hok
    obtain ⟨h1, h2, _⟩ := shapeOk_yes hs
    rw [Tree.addTo_bulk]
    exact Nat.le_trans (Tree.bare_weight _) (treeIx_weight hn hs (by omega))
  · simp [bulk]

set_option maxRecDepth 100000 in
set_option maxHeartbeats 1600000 in
theorem specNoComments_any (l0 : List Node) (v0 : Value) (w : World) (hx0 : ∀ x ∈ l0, x.Ok) (hn0 : bulk Node.sizes l0 ≤ 1048576) (hv0 : NodeSlc w v0 l0) :
    Calls Tryz.prog 21 #[v0] w fun e w' => ∃ v', e = .returned v' ∧ Below w.heap.size w w' ∧ OwnNode w' w.heap.size w'.heap.size v' (noComments l0) := by
  have hv := hv0
  have hcall := specTreeOk_any l0 v0 w hx0 hn0 hv
  obtain ⟨a, cap, rfl, hm, hc, hsl⟩ := hv0.shape
  by_cases hok : treeOk l0 = true
  · have hs := treeOk_shape hok
    obtain ⟨h1, h2, _⟩ := shapeOk_yes hs
    obtain ⟨n, hn⟩ : ∃ n : Nat, n = l0.length - 1 := ⟨_, rfl⟩
    have hnl : n < l0.length := by omega
    have hni : (l0.length : Int) - 1 = (n : Int) := by omega
    have hR : Hid (noComments l0 = (treeIx l0 n).bare.addTo []) := hid (by unfold noComments rootTree; rw [if_pos hok, ← hn])
    have hdrop := hid fun W (hb : Below w.heap.size w W) => specl14Drop_any l0 _ w hv hx0 hn0 hs n hnl W hb
    generalize noComments l0 = ans at hR ⊢
    rw [hok] at hcall
    clear hok hn hs
    go_enter Tryz.func21, Tryz.ntmps21
    go_wp2_with fail
    refine hcall.mono ?_; rintro e w1 ⟨rfl, hb1⟩
    go_wp2_with fail
    refine (hdrop.out _ hb1).mono ?_; rintro e w2 ⟨v2, rfl, hb2, ho2⟩
    have hO := hid (OwnNode.wide ho2 hb1.size)
    clear ho2
    go_wp2
    go_ret
    exact ⟨_, rfl, hb1.trans (hb2.mono hb1.size), by rw [hR.out]; exact hO.out⟩
  · have hR : Hid (noComments l0 = []) := hid (by unfold noComments; rw [if_neg hok])
    have hok : treeOk l0 = false := by simpa using hok
    rw [hok] at hcall
    clear hok
    go_enter Tryz.func21, Tryz.ntmps21
    go_wp2_with fail
    refine hcall.mono ?_; rintro e w1 ⟨rfl, hb1⟩
    have hbs := hb1.size
    go_wp2
    go_ret
    exact ⟨_, rfl, hb1.alloc hb1.size _, by rw [hR.out]; exact OwnNode.empty w1 w.heap.size hb1.size⟩

end Go.Proofs.YtgmciglaapnahaaGreatDoor
