/- Walks and lemmas of this seat (FFold): what each theorem says of the functions that it names. Conditions: those that each theorem states. -/
import Derived.Test.YtmemgmcopnaogaaGreatDoorFFoldS
import Derived.Test.YtmemgmcopnaogaaGreatDoorFFoldI
import Derived.Test.YtmemgmcopnaogaaGreatDoorGH
namespace Go.Proofs.YtmemgmcopnaogaaGreatDoor
set_option linter.unusedVariables false
set_option linter.unusedSimpArgs false
open Go.RowKit

theorem foldOf_bulk (l : List Node) (hn : bulk Node.sizes l ≤ 1048576) : bulk Node.sizes (foldOf l) ≤ 1048576 := by
  unfold foldOf
  split
  · rename_i hok
    have hs := treeOk_shape hok
    obtain ⟨h1, h2, _⟩ := shapeOk_yes hs
    rw [Tree.addTo_bulk]
    exact Nat.le_trans (Tree.fold_weight _).1 (treeIx_weight hn hs (by omega))
  · simp [bulk]

set_option maxRecDepth 100000 in
set_option maxHeartbeats 1600000 in
theorem specFold_any (l0 : List Node) (v0 : Value) (w : World) (hx0 : ∀ x ∈ l0, x.Ok) (hn0 : bulk Node.sizes l0 ≤ 1048576) (hv0 : NodeSlc w v0 l0) (hE : EvalEnv w) :
    Calls Tryz.prog 22 #[v0] w fun e w' => ∃ v', e = .returned v' ∧ Below w.heap.size w w' ∧ OwnNode w' w.heap.size w'.heap.size v' (foldOf l0) := by
  have hv := hv0
  have hcall := specTreeOk_any l0 v0 w hx0 hn0 hv
  obtain ⟨a, cap, rfl, hm, hc, hsl⟩ := hv0.shape
  by_cases hok : treeOk l0 = true
  · have hs := treeOk_shape hok
    obtain ⟨h1, h2, _⟩ := shapeOk_yes hs
    obtain ⟨n, hn⟩ : ∃ n : Nat, n = l0.length - 1 := ⟨_, rfl⟩
    have hnl : n < l0.length := by omega
    have hni : (l0.length : Int) - 1 = (n : Int) := by omega
    have hR : Hid (foldOf l0 = (treeIx l0 n).fold.addTo []) := hid (by unfold foldOf rootTree; rw [if_pos hok, ← hn])
    have hdrop := hid fun W (hb : Below w.heap.size w W) => specl28Fold_any l0 _ w hv hx0 hn0 hok n hnl W hb
    generalize foldOf l0 = ans at hR ⊢
    rw [hok] at hcall
    clear hok hn hs
    go_enter Tryz.func22, Tryz.ntmps22
    go_wp2_with fail
    refine hcall.mono ?_; rintro e w1 ⟨rfl, hb1⟩
    go_wp2_with fail
    refine (hdrop.out _ hb1).mono ?_; rintro e w2 ⟨v2, rfl, hb2, ho2⟩
    have hO := hid (OwnNode.wide ho2 hb1.size)
    clear ho2
    go_wp2
    go_ret
    exact ⟨_, rfl, hb1.trans (hb2.mono hb1.size), by rw [hR.out]; exact hO.out⟩
  · have hR : Hid (foldOf l0 = []) := hid (by unfold foldOf; rw [if_neg hok])
    have hok : treeOk l0 = false := by simpa using hok
    rw [hok] at hcall
    clear hok
    go_enter Tryz.func22, Tryz.ntmps22
    go_wp2_with fail
    refine hcall.mono ?_; rintro e w1 ⟨rfl, hb1⟩
    have hbs := hb1.size
    go_wp2
    go_ret
    exact ⟨_, rfl, hb1.alloc hb1.size _, by rw [hR.out]; exact OwnNode.empty w1 w.heap.size hb1.size⟩

set_option maxRecDepth 100000 in
set_option maxHeartbeats 1600000 in
theorem implFold_any (l0 : List Node) (v0 : Value) (w : World) (hx0 : ∀ x ∈ l0, x.Ok) (hn0 : bulk Node.sizes l0 ≤ 1048576) (hv0 : NodeSlc w v0 l0) (hE : EvalEnv w) :
    Calls Tryz.prog 12 #[v0] w fun e w' => ∃ v', e = .returned v' ∧ Below w.heap.size w w' ∧ OwnNode w' w.heap.size w'.heap.size v' (foldOf l0) := by
  have hv := hv0
  have hcall := implTreeOk_any l0 v0 w hx0 hn0 hv hE.1
  obtain ⟨a, cap, rfl, hm, hc, hsl⟩ := hv0.shape
  by_cases hok : treeOk l0 = true
  · have hs := treeOk_shape hok
    obtain ⟨h1, h2, _⟩ := shapeOk_yes hs
    have hR : Hid (foldOf l0 = (rootTree l0).fold.addTo []) := hid (by unfold foldOf; rw [if_pos hok])
    have hT0 : (rootTree l0).okT = true := (tree_facts hok (by omega)).1
    have hw0 : (rootTree l0).weight ≤ 1048576 := treeIx_weight hn0 hs (by omega)
    have hbd : ((rootTree l0).fold.addTo []).length ≤ 1048576 := by
      have h3 := length_bulk Node.sizes ((rootTree l0).fold.addTo [])
      rw [Tree.addTo_bulk] at h3
      have h4 := (rootTree l0).fold_weight
      omega
    have hroot := hid (fun W (hb : Below w.heap.size w W) => implrootOf_any l0 _ W hx0 hn0 (hv.mono hb (Nat.le_refl _)) hs)
    have hplain := hid fun kv W S hT hE' => implfolded_any _ (rootTree l0) kv W S (Nat.lt_succ_self _) hw0 hT0 hT hE'
    have hlist := hid fun ka kn kc W S hT hS => impllist_any (rootTree l0).fold ka kn kc W S hT hS hbd
    generalize foldOf l0 = ans at hR ⊢
    rw [hok] at hcall
    clear hok hs
    go_enter Tryz.func12, Tryz.ntmps12
    go_wp2_with fail
    refine hcall.mono ?_; rintro e w1 ⟨rfl, hb1⟩
    go_wp2_with fail
    refine (hroot.out _ hb1).mono ?_; rintro e w2 ⟨ka, kn, kc, rfl, hb2, ht2⟩
    have hb3 := hb1.trans (hb2.mono hb1.size)
    go_wp2_with fail
    refine (hplain.out _ _ _ ht2 (hE.2.below hb3)).mono ?_; rintro e w3 ⟨ka3, kn3, kc3, rfl, hb4, ht3⟩
    have hb5 := hb3.trans (hb4.mono hb3.size)
    have ht4 := hid (ht3.keep (S' := fun b => b < w3.heap.size) fun b h hl => ⟨rfl, hl⟩)
    clear ht3
    go_wp2_with fail
    refine (hlist.out _ _ _ _ _ ht4.out (fun b h => h)).mono ?_; rintro e w4 ⟨v4, rfl, hb6, ho4⟩
    have hO := hid (OwnNode.wide ho4 hb5.size)
    clear ho4
    go_wp2
    go_ret
    exact ⟨_, rfl, hb5.trans (hb6.mono hb5.size), by rw [hR.out]; exact hO.out⟩
  · have hR : Hid (foldOf l0 = []) := hid (by unfold foldOf; rw [if_neg hok])
    have hok : treeOk l0 = false := by simpa using hok
    rw [hok] at hcall
    clear hok
    go_enter Tryz.func12, Tryz.ntmps12
    go_wp2_with fail
    refine hcall.mono ?_; rintro e w1 ⟨rfl, hb1⟩
    go_wp2
    go_ret
    exact ⟨_, rfl, hb1, by rw [hR.out]; exact OwnNode.nil _ _ _⟩
end Go.Proofs.YtmemgmcopnaogaaGreatDoor
