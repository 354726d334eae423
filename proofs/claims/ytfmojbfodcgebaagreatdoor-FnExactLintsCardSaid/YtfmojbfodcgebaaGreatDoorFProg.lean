/- Walks and lemmas of this seat (FProg): what each theorem says of the functions that it names. Conditions: those that each theorem states. -/
import Derived.Test.YtfmojbfodcgebaaGreatDoorGH
namespace Go.Proofs.YtfmojbfodcgebaaGreatDoor
set_option linter.unusedVariables false
set_option linter.unusedSimpArgs false
open Go.RowKit Go.Lib

/-! Programs that are valid: both sides. -/
def progOkB (l : List Node) : Bool := treeOk l && kindAt l ((l.length - 1 : Nat) : Int) == 45
theorem progOk_tree {l : List Node} (h : progOkB l = true) : treeOk l = true := by unfold progOkB at h; simp only [Bool.and_eq_true] at h; exact h.1
set_option maxRecDepth 100000 in
set_option maxHeartbeats 1600000 in
theorem specProgramOk_any (l0 : List Node) (v0 : Value) (w : World) (hx0 : ∀ x ∈ l0, x.Ok) (hn0 : bulk Node.sizes l0 ≤ 1048576) (hv0 : NodeSlc w v0 l0) :
    Calls Tryz.prog 69 #[v0] w fun e w' => e = .returned (.bool (progOkB l0)) ∧ Below w.heap.size w w' := by
  have hv := hv0
  have hcall := specTreeOk_any l0 v0 w hx0 hn0 hv
  obtain ⟨a, cap, rfl, hm, hc, hsl⟩ := hv0.shape
  by_cases hok : treeOk l0 = true
  · obtain ⟨h1, h2, _⟩ := shapeOk_yes (treeOk_shape hok)
    obtain ⟨n, hn⟩ : ∃ n : Nat, n = l0.length - 1 := ⟨_, rfl⟩
    have hnl : n < l0.length := by omega
    have hni : (l0.length : Int) - 1 = (n : Int) := by omega
    obtain ⟨x, ka, kc, b, off, hx, rfl, C0, C1, C2, C3, C4, hkd⟩ := hsl.at (Below.refl _ _) (Nat.le_refl _) hnl
    have hR : Hid (progOkB l0 = (x.kind == 45)) := hid (by unfold progOkB; rw [hok, ← hn, kindAt_of hx, Bool.true_and])
    generalize progOkB l0 = ans at hR ⊢
    rw [hok] at hcall
    replace hn := hid hn
    clear hok hx hkd
    go_enter Tryz.func69, Tryz.ntmps69
    go_wp2_with (go_at_call 42; refine hcall.mono ?_; rintro e w1 ⟨rfl, hb1⟩; have c0 := keepc hb1 C0)
    go_ret
    exact ⟨ret_bool hR.out.symm, hb1⟩
  · have hok : treeOk l0 = false := by simpa using hok
    have hR : Hid (progOkB l0 = false) := hid (by unfold progOkB; rw [hok, Bool.false_and])
    rw [hok] at hcall
    clear hok
    go_enter Tryz.func69, Tryz.ntmps69
    go_wp2_with (go_at_call 42; refine hcall.mono ?_; rintro e w1 ⟨rfl, hb1⟩)
    go_ret
    exact ⟨ret_bool hR.out.symm, hb1⟩
set_option maxRecDepth 100000 in
set_option maxHeartbeats 1600000 in
theorem implProgramOk_any (l0 : List Node) (v0 : Value) (w : World) (hx0 : ∀ x ∈ l0, x.Ok) (hn0 : bulk Node.sizes l0 ≤ 1048576) (hv0 : NodeSlc w v0 l0) (hE : WordEnv w) :
    Calls Tryz.prog 74 #[v0] w fun e w' => e = .returned (.bool (progOkB l0)) ∧ Below w.heap.size w w' := by
  have hv := hv0
  have hcall := implTreeOk_any l0 v0 w hx0 hn0 hv hE
  obtain ⟨a, cap, rfl, hm, hc, hsl⟩ := hv0.shape
  by_cases hok : treeOk l0 = true
  · obtain ⟨h1, h2, _⟩ := shapeOk_yes (treeOk_shape hok)
    obtain ⟨n, hn⟩ : ∃ n : Nat, n = l0.length - 1 := ⟨_, rfl⟩
    have hnl : n < l0.length := by omega
    have hni : (l0.length : Int) - 1 = (n : Int) := by omega
    obtain ⟨x, ka, kc, b, off, hx, rfl, C0, C1, C2, C3, C4, hkd⟩ := hsl.at (Below.refl _ _) (Nat.le_refl _) hnl
    have hR : Hid (progOkB l0 = (x.kind == 45)) := hid (by unfold progOkB; rw [hok, ← hn, kindAt_of hx, Bool.true_and])
    generalize progOkB l0 = ans at hR ⊢
    rw [hok] at hcall
    replace hn := hid hn
    clear hok hx hkd
    go_enter Tryz.func74, Tryz.ntmps74
    go_wp2_with (go_at_call 49; refine hcall.mono ?_; rintro e w1 ⟨rfl, hb1⟩; have c0 := keepc hb1 C0)
    go_ret
    exact ⟨ret_bool hR.out.symm, hb1⟩
  · have hok : treeOk l0 = false := by simpa using hok
    have hR : Hid (progOkB l0 = false) := hid (by unfold progOkB; rw [hok, Bool.false_and])
    rw [hok] at hcall
    clear hok
    go_enter Tryz.func74, Tryz.ntmps74
    go_wp2_with (go_at_call 49; refine hcall.mono ?_; rintro e w1 ⟨rfl, hb1⟩)
    go_ret
    exact ⟨ret_bool hR.out.symm, hb1⟩
end Go.Proofs.YtfmojbfodcgebaaGreatDoor
