/- Walks and lemmas of this seat (PConst): what each theorem says of the functions that it names. Conditions: those that each theorem states. -/
import Derived.Test.YtkelhmgdajiocaaGreatDoorGH
namespace Go.Proofs.YtkelhmgdajiocaaGreatDoor
set_option linter.unusedVariables false
set_option linter.unusedSimpArgs false
open Go.RowKit Go.Lib

/-! Where a node's part begins, one node at a time: for trees of one and of two nodes. -/
end Go.Proofs.YtkelhmgdajiocaaGreatDoor
/- Walks and lemmas of this seat (FConst): what each theorem says of the functions that it names. Conditions: those that each theorem states. -/
namespace Go.Proofs.YtkelhmgdajiocaaGreatDoor
set_option linter.unusedVariables false
set_option linter.unusedSimpArgs false
open Go.RowKit Go.Lib

/-! Expressions that are valid: both sides. -/
def exprOkB (l : List Node) : Bool := treeOk l && isExprB (kindAt l ((l.length - 1 : Nat) : Int))
set_option maxRecDepth 100000 in
set_option maxHeartbeats 1600000 in
theorem specExprOk_any (l0 : List Node) (v0 : Value) (w : World) (hx0 : ∀ x ∈ l0, x.Ok) (hn0 : bulk Node.sizes l0 ≤ 1048576) (hv0 : NodeSlc w v0 l0) :
    Calls Tryz.prog 24 #[v0] w fun e w' => e = .returned (.bool (exprOkB l0)) ∧ Below w.heap.size w w' := by
  have hv := hv0
  have hcall := specTreeOk_any l0 v0 w hx0 hn0 hv
  obtain ⟨a, cap, rfl, hm, hc, hsl⟩ := hv0.shape
  by_cases hok : treeOk l0 = true
  · obtain ⟨h1, h2, _⟩ := shapeOk_yes (treeOk_shape hok)
    obtain ⟨n, hn⟩ : ∃ n : Nat, n = l0.length - 1 := ⟨_, rfl⟩
    have hnl : n < l0.length := by omega
    have hni : (l0.length : Int) - 1 = (n : Int) := by omega
    obtain ⟨x, ka, kc, b, off, hx, rfl, C0, C1, C2, C3, C4, hkd⟩ := hsl.at (Below.refl _ _) (Nat.le_refl _) hnl
    have hR : Hid (exprOkB l0 = isExprB x.kind) := hid (by unfold exprOkB; rw [hok, ← hn, kindAt_of hx, Bool.true_and])
    have hX := specIsExpr_any x.kind
    generalize exprOkB l0 = ans at hR ⊢
    generalize isExprB x.kind = bx at hX hR
    rw [hok] at hcall
    replace hn := hid hn
    clear hok hx hkd
    go_enter Tryz.func24, Tryz.ntmps24
    go_wp2_with (first | (go_at_call 50; refine hcall.mono ?_; rintro e w1 ⟨rfl, hb1⟩; have c0 := keepc hb1 C0) | (go_at_call 51; refine (hX _).mono ?_; rintro e w2 ⟨rfl, hw2⟩; subst w2))
    go_ret
    exact ⟨ret_bool hR.out.symm, hb1⟩
  · have hok : treeOk l0 = false := by simpa using hok
    have hR : Hid (exprOkB l0 = false) := hid (by unfold exprOkB; rw [hok, Bool.false_and])
    rw [hok] at hcall
    clear hok
    go_enter Tryz.func24, Tryz.ntmps24
    go_wp2_with (go_at_call 50; refine hcall.mono ?_; rintro e w1 ⟨rfl, hb1⟩)
    go_ret
    exact ⟨ret_bool hR.out.symm, hb1⟩
set_option maxRecDepth 100000 in
set_option maxHeartbeats 1600000 in
theorem implExprOk_any (l0 : List Node) (v0 : Value) (w : World) (hx0 : ∀ x ∈ l0, x.Ok) (hn0 : bulk Node.sizes l0 ≤ 1048576) (hv0 : NodeSlc w v0 l0) (hE : WordEnv w) :
    Calls Tryz.prog 68 #[v0] w fun e w' => e = .returned (.bool (exprOkB l0)) ∧ Below w.heap.size w w' := by
  have hv := hv0
  have hcall := implTreeOk_any l0 v0 w hx0 hn0 hv hE
  obtain ⟨a, cap, rfl, hm, hc, hsl⟩ := hv0.shape
  by_cases hok : treeOk l0 = true
  · obtain ⟨h1, h2, _⟩ := shapeOk_yes (treeOk_shape hok)
    obtain ⟨n, hn⟩ : ∃ n : Nat, n = l0.length - 1 := ⟨_, rfl⟩
    have hnl : n < l0.length := by omega
    have hni : (l0.length : Int) - 1 = (n : Int) := by omega
    obtain ⟨x, ka, kc, b, off, hx, rfl, C0, C1, C2, C3, C4, hkd⟩ := hsl.at (Below.refl _ _) (Nat.le_refl _) hnl
    have hR : Hid (exprOkB l0 = isExprB x.kind) := hid (by unfold exprOkB; rw [hok, ← hn, kindAt_of hx, Bool.true_and])
    have hX := implIsExpr_any x.kind
    generalize exprOkB l0 = ans at hR ⊢
    generalize isExprB x.kind = bx at hX hR
    rw [hok] at hcall
    replace hn := hid hn
    clear hok hx hkd
    go_enter Tryz.func68, Tryz.ntmps68
    go_wp2_with (first | (go_at_call 86; refine hcall.mono ?_; rintro e w1 ⟨rfl, hb1⟩; have c0 := keepc hb1 C0) | (go_at_call 87; refine (hX _).mono ?_; rintro e w2 ⟨rfl, hw2⟩; subst w2))
    go_ret
    exact ⟨ret_bool hR.out.symm, hb1⟩
  · have hok : treeOk l0 = false := by simpa using hok
    have hR : Hid (exprOkB l0 = false) := hid (by unfold exprOkB; rw [hok, Bool.false_and])
    rw [hok] at hcall
    clear hok
    go_enter Tryz.func68, Tryz.ntmps68
    go_wp2_with (go_at_call 86; refine hcall.mono ?_; rintro e w1 ⟨rfl, hb1⟩)
    go_ret
    exact ⟨ret_bool hR.out.symm, hb1⟩
end Go.Proofs.YtkelhmgdajiocaaGreatDoor
