/- Walks and lemmas of this seat (FIsLay): what each theorem says of the functions that it names. Conditions: those that each theorem states. -/
import Derived.Test.YtfabfkaolnidiaaFLaysI
namespace Go.Proofs.Ytfabfkaolnidiaa
set_option linter.unusedVariables false
set_option linter.unusedSimpArgs false
open Go.RowKit

/-- Is a text one of the layouts? -/
def isLayout (l : List DNode) (s : ByteArray) : Bool := decide (0 ≤ findS s (layoutsOf l) 0)
set_option maxRecDepth 100000 in
theorem specIsLayout_any (l0 : List DNode) (v0 : Value) (s1 : ByteArray) (w : World) (hx0 : ∀ x ∈ l0, x.Ok) (hn0 : bulk DNode.sizes l0 ≤ 1048576) (hv0 : DNodeSlc w v0 l0) :
    Calls Try.prog 13 #[v0, .string s1] w fun e w' => e = .returned (.bool (isLayout l0 s1)) ∧ Below w.heap.size w w' := by
  have hlay := hid (specLayouts_any l0 v0 w hx0 hn0 hv0)
  have hfind := hid fun (W : World) (v : Value) (h : W.ownsRow w.heap.size 9 1 v (layoutsOf l0).length ((layoutsOf l0).flatMap str1)) => specl3Find_any (layoutsOf l0) v s1 W (by have := layoutsOf_len l0; omega) (Slc.of_own h)
  have hlo := findS_lo s1 (layoutsOf l0) 0
  obtain ⟨a, cap, rfl, hm, hc, hsl⟩ := hv0.shape
  have hR : Hid (isLayout l0 s1 = decide (0 ≤ findS s1 (layoutsOf l0) 0)) := hid rfl
  generalize isLayout l0 s1 = b at hR ⊢
  generalize hfd : findS s1 (layoutsOf l0) 0 = fd at hfind hlo hR
  replace hfd := hid hfd
  clear hsl
  by_cases h : 0 ≤ fd
  · have hb : Hid (b = true) := hid (by rw [hR.out]; simpa using h)
    clear hR
    go_enter Try.func13, Try.ntmps13
    go_wp2_with (first
      | (go_at_call 15; refine hlay.out.mono ?_; rintro e w2 ⟨v2, rfl, hb2, ho2⟩; obtain ⟨va, vc, rfl, hvm⟩ := own_slice ho2)
      | (go_at_call 47; refine (hfind.out _ _ ho2).mono ?_; rintro e w3 ⟨rfl, rfl⟩))
    all_goals go_ret
    all_goals exact ⟨by rw [hb.out]; simp [h], hb2⟩
  · have hb : Hid (b = false) := hid (by rw [hR.out]; simpa using h)
    clear hR
    go_enter Try.func13, Try.ntmps13
    go_wp2_with (first
      | (go_at_call 15; refine hlay.out.mono ?_; rintro e w2 ⟨v2, rfl, hb2, ho2⟩; obtain ⟨va, vc, rfl, hvm⟩ := own_slice ho2)
      | (go_at_call 47; refine (hfind.out _ _ ho2).mono ?_; rintro e w3 ⟨rfl, rfl⟩))
    all_goals go_ret
    all_goals exact ⟨by rw [hb.out]; simp; omega, hb2⟩
set_option maxRecDepth 100000 in
theorem implIsLayout_any (l0 : List DNode) (v0 : Value) (s1 : ByteArray) (w : World) (hx0 : ∀ x ∈ l0, x.Ok) (hn0 : bulk DNode.sizes l0 ≤ 1048576) (hv0 : DNodeSlc w v0 l0) :
    Calls Try.prog 14 #[v0, .string s1] w fun e w' => e = .returned (.bool (isLayout l0 s1)) ∧ Below w.heap.size w w' := by
  have hlay := hid (implLayouts_any l0 v0 w hx0 hn0 hv0)
  have hfind := hid fun (W : World) (v : Value) (h : W.ownsRow w.heap.size 9 1 v (layoutsOf l0).length ((layoutsOf l0).flatMap str1)) => containsL (layoutsOf l0) v s1 W (by have := layoutsOf_len l0; omega) (Slc.of_own h)
  obtain ⟨a, cap, rfl, hm, hc, hsl⟩ := hv0.shape
  have hR : decide (0 ≤ findS s1 (layoutsOf l0) 0) = isLayout l0 s1 := rfl
  rw [hR] at hfind
  clear hR hsl
  generalize isLayout l0 s1 = b at hfind ⊢
  go_enter Try.func14, Try.ntmps14
  go_wp2_with (first
    | (go_at_call 16; refine hlay.out.mono ?_; rintro e w2 ⟨v2, rfl, hb2, ho2⟩; obtain ⟨va, vc, rfl, hvm⟩ := own_slice ho2)
    | (go_at_call 48; refine (hfind.out _ _ ho2).mono ?_; rintro e w3 ⟨rfl, rfl⟩))
  all_goals go_ret
  all_goals exact ⟨rfl, hb2⟩
end Go.Proofs.Ytfabfkaolnidiaa
