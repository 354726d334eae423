/- Walks and lemmas of this seat (PConst): what each theorem says of the functions that it names. Conditions: those that each theorem states. -/
import Derived.Test.YtkelhmgdajiocaaGreatDoorGH
namespace Go.Proofs.YtkelhmgdajiocaaGreatDoor
set_option linter.unusedVariables false
set_option linter.unusedSimpArgs false
open Go.RowKit Go.Lib

/-! Where a node's part begins, one node at a time: for trees of one and of two nodes. -/
theorem startsL_at1 : ∀ (l : List (List Int)) (out s : List Nat), startsL out l = some s → (∀ i, i < out.length → s[i]? = out[i]?) ∧
    ∀ (i : Nat) (ks : List Int), l[i]? = some ks → ∃ (o : List Nat) (a : Nat), o.length = out.length + i ∧ (∀ j, j < o.length → s[j]? = o[j]?) ∧ stepK o ks.reverse o.length = some a ∧ s[out.length + i]? = some a := by
  intro l
  induction l with
  | nil =>
    intro out s h
    simp only [startsL, Option.some.injEq] at h
    subst h
    exact ⟨fun _ _ => rfl, fun i ks h => by simp at h⟩
  | cons x l ih =>
    intro out s h
    rw [startsL] at h
    split at h
    · simp at h
    · rename_i a ha
      obtain ⟨h1, h2⟩ := ih _ s h
      have h3 : ∀ i, i < out.length → s[i]? = out[i]? := fun i hi => by
        rw [h1 i (by simp; omega), List.getElem?_append_left hi]
      refine ⟨h3, fun i ks hi => ?_⟩
      cases i with
      | zero =>
        simp at hi; subst hi
        refine ⟨out, a, rfl, h3, ha, ?_⟩
        rw [Nat.add_zero, h1 out.length (by simp)]
        simp
      | succ i =>
        obtain ⟨o, b, e1, e2, e3, e4⟩ := h2 i ks (by simpa using hi)
        simp at e1 e4
        exact ⟨o, b, by omega, e2, e3, by rw [show out.length + (i + 1) = out.length + 1 + i by omega]; exact e4⟩
theorem start_leaf {L : List (List Int)} {s : List Nat} (hs : starts L = some s) {i : Nat} (h : L[i]? = some []) : s[i]? = some i := by
  obtain ⟨o, a, e1, _, e3, e4⟩ := (startsL_at1 L [] s hs).2 i [] h
  simp [stepK] at e1 e3 e4
  rw [e4]; congr 1; omega
theorem start_one {L : List (List Int)} {s : List Nat} (hs : starts L = some s) {i : Nat} {k : Int} (h : L[i]? = some [k]) : 0 < i ∧ k = (i : Int) - 1 ∧ s[i]? = s[i - 1]? := by
  obtain ⟨o, a, e1, e2, e3, e4⟩ := (startsL_at1 L [] s hs).2 i [k] h
  simp at e1 e4
  simp only [List.reverse_singleton, stepK] at e3
  split at e3
  · simp at e3
  · rename_i hn
    have hi : 0 < i := by omega
    refine ⟨hi, by omega, ?_⟩
    rw [e4, e2 (i - 1) (by omega)]
    simp only [Option.some.injEq] at e3
    rw [← e3, e1, List.getD_eq_getElem?_getD]
    rw [List.getElem?_eq_getElem (by omega)]
    simp
theorem root_start {l : List Node} (h : shapeOk (l.map Node.kids) = true) : ∃ s, starts (l.map Node.kids) = some s ∧ s.getD (l.length - 1) 0 = 0 := by
  obtain ⟨_, _, s, hs⟩ := shapeOk_yes h
  refine ⟨s, hs, ?_⟩
  unfold shapeOk startsLast at h
  rw [hs] at h
  simp at h
  exact h.2
theorem fields_kids {x : Node} (h : nodeFields x = true) : inB (x.kids.length : Nat) (least x.kind x.op (x.other.size == 0)) (most x.kind x.op (x.other.size == 0)) = true := by
  unfold nodeFields fieldsOk at h
  simp only [Bool.and_eq_true] at h
  exact h.2
theorem leaf_kids {x : Node} (h : nodeFields x = true) (hk : x.kind = 2) : x.kids = [] := by
  have h1 := fields_kids h
  rw [hk] at h1
  simp [inB, most, least] at h1
  exact h1
theorem unary_kids {x : Node} (h : nodeFields x = true) (hk : x.kind = 11) : ∃ k, x.kids = [k] := by
  have h1 := fields_kids h
  rw [hk] at h1
  simp [inB, most, least] at h1
  exact list1 (by omega)
/-- A valid tree whose root is a numeral is that node alone. -/
theorem root_num {l : List Node} (hok : treeOk l = true) {x : Node} (hx : l[l.length - 1]? = some x) (hk : x.kind = 2) : l.length = 1 := by
  obtain ⟨s, hs, h0⟩ := root_start (treeOk_shape hok)
  have hl := (List.getElem?_eq_some_iff.1 hx).1
  have h1 := start_leaf hs (i := l.length - 1) (by rw [List.getElem?_map, hx, ← leaf_kids (treeOk_node hok (List.mem_of_getElem? hx)).1 hk]; rfl)
  rw [List.getD_eq_getElem?_getD, h1] at h0
  simp at h0
  omega
/-- A valid tree whose root is a sign over a numeral is these two. -/
theorem root_sign {l : List Node} (hok : treeOk l = true) {x : Node} (hx : l[l.length - 1]? = some x) (hk : x.kind = 11) : ∃ y, 2 ≤ l.length ∧ x.kids = [((l.length - 2 : Nat) : Int)] ∧ l[l.length - 2]? = some y ∧ (y.kind = 2 → l.length = 2) := by
  obtain ⟨s, hs, h0⟩ := root_start (treeOk_shape hok)
  have hl := (List.getElem?_eq_some_iff.1 hx).1
  obtain ⟨k, hkk⟩ := unary_kids (treeOk_node hok (List.mem_of_getElem? hx)).1 hk
  obtain ⟨h1, h2, h3⟩ := start_one hs (i := l.length - 1) (k := k) (by rw [List.getElem?_map, hx, ← hkk]; rfl)
  obtain ⟨y, hy⟩ := get_of_lt (show l.length - 2 < l.length by omega)
  refine ⟨y, by omega, by rw [hkk, h2]; congr 1; omega, hy, fun hy2 => ?_⟩
  have h4 := start_leaf hs (i := l.length - 2) (by rw [List.getElem?_map, hy, ← leaf_kids (treeOk_node hok (List.mem_of_getElem? hy)).1 hy2]; rfl)
  rw [List.getD_eq_getElem?_getD, h3, show l.length - 1 - 1 = l.length - 2 by omega, h4] at h0
  simp at h0
  omega
end Go.Proofs.YtkelhmgdajiocaaGreatDoor
/- Walks and lemmas of this seat (FConst): what each theorem says of the functions that it names. Conditions: those that each theorem states. -/
namespace Go.Proofs.YtkelhmgdajiocaaGreatDoor
set_option linter.unusedVariables false
set_option linter.unusedSimpArgs false
open Go.RowKit Go.Lib

/-! Expressions that are valid: both sides. -/
def exprOkB (l : List Node) : Bool := treeOk l && isExprB (kindAt l ((l.length - 1 : Nat) : Int))
set_option maxRecDepth 100000 in
set_option maxHeartbeats 1600000 in
theorem specExprOk_any (l0 : List Node) (v0 : Value) (w : World) (hx0 : ∀ x ∈ l0, x.Ok) (hn0 : bulk Node.sizes l0 ≤ 1048576) (hv0 : NodeSlc w v0 l0) :
    Calls Tryz.prog 24 #[v0] w fun e w' => e = .returned (.bool (exprOkB l0)) ∧ Below w.heap.size w w' := by
  have hv := hv0
  have hcall := specTreeOk_any l0 v0 w hx0 hn0 hv
  obtain ⟨a, cap, rfl, hm, hc, hsl⟩ := hv0.shape
  by_cases hok : treeOk l0 = true
  · obtain ⟨h1, h2, _⟩ := shapeOk_yes (treeOk_shape hok)
    obtain ⟨n, hn⟩ : ∃ n : Nat, n = l0.length - 1 := ⟨_, rfl⟩
    have hnl : n < l0.length := by omega
    have hni : (l0.length : Int) - 1 = (n : Int) := by omega
    obtain ⟨x, ka, kc, b, off, hx, rfl, C0, C1, C2, C3, C4, hkd⟩ := hsl.at (Below.refl _ _) (Nat.le_refl _) hnl
    have hR : Hid (exprOkB l0 = isExprB x.kind) := hid (by unfold exprOkB; rw [hok, ← hn, kindAt_of hx, Bool.true_and])
    have hX := specIsExpr_any x.kind
    generalize exprOkB l0 = ans at hR ⊢
    generalize isExprB x.kind = bx at hX hR
    rw [hok] at hcall
    replace hn := hid hn
    clear hok hx hkd
    go_enter Tryz.func24, Tryz.ntmps24
    go_wp2_with (first | (go_at_call 50; refine hcall.mono ?_; rintro e w1 ⟨rfl, hb1⟩; have c0 := keepc hb1 C0) | (go_at_call 51; refine (hX _).mono ?_; rintro e w2 ⟨rfl, hw2⟩; subst w2))
    go_ret
    exact ⟨ret_bool hR.out.symm, hb1⟩
  · have hok : treeOk l0 = false := by simpa using hok
    have hR : Hid (exprOkB l0 = false) := hid (by unfold exprOkB; rw [hok, Bool.false_and])
    rw [hok] at hcall
    clear hok
    go_enter Tryz.func24, Tryz.ntmps24
    go_wp2_with (go_at_call 50; refine hcall.mono ?_; rintro e w1 ⟨rfl, hb1⟩)
    go_ret
    exact ⟨ret_bool hR.out.symm, hb1⟩
set_option maxRecDepth 100000 in
set_option maxHeartbeats 1600000 in
theorem implExprOk_any (l0 : List Node) (v0 : Value) (w : World) (hx0 : ∀ x ∈ l0, x.Ok) (hn0 : bulk Node.sizes l0 ≤ 1048576) (hv0 : NodeSlc w v0 l0) (hE : WordEnv w) :
    Calls Tryz.prog 68 #[v0] w fun e w' => e = .returned (.bool (exprOkB l0)) ∧ Below w.heap.size w w' := by
  have hv := hv0
  have hcall := implTreeOk_any l0 v0 w hx0 hn0 hv hE
  obtain ⟨a, cap, rfl, hm, hc, hsl⟩ := hv0.shape
  by_cases hok : treeOk l0 = true
  · obtain ⟨h1, h2, _⟩ := shapeOk_yes (treeOk_shape hok)
    obtain ⟨n, hn⟩ : ∃ n : Nat, n = l0.length - 1 := ⟨_, rfl⟩
    have hnl : n < l0.length := by omega
    have hni : (l0.length : Int) - 1 = (n : Int) := by omega
    obtain ⟨x, ka, kc, b, off, hx, rfl, C0, C1, C2, C3, C4, hkd⟩ := hsl.at (Below.refl _ _) (Nat.le_refl _) hnl
    have hR : Hid (exprOkB l0 = isExprB x.kind) := hid (by unfold exprOkB; rw [hok, ← hn, kindAt_of hx, Bool.true_and])
    have hX := implIsExpr_any x.kind
    generalize exprOkB l0 = ans at hR ⊢
    generalize isExprB x.kind = bx at hX hR
    rw [hok] at hcall
    replace hn := hid hn
    clear hok hx hkd
    go_enter Tryz.func68, Tryz.ntmps68
    go_wp2_with (first | (go_at_call 86; refine hcall.mono ?_; rintro e w1 ⟨rfl, hb1⟩; have c0 := keepc hb1 C0) | (go_at_call 87; refine (hX _).mono ?_; rintro e w2 ⟨rfl, hw2⟩; subst w2))
    go_ret
    exact ⟨ret_bool hR.out.symm, hb1⟩
  · have hok : treeOk l0 = false := by simpa using hok
    have hR : Hid (exprOkB l0 = false) := hid (by unfold exprOkB; rw [hok, Bool.false_and])
    rw [hok] at hcall
    clear hok
    go_enter Tryz.func68, Tryz.ntmps68
    go_wp2_with (go_at_call 86; refine hcall.mono ?_; rintro e w1 ⟨rfl, hb1⟩)
    go_ret
    exact ⟨ret_bool hR.out.symm, hb1⟩
end Go.Proofs.YtkelhmgdajiocaaGreatDoor
