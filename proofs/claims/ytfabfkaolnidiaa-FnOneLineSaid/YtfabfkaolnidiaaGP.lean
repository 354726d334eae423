/- Walks and lemmas of this seat (FTiles): what each theorem says of the functions that it names. Conditions: those that each theorem states. -/
import Derived.Test.YtfabfkaolnidiaaGD
namespace Go.Proofs.Ytfabfkaolnidiaa
set_option linter.unusedVariables false
set_option linter.unusedSimpArgs false
open Go.RowKit

/-- ks lie one behind the other from b up to a: each begins where the one ahead of it ends. -/
def Tiles (s : List Nat) : List Int → Nat → Nat → Prop
  | [], b, a => b = a
  | k :: ks, b, a => ∃ j : Nat, k = (j : Int) ∧ s.getD j 0 = b ∧ j < a ∧ Tiles s ks (j + 1) a
theorem Tiles.snoc {s : List Nat} : ∀ {ks : List Int} {b a j : Nat}, Tiles s ks b (s.getD j 0) → s.getD j 0 ≤ j → Tiles s (ks ++ [(j : Int)]) b (j + 1) := by
  intro ks
  induction ks with
  | nil => intro b a j h hj; exact ⟨j, rfl, h.symm, by omega, rfl⟩
  | cons k ks ih =>
    intro b a j h hj
    obtain ⟨i, h1, h2, h3, h4⟩ := h
    exact ⟨i, h1, h2, by omega, ih (a := a) h4 hj⟩
theorem stepK_tiles' {s : List Nat} (hl : Low s) : ∀ (r : List Int) (a b : Nat), stepK s r a = some b → Tiles s r.reverse b a := by
  intro r
  induction r with
  | nil => intro a b h; simp [stepK] at h; exact h.symm
  | cons k r ih =>
    intro a b h
    rw [stepK] at h
    split at h
    · simp at h
    · rename_i hn
      obtain ⟨j, rfl⟩ : ∃ j, a = j + 1 := ⟨a - 1, by omega⟩
      obtain rfl : k = (j : Int) := by omega
      rw [List.reverse_cons]
      exact Tiles.snoc (a := 0) (ih _ _ h) (hl.getD j)
theorem stepK_tiles {s : List Nat} (hl : Low s) (ks : List Int) (a b : Nat) (h : stepK s ks.reverse a = some b) : Tiles s ks b a := by
  have := stepK_tiles' hl _ _ _ h
  simpa using this
/-- Reading behind the end does not matter. -/
theorem stepK_ext {s t : List Nat} (h : ∀ j, j < s.length → t.getD j 0 = s.getD j 0) : ∀ (ks : List Int) (a : Nat), a ≤ s.length → Low s → stepK t ks a = stepK s ks a := by
  intro ks
  induction ks with
  | nil => intro a _ _; rfl
  | cons k ks ih =>
    intro a ha hl
    rw [stepK, stepK]
    by_cases hn : k ≠ (a : Int) - 1 ∨ a = 0
    · rw [if_pos hn, if_pos hn]
    · rw [if_neg hn, if_neg hn, h (a - 1) (by omega)]
      have := hl.getD (a - 1)
      exact ih _ (by omega) hl
theorem startsL_at : ∀ (l : List (List Int)) (out s : List Nat), Low out → startsL out l = some s → (∀ j, j < out.length → s.getD j 0 = out.getD j 0) ∧ ∀ (i : Nat) (ks : List Int), l[i]? = some ks → stepK s ks.reverse (out.length + i) = some (s.getD (out.length + i) 0) := by
  intro l
  induction l with
  | nil => intro out s _ h; simp [startsL] at h; subst h; exact ⟨fun _ _ => rfl, fun i ks h => by simp at h⟩
  | cons x l ih =>
    intro out s hl hs
    rw [startsL] at hs
    split at hs
    · simp at hs
    · rename_i a ha
      have hle := stepK_le hl _ _ _ ha
      obtain ⟨h1, h2⟩ := ih _ s (hl.snoc hle) hs
      have h3 : ∀ j, j < out.length → s.getD j 0 = out.getD j 0 := fun j hj => by
        rw [h1 j (by simp; omega)]
        simp [List.getD_eq_getElem?_getD, List.getElem?_append_left hj]
      refine ⟨h3, fun i ks hi => ?_⟩
      cases i with
      | zero =>
        simp at hi; subst hi
        rw [Nat.add_zero, stepK_ext h3 _ _ (Nat.le_refl _) hl, ha, h1 _ (by simp)]
        simp [List.getD_eq_getElem?_getD]
      | succ i =>
        have := h2 i ks (by simpa using hi)
        simp only [List.length_append, List.length_singleton] at this
        rw [show out.length + (i + 1) = out.length + 1 + i by omega]
        exact this
theorem tiles_le {s : List Nat} (hl : Low s) : ∀ {ks : List Int} {b a : Nat}, Tiles s ks b a → b ≤ a := by
  intro ks
  induction ks with
  | nil => intro b a h; exact Nat.le_of_eq h
  | cons k ks ih =>
    intro b a h
    obtain ⟨j, _, h2, h3, h4⟩ := h
    have := ih h4
    have := hl.getD j
    omega
theorem starts_tilesK {l : List (List Int)} {s : List Nat} (h : starts l = some s) {i : Nat} {ks : List Int} (hx : l[i]? = some ks) : Tiles s ks (s.getD i 0) i := by
  have hl := (starts_len h).1
  have := (startsL_at _ [] s Low.nil h).2 i ks hx
  simp only [List.length_nil, Nat.zero_add] at this
  exact stepK_tiles hl _ _ _ this
end Go.Proofs.Ytfabfkaolnidiaa
