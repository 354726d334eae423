/- Walks and lemmas of this seat (PJoin): what each theorem says of the functions that it names. Conditions: those that each theorem states. -/
import Derived.Test.YtdnjjgidlpmgjaaDoorPLines
namespace Go.Proofs.YtdnjjgidlpmgjaaDoor
set_option linter.unusedVariables false
set_option linter.unusedSimpArgs false

/-- The lines with an end behind each. -/
def joinNl : List (List UInt8) → List UInt8
  | [] => []
  | x :: l => x ++ 10 :: joinNl l
theorem joinNl_append (l m : List (List UInt8)) : joinNl (l ++ m) = joinNl l ++ joinNl m := by
  induction l with
  | nil => rfl
  | cons x l ih => simp [joinNl, ih]
theorem join_lines : ∀ (l cur : List UInt8), joinNl (linesAcc cur l) = cur ++ l ∨ joinNl (linesAcc cur l) = cur ++ l ++ [10] := by
  intro l
  induction l with
  | nil =>
    intro cur
    rw [linesAcc]
    by_cases h : cur = []
    · rw [if_pos h, h]; exact .inl rfl
    · rw [if_neg h]; exact .inr (by simp [joinNl])
  | cons c l ih =>
    intro cur
    rw [linesAcc]
    by_cases hc : c = 10
    · rw [if_pos hc, hc]
      simp only [joinNl]
      rcases ih [] with h | h <;> rw [h] <;> simp
    · rw [if_neg hc]
      rcases ih (cur ++ [c]) with h | h <;> rw [h] <;> simp
def joinOf (L : List ByteArray) : List UInt8 := joinNl (L.map (·.data.toList))
theorem join_linesOf (s : ByteArray) : joinOf (linesOf s) = s.data.toList ∨ joinOf (linesOf s) = s.data.toList ++ [10] := by
  have h := join_lines s.data.toList []
  unfold joinOf linesOf
  rw [List.map_map]
  have e : (linesAcc [] s.data.toList).map ((fun x : ByteArray => x.data.toList) ∘ fun l => (⟨l.toArray⟩ : ByteArray)) = linesAcc [] s.data.toList := by
    conv => rhs; rw [← List.map_id (linesAcc [] s.data.toList)]
    apply List.map_congr_left
    intro x _
    simp
  rw [e]
  simpa using h
theorem joinOf_snoc (l : List ByteArray) (x : ByteArray) : joinOf (l ++ [x]) = joinOf l ++ x.data.toList ++ [10] := by
  unfold joinOf
  rw [List.map_append, joinNl_append]
  simp [joinNl]
theorem joinNl_prefix_len (l : List (List UInt8)) (k : Nat) : (joinNl (l.take k)).length ≤ (joinNl l).length := by
  conv => rhs; rw [← List.take_append_drop k l, joinNl_append]
  rw [List.length_append]; exact Nat.le_add_right _ _
theorem joinOf_take_len (l : List ByteArray) (k : Nat) : (joinOf (l.take k)).length ≤ (joinOf l).length := by
  unfold joinOf; rw [List.map_take]; exact joinNl_prefix_len _ _
end Go.Proofs.YtdnjjgidlpmgjaaDoor
