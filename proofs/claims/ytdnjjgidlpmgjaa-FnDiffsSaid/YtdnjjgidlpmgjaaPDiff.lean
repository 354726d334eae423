/- Walks and lemmas of this seat (PDiff): what each theorem says of the functions that it names. Conditions: those that each theorem states. -/
import Derived.Test.YtdnjjgidlpmgjaaFDiff
import Derived.Test.YtdnjjgidlpmgjaaFSide
namespace Go.Proofs.Ytdnjjgidlpmgjaa
set_option linter.unusedVariables false
set_option linter.unusedSimpArgs false
open Go.RowKit

/-! The law of a difference: its sides are the two lists, and it keeps as much as can be kept. -/
theorem lcs_nil_l (b : List ByteArray) : lcs [] b = 0 := by cases b <;> simp [lcs]
theorem lcs_nil_r (a : List ByteArray) : lcs a [] = 0 := by cases a <;> simp [lcs]
theorem lcs_comm : ∀ (a b : List ByteArray), lcs a b = lcs b a
  | [], b => by rw [lcs_nil_l, lcs_nil_r]
  | x :: a, [] => by rw [lcs_nil_l, lcs_nil_r]
  | x :: a, y :: b => by
    have h1 := lcs_comm a b; have h2 := lcs_comm a (y :: b); have h3 := lcs_comm (x :: a) b
    rw [lcs, lcs]
    by_cases h : x.toList = y.toList
    · rw [if_pos (by simpa using h), if_pos (by simpa using h.symm), h1]
    · rw [if_neg (by simpa using h), if_neg (by simpa using fun e => h e.symm), h2, h3]; omega
/-- Does a line stand on both sides? -/
def isSame (s : ByteArray) : Bool := decide (0 < s.size) && s.data.toList.head? == some 32
theorem pre_size (c : UInt8) (x : ByteArray) : (pre c x).size = x.size + 1 := by
  unfold pre
  rw [ByteArray.size_append]
  show 1 + x.size = _
  omega
theorem pre_data (c : UInt8) (x : ByteArray) : (pre c x).data.toList = c :: x.data.toList := by
  unfold pre
  rw [ByteArray.data_append]
  simp
theorem pre_same (c : UInt8) (x : ByteArray) : isSame (pre c x) = (c == 32) := by
  unfold isSame
  rw [pre_size, pre_data]
  simp
theorem pre_first (c : UInt8) (x : ByteArray) : ((pre c x).extract 0 1).toList = [c] := by
  rw [ByteArray.toList_eq, ByteArray.data_extract, Array.toList_extract, pre_data]
  simp
theorem pre_rest (c : UInt8) (x : ByteArray) : (pre c x).extract 1 (pre c x).size = x := by
  apply toList_inj.1
  rw [ByteArray.toList_eq, ByteArray.toList_eq, ByteArray.data_extract, Array.toList_extract, pre_data, pre_size]
  simp
  exact List.take_of_length_le (Nat.le_refl x.data.toList.length)
theorem side_pre (sign : ByteArray) (c : UInt8) (x : ByteArray) (l : List ByteArray) : side sign (pre c x :: l) = if c = 32 ∨ sign.toList = [c] then x :: side sign l else side sign l := by
  rw [side, pre_rest]
  have : sideKeep sign (pre c x) = true ↔ (c = 32 ∨ sign.toList = [c]) := by
    unfold sideKeep
    rw [pre_first, pre_size]
    simp
    constructor
    · rintro (h | h)
      · exact .inl h
      · exact .inr h.symm
    · rintro (h | h)
      · exact .inl h
      · exact .inr h.symm
  by_cases h : c = 32 ∨ sign.toList = [c]
  · rw [if_pos h, if_pos (this.2 h)]
  · rw [if_neg h, if_neg (fun e => h (this.1 e))]
theorem minus_toList : (⟨#[45]⟩ : ByteArray).toList = [45] := by rw [ByteArray.toList_eq]
theorem plus_toList : (⟨#[43]⟩ : ByteArray).toList = [43] := by rw [ByteArray.toList_eq]
theorem side_minus : ∀ (a b : List ByteArray), side ⟨#[45]⟩ (diffL a b) = a
  | [], [] => by simp [diffL, side]
  | [], y :: b => by rw [diffL, side_pre, minus_toList, if_neg (by decide), side_minus [] b]
  | x :: a, [] => by rw [diffL, side_pre, minus_toList, if_pos (by decide), side_minus a []]
  | x :: a, y :: b => by
    have h1 := side_minus a b; have h2 := side_minus a (y :: b); have h3 := side_minus (x :: a) b
    rw [diffL]; split
    · rw [side_pre, minus_toList, if_pos (by decide), h1]
    · split
      · rw [side_pre, minus_toList, if_pos (by decide), h2]
      · rw [side_pre, minus_toList, if_neg (by decide), h3]
theorem side_plus : ∀ (a b : List ByteArray), side ⟨#[43]⟩ (diffL a b) = b
  | [], [] => by simp [diffL, side]
  | [], y :: b => by rw [diffL, side_pre, plus_toList, if_pos (by decide), side_plus [] b]
  | x :: a, [] => by rw [diffL, side_pre, plus_toList, if_neg (by decide), side_plus a []]
  | x :: a, y :: b => by
    have h1 := side_plus a b; have h2 := side_plus a (y :: b); have h3 := side_plus (x :: a) b
    rw [diffL]; split
    · rename_i h
      rw [side_pre, plus_toList, if_pos (by decide), h1, toList_inj.1 (show x.toList = y.toList by simpa using h)]
    · split
      · rw [side_pre, plus_toList, if_neg (by decide), h2]
      · rw [side_pre, plus_toList, if_pos (by decide), h3]
theorem diffL_same : ∀ (a b : List ByteArray), (diffL a b).countP isSame = lcs a b
  | [], [] => by simp [diffL, lcs]
  | [], y :: b => by rw [diffL, List.countP_cons, pre_same, diffL_same [] b, lcs_nil_l, lcs_nil_l]; simp
  | x :: a, [] => by rw [diffL, List.countP_cons, pre_same, diffL_same a [], lcs_nil_r, lcs_nil_r]; simp
  | x :: a, y :: b => by
    have h1 := diffL_same a b; have h2 := diffL_same a (y :: b); have h3 := diffL_same (x :: a) b
    rw [diffL, lcs]; split
    · rw [List.countP_cons, pre_same, h1]; simp
    · split
      · rw [List.countP_cons, pre_same, h2]; simp; omega
      · rw [List.countP_cons, pre_same, h3]; simp; omega
theorem diffL_length : ∀ (a b : List ByteArray), (diffL a b).length + lcs a b = a.length + b.length
  | [], [] => by simp [diffL, lcs]
  | [], y :: b => by have := diffL_length [] b; rw [lcs_nil_l] at *; rw [diffL]; simp at *; omega
  | x :: a, [] => by have := diffL_length a []; rw [lcs_nil_r] at *; rw [diffL]; simp at *; omega
  | x :: a, y :: b => by
    have h1 := diffL_length a b; have h2 := diffL_length a (y :: b); have h3 := diffL_length (x :: a) b
    rw [diffL, lcs]; split
    · simp; omega
    · split
      · simp at *; omega
      · simp at *; omega
end Go.Proofs.Ytdnjjgidlpmgjaa
