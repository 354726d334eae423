/- Walks and lemmas of this seat (FLines): what each theorem says of the functions that it names. Conditions: those that each theorem states. -/
import Derived.Test.YtfabfkaolnidiaaDoorPLines
import Derived.Test.YtfabfkaolnidiaaDoorHString
namespace Go.Proofs.YtfabfkaolnidiaaDoor
set_option linter.unusedVariables false
set_option linter.unusedSimpArgs false
open Go.RowKit

def mkB (l : List UInt8) : ByteArray := ⟨l.toArray⟩
/-- What stands from a place on: the part of the line from frm to i, and the rest. -/
def linesAt (s : ByteArray) (frm i : Nat) : List ByteArray := (linesAcc ((s.data.toList.drop frm).take (i - frm)) (s.data.toList.drop i)).map mkB
theorem linesAt_zero (s : ByteArray) : linesOf s = linesAt s 0 0 := by unfold linesOf linesAt; simp [mkB]
theorem byteAt {s : ByteArray} {k : Nat} (h : k < s.size) : s.data.toList[k]? = some s[k] := by
  rw [List.getElem?_eq_getElem (by simpa using h)]; rfl
theorem cur_ext (s : ByteArray) (frm i : Nat) (hi : i ≤ s.size) : mkB ((s.data.toList.drop frm).take (i - frm)) = s.extract frm i := by
  apply toList_inj.1
  rw [ByteArray.toList_eq, ByteArray.toList_eq, Lib.extract_data]
  simp [mkB, List.drop_take]
theorem linesAt_nl {s : ByteArray} {frm i : Nat} (hi : i < s.size) (h : ((s[i]).toNat : Int) = 10) : linesAt s frm i = s.extract frm i :: linesAt s (i + 1) (i + 1) := by
  unfold linesAt
  have hc : s[i] = 10 := UInt8.toNat_inj.1 (by simpa using (show (s[i]).toNat = 10 by omega))
  rw [drop_cons (byteAt hi), linesAcc, if_pos hc, List.map_cons, cur_ext s frm i (by omega)]
  simp
theorem linesAt_go {s : ByteArray} {frm i : Nat} (hi : i < s.size) (hf : frm ≤ i) (h : ¬ ((s[i]).toNat : Int) = 10) : linesAt s frm i = linesAt s frm (i + 1) := by
  unfold linesAt
  have hc : ¬ s[i] = 10 := fun e => h (by rw [e]; rfl)
  rw [drop_cons (byteAt hi), linesAcc, if_neg hc]
  congr 2
  have h2 : (s.data.toList.drop frm)[i - frm]? = some s[i] := by
    rw [List.getElem?_drop, show frm + (i - frm) = i by omega]; exact byteAt hi
  rw [show i + 1 - frm = (i - frm) + 1 by omega, take_next h2]
theorem linesAt_end {s : ByteArray} {frm : Nat} : linesAt s frm s.size = if frm < s.size then [s.extract frm s.size] else [] := by
  unfold linesAt
  have hl : s.data.toList.length = s.size := rfl
  rw [List.drop_eq_nil_of_le (show s.data.toList.length ≤ s.size by omega), linesAcc]
  by_cases h : frm < s.size
  · rw [if_pos h, if_neg]
    · rw [List.map_cons, List.map_nil, cur_ext s frm s.size (Nat.le_refl _)]
    · intro e
      have := congrArg List.length e
      simp at this
      omega
  · rw [if_neg h, if_pos]
    · rfl
    · rw [List.drop_eq_nil_of_le (by omega)]; simp

end Go.Proofs.YtfabfkaolnidiaaDoor
