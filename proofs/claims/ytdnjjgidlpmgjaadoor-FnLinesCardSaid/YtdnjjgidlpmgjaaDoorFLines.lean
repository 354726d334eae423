/- Walks and lemmas of this seat (FLines): what each theorem says of the functions that it names. Conditions: those that each theorem states. -/
import Derived.Test.YtdnjjgidlpmgjaaDoorPLines
import Derived.Test.YtdnjjgidlpmgjaaDoorHString
namespace Go.Proofs.YtdnjjgidlpmgjaaDoor
set_option linter.unusedVariables false
set_option linter.unusedSimpArgs false
open Go.RowKit

def mkB (l : List UInt8) : ByteArray := ⟨l.toArray⟩
/-- What stands from a place on: the part of the line from frm to i, and the rest. -/
def linesAt (s : ByteArray) (frm i : Nat) : List ByteArray := (linesAcc ((s.data.toList.drop frm).take (i - frm)) (s.data.toList.drop i)).map mkB
theorem linesAt_zero (s : ByteArray) : linesOf s = linesAt s 0 0 := by unfold linesOf linesAt; simp [mkB]
theorem byteAt {s : ByteArray} {k : Nat} (h : k < s.size) : s.data.toList[k]? = some s[k] := by
  rw [List.getElem?_eq_getElem (by simpa using h)]; rfl
theorem cur_ext (s : ByteArray) (frm i : Nat) (hi : i ≤ s.size) : mkB ((s.data.toList.drop frm).take (i - frm)) = s.extract frm i := by
  apply toList_inj.1
  rw [ByteArray.toList_eq, ByteArray.toList_eq, Lib.extract_data]
  simp [mkB, List.drop_take]
theorem linesAt_nl {s : ByteArray} {frm i : Nat} (hi : i < s.size) (h : ((s[i]).toNat : Int) = 10) : linesAt s frm i = s.extract frm i :: linesAt s (i + 1) (i + 1) := by
  unfold linesAt
  have hc : s[i] = 10 := UInt8.toNat_inj.1 (by simpa using (show (s[i]).toNat = 10 by omega))
  rw [drop_cons (byteAt hi), linesAcc, if_pos hc, List.map_cons, cur_ext s frm i (by omega)]
  simp
theorem linesAt_go {s : ByteArray} {frm i : Nat} (hi : i < s.size) (hf : frm ≤ i) (h : ¬ ((s[i]).toNat : Int) = 10) : linesAt s frm i = linesAt s frm (i + 1) := by
  unfold linesAt
  have hc : ¬ s[i] = 10 := fun e => h (by rw [e]; rfl)
  rw [drop_cons (byteAt hi), linesAcc, if_neg hc]
  congr 2
  have h2 : (s.data.toList.drop frm)[i - frm]? = some s[i] := by
    rw [List.getElem?_drop, show frm + (i - frm) = i by omega]; exact byteAt hi
  rw [show i + 1 - frm = (i - frm) + 1 by omega, take_next h2]
theorem linesAt_end {s : ByteArray} {frm : Nat} : linesAt s frm s.size = if frm < s.size then [s.extract frm s.size] else [] := by
  unfold linesAt
  have hl : s.data.toList.length = s.size := rfl
  rw [List.drop_eq_nil_of_le (show s.data.toList.length ≤ s.size by omega), linesAcc]
  by_cases h : frm < s.size
  · rw [if_pos h, if_neg]
    · rw [List.map_cons, List.map_nil, cur_ext s frm s.size (Nat.le_refl _)]
    · intro e
      have := congrArg List.length e
      simp at this
      omega
  · rw [if_neg h, if_pos]
    · rfl
    · rw [List.drop_eq_nil_of_le (by omega)]; simp

set_option maxRecDepth 100000 in
theorem specLinesOf_any (s0 : ByteArray) (w : World) (hs0 : s0.size ≤ 1048576) :
    Calls Tryd.prog 9 #[.string s0] w fun e w' => ∃ v', e = .returned v' ∧ Below w.heap.size w w' ∧ w'.ownsRow w.heap.size 9 1 v' (linesOf s0).length ((linesOf s0).flatMap str1) := by
  obtain ⟨i0, hi, hz0, hz1, hz2⟩ := info_parts Tryd.info9
  go_enter Tryd.func9, Tryd.ntmps9
  go_wp2
  go_loopw [3, 4, 5] (fun v f i wr => ∃ (k frm : Nat) (acc : List ByteArray), i = .int .i64 k ∧ f = .int .i64 frm ∧ frm ≤ k ∧ k ≤ s0.size ∧ acc.length ≤ k ∧ Below w.heap.size w wr ∧ wr.ownsRow w.heap.size 9 1 v acc.length (acc.flatMap str1) ∧ Hid (linesOf s0 = acc ++ linesAt s0 frm k)) (fun _ _ i _ => s0.size - (intOf i).toNat)
  case atStart => exact ⟨0, 0, [], rfl, rfl, by omega, by omega, by simp, by repeat (first | exact Below.refl _ _ | refine Below.alloc ?_ (by first | omega | (simp; done) | (simp; omega)) _ | refine Below.drew ?_), own_new0 _ _ _, hid (linesAt_zero s0)⟩
  obtain ⟨k, frm, acc, rfl, rfl, hf, hk, hacc, hb, hown, hrel⟩ := hrel
  have hbs := hb.size
  have hmx : s0.size ≤ maxLen := by unfold maxLen; omega
  by_cases hlt : k < s0.size
  · have hnl := hid (@linesAt_nl s0 frm k hlt)
    have hgo := hid (@linesAt_go s0 frm k hlt hf)
    go_wp2_with (at_builtin; refine wpList_append_own _ rfl _ _ 24 rfl w.heap.size 9 i0 _ 1 16 Tryd.underlying24 hi hz0 hz1 hz2 rfl (by decide) _ acc.length (acc.flatMap str1) rfl (hown.alloc _) _ _ _ (str1 (s0.extract frm k)) rfl rfl (new_cells_at _ _ _ _ _ rfl (by first | rfl | simp)) (by intro u hu; simp [str1] at hu; rcases hu with rfl | rfl | rfl | rfl | rfl <;> rfl) (by unfold maxLen; omega) (by omega) (by first | omega | (simp; done) | (simp; omega)) ?_; intro v2 w2 hown2 hgr2 hiff; clear hiff; have hb2 := app_below (hb.alloc (by first | omega | (simp; done) | (simp; omega)) _) (hown.alloc _) hgr2)
    all_goals go_roundw
    all_goals first
      | (simp [intOf]; omega)
      | exact ⟨k + 1, k + 1, acc ++ [s0.extract frm k], by go_num, by go_num, by omega, by omega, by simp; omega, hb2, by simpa using hown2, hid (by rw [hrel.out, hnl.out (by simp_all)]; simp)⟩
      | exact ⟨k + 1, frm, acc, by go_num, rfl, by omega, by omega, by omega, hb, hown, hid (by rw [hrel.out, hgo.out (by simp_all)])⟩
  · obtain rfl : k = s0.size := by omega
    have hend := hid (@linesAt_end s0 frm)
    by_cases hfl : frm < s0.size
    · have hR : Hid (linesOf s0 = acc ++ [s0.extract frm s0.size]) := hid (by rw [hrel.out, hend.out, if_pos hfl])
      clear hend hrel
      go_wp2_with (at_builtin; refine wpList_append_own _ rfl _ _ 24 rfl w.heap.size 9 i0 _ 1 16 Tryd.underlying24 hi hz0 hz1 hz2 rfl (by decide) _ acc.length (acc.flatMap str1) rfl (hown.alloc _) _ _ _ (str1 (s0.extract frm s0.size)) rfl rfl (new_cells_at _ _ _ _ _ rfl (by first | rfl | simp)) (by intro u hu; simp [str1] at hu; rcases hu with rfl | rfl | rfl | rfl | rfl <;> rfl) (by unfold maxLen; omega) (by omega) (by first | omega | (simp; done) | (simp; omega)) ?_; intro v2 w2 hown2 hgr2 hiff; clear hiff; have hb2 := app_below (hb.alloc (by first | omega | (simp; done) | (simp; omega)) _) (hown.alloc _) hgr2)
      all_goals go_ret
      all_goals (rw [hR.out]; exact ⟨_, rfl, hb2, by simpa using hown2⟩)
    · have hR : Hid (linesOf s0 = acc) := hid (by rw [hrel.out, hend.out, if_neg hfl, List.append_nil])
      clear hend hrel
      go_wp2
      go_ret
      rw [hR.out]
      exact ⟨_, rfl, hb, hown⟩
end Go.Proofs.YtdnjjgidlpmgjaaDoor
