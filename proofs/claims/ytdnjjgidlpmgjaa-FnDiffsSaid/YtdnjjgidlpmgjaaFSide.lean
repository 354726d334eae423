/- Walks and lemmas of this seat (FSide): what each theorem says of the functions that it names. Conditions: those that each theorem states. -/
import Derived.Test.YtdnjjgidlpmgjaaRows
import Derived.Test.YtdnjjgidlpmgjaaHString
namespace Go.Proofs.Ytdnjjgidlpmgjaa
set_option linter.unusedVariables false
set_option linter.unusedSimpArgs false
open Go.RowKit

def sideKeep (sign s : ByteArray) : Bool := decide (0 < s.size) && ((s.extract 0 1).toList == [32] || (s.extract 0 1).toList == sign.toList)
theorem ext01 {x : ByteArray} (h : 0 < x.size) : (x.extract 0 1).toList = [x[0]] := by
  rw [ByteArray.toList_eq, ByteArray.data_extract, Array.toList_extract]
  have h2 : 0 < x.data.toList.length := by simpa using h
  rw [List.extract_eq_take_drop, List.drop_zero, show (1 - 0 : Nat) = 0 + 1 from rfl, List.take_succ_eq_append_getElem h2]
  simp
  rfl
theorem sideKeep_iff {sign x : ByteArray} (h : 0 < x.size) : sideKeep sign x = true ↔ (((x[0]).toNat : Int) = 32 ∨ (x.extract 0 1).toList = sign.toList) := by
  unfold sideKeep
  have e : ((x.extract 0 1).toList == [32]) = decide (((x[0]).toNat : Int) = 32) := by
    rw [ext01 h]
    rw [Bool.eq_iff_iff]
    simp
    constructor
    · intro h; rw [h]; rfl
    · intro h; exact UInt8.toNat_inj.1 (by simpa using (show (x[0]).toNat = 32 by omega))
  rw [e]
  simp [h]
theorem sideKeep_no {sign x : ByteArray} (h : ¬ 0 < x.size) : ¬ sideKeep sign x = true := by
  unfold sideKeep; simp [h]
theorem toList_nil {x : ByteArray} (h : ¬ 0 < x.size) : x.toList = [] := by
  rw [ByteArray.toList_eq]
  have : x.data.toList.length = 0 := by show x.data.size = 0; have : x.data.size = x.size := rfl; omega
  exact List.eq_nil_of_length_eq_zero this
theorem toList_ne {x : ByteArray} (h : 0 < x.size) : ¬ x.toList = [] := by
  rw [ByteArray.toList_eq]
  intro h'
  have : x.data.size = x.size := rfl
  have h2 : x.data.toList.length = x.size := rfl
  rw [h'] at h2; simp at h2; omega
def side (sign : ByteArray) : List ByteArray → List ByteArray
  | [] => []
  | x :: l => if sideKeep sign x = true then x.extract 1 x.size :: side sign l else side sign l

theorem side_len (sign : ByteArray) (l : List ByteArray) : (side sign l).length ≤ l.length := by
  induction l with
  | nil => simp [side]
  | cons x l ih => unfold side; split <;> simp <;> omega

set_option maxRecDepth 100000 in
theorem implSide_any (l0 : List ByteArray) (v0 : Value) (s1 : ByteArray) (w : World) (hx0 : ∀ x ∈ l0, x.size ≤ maxLen) (hn0 : bulk ByteArray.size l0 ≤ 1048576) (hv0 : Slc w v0 1 l0.length (l0.flatMap str1)) (hs1 : s1.size ≤ 1048576) :
    Calls Try.prog 39 #[v0, .string s1] w fun e w' => ∃ v', e = .returned v' ∧ Below w.heap.size w w' ∧ w'.ownsRow w.heap.size 9 1 v' (side s1 l0).length ((side s1 l0).flatMap str1) := by
  obtain ⟨_, a, cap, rfl, hc, hm, hrow⟩ := hv0
  unfold maxLen at hm
  have hn := length_bulk ByteArray.size l0
  obtain ⟨i0, hi, hz0, hz1, hz2⟩ := info_parts Try.info9
  go_enter Try.func39, Try.ntmps39
  go_wp2
  go_loopw [5, 11] (fun v i wr => ∃ (k : Nat) (acc : List ByteArray), i = .int .i64 k ∧ k ≤ l0.length ∧ acc.length ≤ k ∧ Below w.heap.size w wr ∧ wr.ownsRow w.heap.size 9 1 v acc.length (acc.flatMap str1) ∧ Hid (side s1 l0 = acc ++ side s1 (l0.drop k))) (fun _ i _ => l0.length - (intOf i).toNat)
  case atStart => exact ⟨0, [], rfl, by omega, by simp, by repeat (first | exact Below.refl _ _ | refine Below.alloc ?_ (by first | omega | (simp; done) | (simp; omega)) _ | refine Below.drew ?_), own_new0 _ _ _, hid rfl⟩
  obtain ⟨k, acc, rfl, hk, hacc, hb, hown, hrel⟩ := hrel
  by_cases hlt : k < l0.length
  · obtain ⟨x, hx⟩ := get_of_lt hlt
    obtain ⟨b, off, rfl, hro⟩ := slc_some hrow (by omega)
    have hrw := hro.mono hb (Nat.le_refl _)
    have c0 := hrw.one str1_len hx rfl
    have hmem := List.mem_of_getElem? hx
    rw [drop_cons hx] at hrel
    have HX := hid hx
    clear hx
    have hxs := hx0 x hmem
    unfold maxLen at hxs
    have hbs := hb.size
    by_cases hz : 0 < x.size
    · have hne := toList_ne hz
      have hem : x.toList.isEmpty = false := by simpa using hne
      have hks := hid (@sideKeep_iff s1 x hz)
      go_wp2_with (at_builtin; refine wpList_append_own _ rfl _ _ 34 rfl w.heap.size 9 i0 _ 1 16 Try.underlying34 hi hz0 hz1 hz2 rfl (by decide) _ acc.length (acc.flatMap str1) rfl (hown.alloc _) _ _ _ (str1 (x.extract 1 x.size)) rfl rfl (new_cells_at _ _ _ _ _ rfl (by first | rfl | simp)) (by intro u hu; simp [str1] at hu; rcases hu with rfl | rfl | rfl | rfl | rfl <;> rfl) (by unfold maxLen; omega) (by omega) (by first | omega | (simp; done) | (simp; omega)) ?_; intro v2 w2 hown2 hgr2 hiff; clear hiff; have hb2 := app_below (hb.alloc (by first | omega | (simp; done) | (simp; omega)) _) (hown.alloc _) hgr2)
      all_goals go_roundw
      all_goals first
        | (simp [intOf]; omega)
        | exact ⟨k + 1, acc ++ [x.extract 1 x.size], by go_num, by omega, by simp; omega, hb2, by simpa using hown2, hid (by rw [hrel.out, side, if_pos (hks.out.2 (by simp_all))]; simp)⟩
        | exact ⟨k + 1, acc, by go_num, by omega, by omega, hb, hown, hid (by rw [hrel.out, side, if_neg (fun h => absurd (hks.out.1 h) (by simp_all))])⟩
    · have he := toList_nil hz
      go_wp2
      go_roundw
      case rel => exact ⟨k + 1, acc, by go_num, by omega, by omega, hb, hown, hid (by rw [hrel.out, side, if_neg (sideKeep_no hz)])⟩
      case measure => simp [intOf]; omega
  · go_wp2
    go_ret
    rw [hrel.out, List.drop_of_length_le (by omega)]
    simp only [side, List.append_nil]
    exact ⟨_, rfl, hb, hown⟩

end Go.Proofs.Ytdnjjgidlpmgjaa
