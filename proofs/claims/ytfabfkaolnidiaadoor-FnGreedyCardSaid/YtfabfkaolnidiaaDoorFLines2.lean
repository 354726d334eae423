/- Walks and lemmas of this seat (FLines2): what each theorem says of the functions that it names. Conditions: those that each theorem states. -/
import Derived.Test.YtfabfkaolnidiaaDoorFLines
import Derived.Test.YtfabfkaolnidiaaDoorShelf
import Derived.WalkSmall
namespace Go.Proofs.YtfabfkaolnidiaaDoor
set_option linter.unusedVariables false
set_option linter.unusedSimpArgs false
open Go.RowKit

/-- The library's variable MaxLen holds some number. -/
def HasMaxLen (w : World) : Prop := ∃ m, w.cell? ⟨0, 0, none⟩ = some (.int .i64 m)
theorem HasMaxLen.below {w w' : World} (h : HasMaxLen w) (hb : Below w.heap.size w w') : HasMaxLen w' := by
  obtain ⟨m, h⟩ := h
  exact ⟨m, (hb.cell (World.block_lt_of_cell? w _ h)).trans h⟩
theorem list_snoc {α : Type} {l : List α} {n : Nat} (h : l.length = n + 1) : ∃ (p : List α) (x : α), l = p ++ [x] ∧ p.length = n := by
  have hne : l ≠ [] := by intro e; rw [e] at h; simp at h
  refine ⟨l.dropLast, l.getLast hne, (List.dropLast_concat_getLast hne).symm, by rw [List.length_dropLast]; omega⟩
theorem strs_map (l : List ByteArray) : (l.map Value.string) = l.flatMap str1 := by
  induction l with
  | nil => rfl
  | cons x l ih => rw [List.map_cons, List.flatMap_cons, ih]; rfl

set_option maxRecDepth 100000 in
set_option maxHeartbeats 800000 in
theorem implLinesOf_any (s0 : ByteArray) (w : World) (hs0 : s0.size ≤ 1048576) (hM : HasMaxLen w) :
    Calls Tryd.prog 7 #[.string s0] w fun e w' => ∃ v', e = .returned v' ∧ Below w.heap.size w w' ∧ w'.ownsRow w.heap.size 9 1 v' (linesOf s0).length ((linesOf s0).flatMap str1) := by
  obtain ⟨m, hm⟩ := hM
  have hcall := Tryd.strings_Split s0 ⟨#[10]⟩ m w (by omega) hm (by decide)
  have hlen := Lib.splitB_all ⟨#[10]⟩ (by decide) 0 _ s0 rfl
  have hle := Lib.countB_le ⟨#[10]⟩ (by decide) s0.size s0 (Nat.le_refl _)
  have hlaw := hid (linesOf_split s0)
  generalize Lib.countB s0 ⟨#[10]⟩ = N at hcall hlen hlaw hle
  generalize Lib.splitB ⟨#[10]⟩ 0 N s0 = P at hcall hlen hlaw
  obtain ⟨p, x, rfl, hp⟩ := list_snoc hlen
  have hown : (w.alloc (.cells ((p ++ [x]).map Value.string).toArray 9)).ownsRow w.heap.size 9 1 (.slice (some ⟨w.heap.size, 0, none⟩) (N + 1) (N + 1)) (N + 1) ((p ++ [x]).flatMap str1) := by
    have := World.ownsRow_lit w (e := 9) (size := 1) ((p ++ [x]).map Value.string).toArray (N + 1) (base := w.heap.size) (Nat.le_refl _) (by unfold maxLen; omega) (by simp [hp])
    rw [← strs_map]
    exact this
  have hbel : Below w.heap.size w (w.alloc (.cells ((p ++ [x]).map Value.string).toArray 9)) := (Below.refl _ _).alloc (Nat.le_refl _) _
  have hcell : (w.alloc (.cells ((p ++ [x]).map Value.string).toArray 9)).cell? ⟨w.heap.size, N, none⟩ = some (.string x) := by
    rw [World.cell?_alloc_at _ _ _ _ rfl, List.getElem?_toArray, List.map_append, List.getElem?_append_right (by simp [hp])]
    simp [hp]
  generalize w.alloc (.cells ((p ++ [x]).map Value.string).toArray 9) = W1 at hcall hown hbel hcell
  have hN1 : ((N + 1 : Nat) : Int) - 1 = (N : Int) := by omega
  have hN2 : (N : Int) < ((N + 1 : Nat) : Int) := by omega
  have hwx : IntKind.wrap .i64 (N : Int) = (N : Int) := wrap_in _ (by unfold I64; omega)
  clear hlen
  by_cases hx : x = ⟨#[]⟩
  · have hem : x.toList.isEmpty = true := by rw [hx, ByteArray.toList_eq]; rfl
    have hR : Hid (linesOf s0 = p) := hid (by rw [hlaw.out, if_pos (by rw [List.getLast?_concat, hx]), List.dropLast_concat])
    clear hlaw hx
    go_enter Tryd.func7, Tryd.ntmps7
    go_wp2_with fail
    refine hcall.mono ?_; rintro e w1 ⟨rfl, rfl⟩
    go_wp2
    go_ret
    rw [hR.out, hp]
    refine ⟨_, rfl, hbel, ?_⟩
    rw [List.flatMap_append] at hown
    exact ownsRow_pop (by rw [flat_len str1 1 str1_len, hp]) hown
  · have hem : x.toList.isEmpty = false := by
      cases h : x.toList.isEmpty with
      | false => rfl
      | true => exact absurd (toList_inj.1 (by rw [List.isEmpty_iff.1 h, ByteArray.toList_eq])) hx
    have hR : Hid (linesOf s0 = p ++ [x]) := hid (by rw [hlaw.out, if_neg (by rw [List.getLast?_concat]; simpa using hx)])
    clear hlaw hx
    go_enter Tryd.func7, Tryd.ntmps7
    go_wp2_with fail
    refine hcall.mono ?_; rintro e w1 ⟨rfl, rfl⟩
    go_wp2
    go_ret
    rw [hR.out, List.length_append, hp]
    exact ⟨_, rfl, hbel, hown⟩
end Go.Proofs.YtfabfkaolnidiaaDoor
