/- Walks and lemmas of this seat (PScopeLaw): what each theorem says of the functions that it names. Conditions: those that each theorem states. -/
import Derived.Test.YtgmciglaapnahaaGreatDoorGY
import Derived.Test.YtgmciglaapnahaaGreatDoorGNL
import Derived.Test.YtgmciglaapnahaaGreatDoorGW
import Derived.Test.YtgmciglaapnahaaGreatDoorGR
namespace Go.Proofs.YtgmciglaapnahaaGreatDoor
set_option linter.unusedVariables false
set_option linter.unusedSimpArgs false
open Go.RowKit Go.Lib

/-! Which names are among which. -/
theorem namesT_mem (L : List ByteArray) (s : ByteArray) : s ∈ namesT L ↔ s ∈ L := by
  have h := (foldl_put (L.map dat) [] List.Pairwise.nil).2 (dat s)
  have h2 : dat s ∈ (namesT L).map dat ↔ dat s ∈ L.map dat := by
    rw [namesT_dat]
    unfold namesL
    rw [h]
    simp
  have h3 : ∀ M : List ByteArray, dat s ∈ M.map dat ↔ s ∈ M := fun M => by
    constructor
    · intro hm
      obtain ⟨t, ht, e⟩ := List.mem_map.1 hm
      rw [← dat_inj e]; exact ht
    · intro hm; exact List.mem_map_of_mem hm
  rw [← h3, ← h3, h2]
theorem hasT_mem (L : List ByteArray) (s : ByteArray) : hasT L s = true ↔ s ∈ L := by
  rw [hasT_iff]
  constructor
  · intro hm
    obtain ⟨t, ht, e⟩ := List.mem_map.1 hm
    rw [← dat_inj e]; exact ht
  · intro hm; exact List.mem_map_of_mem hm
theorem unused_among {l : List Node} {i : Int} {s : ByteArray} (h : s ∈ unusedOf l i) : hasT (paramsOf l i) s = true := by
  unfold unusedOf at h
  rw [namesT_mem] at h
  exact (hasT_mem _ _).2 (List.mem_filter.1 h).1
/-- How often a text stands in a list. -/
def timesT (s : ByteArray) (L : List ByteArray) : Nat := L.countP fun x => x.toList == s.toList
theorem timesT_pos {s : ByteArray} {L : List ByteArray} (h : s ∈ L) : 1 ≤ timesT s L := by
  unfold timesT
  exact List.countP_pos_iff.2 ⟨s, h, by simp⟩
theorem dups_twice (P : List ByteArray) : ∀ (r : List ByteArray) (k : Nat), P.drop k = r → ∀ s ∈ dupsAt P k r, 2 ≤ timesT s P := by
  intro r
  induction r with
  | nil => intro k _ s hs; simp [dupsAt] at hs
  | cons x r ih =>
    intro k hk s hs
    have hk2 : P.drop (k + 1) = r := by
      rw [← List.drop_drop, hk]; rfl
    rw [dupsAt] at hs
    split at hs
    · rename_i hx
      rcases List.mem_cons.1 hs with rfl | hs
      · have h1 := timesT_pos ((hasT_mem _ _).1 hx)
        have e : timesT s P = timesT s (P.take k) + timesT s (P.drop k) := by
          unfold timesT
          rw [← List.countP_append, List.take_append_drop]
        have h2 : 1 ≤ timesT s (P.drop k) := timesT_pos (by rw [hk]; simp)
        omega
      · exact ih (k + 1) hk2 s hs
    · exact ih (k + 1) hk2 s hs
theorem repeated_twice {l : List Node} {i : Int} {s : ByteArray} (h : s ∈ repeated l i) : 2 ≤ timesT s (paramsOf l i) := by
  unfold repeated repeatedOf at h
  rw [namesT_mem] at h
  exact dups_twice _ _ 0 rfl s h
theorem undefs_fnames (L : List Node) : ∀ (l : List Node) (s : ByteArray), s ∈ undefs L l → s ∈ fnames l := by
  intro l
  induction l with
  | nil => intro s h; simp [undefs] at h
  | cons x l ih =>
    intro s h
    rw [undefs] at h
    rw [fnames]
    split at h
    · rename_i h7
      rw [if_pos (.inl h7.1)]
      rcases List.mem_cons.1 h with rfl | h
      · simp
      · exact List.mem_cons_of_mem _ (ih s h)
    · split
      · exact List.mem_cons_of_mem _ (ih s h)
      · exact ih s h
theorem undefined_among {l : List Node} {s : ByteArray} (h : s ∈ undefined l) : hasT (funcNames l) s = true := by
  unfold undefined at h
  rw [namesT_mem] at h
  rw [hasT_mem]
  unfold funcNames
  rw [namesT_mem]
  exact undefs_fnames l l s h
theorem vnames_flat (l : List Node) : vnames l = l.flatMap namesAt := by
  induction l with
  | nil => rfl
  | cons x l ih => rw [vnames, ih]; rfl
theorem part_names {l : List Node} {i : Int} {s : ByteArray} (h : s ∈ namesOf (part l i)) : s ∈ vnames l := by
  unfold namesOf at h
  rw [namesT_mem, vnames_flat] at h
  obtain ⟨y, hy, hs⟩ := List.mem_flatMap.1 h
  unfold part at hy
  split at hy
  · split at hy
    · simp at hy
    · obtain ⟨x, hx, rfl⟩ := List.mem_map.1 hy
      have hm : x ∈ l := List.mem_of_mem_drop (List.mem_of_mem_take hx)
      rw [vnames_flat]
      exact List.mem_flatMap.2 ⟨x, hm, hs⟩
  · simp at hy
theorem globs_among (l : List Node) : ∀ (ks : List Int) (s : ByteArray), s ∈ globsIn l ks → s ∈ vnames l := by
  intro ks
  induction ks with
  | nil => intro s h; simp [globsIn] at h
  | cons i ks ih =>
    intro s h
    rw [globsIn] at h
    rcases List.mem_append.1 h with h | h
    · unfold globAt at h
      split at h
      · exact part_names (List.mem_filter.1 h).1
      · exact part_names h
    · exact ih s h
theorem globals_among {l : List Node} {s : ByteArray} (h : s ∈ globalsOf l) : hasT (namesOf l) s = true := by
  unfold globalsOf at h
  split at h
  · rw [namesT_mem] at h
    rw [hasT_mem]
    unfold namesOf
    rw [namesT_mem]
    exact globs_among l _ s h
  · simp at h
end Go.Proofs.YtgmciglaapnahaaGreatDoor
