/- Walks and lemmas of this seat (PNames): what each theorem says of the functions that it names. Conditions: those that each theorem states. -/
import Derived.Test.YtfdmfkonneonaaaBase
import Derived.Lib.SlicesCompact
namespace Go.Proofs.Ytfdmfkonneonaaa
set_option linter.unusedVariables false
set_option linter.unusedSimpArgs false
open Go.RowKit

/-! Names in order, each once. -/
theorem bl_trans {x y z : List UInt8} (h : x < y) (k : y < z) : x < z := List.lt_trans h k
theorem bl_irrefl (x : List UInt8) : ¬ x < x := List.lt_irrefl x
theorem bl_tri (x y : List UInt8) : x < y ∨ x = y ∨ y < x := by
  by_cases h : x < y
  · exact .inl h
  · by_cases k : y < x
    · exact .inr (.inr k)
    · exact .inr (.inl (List.le_antisymm (List.not_lt.1 k) (List.not_lt.1 h)))
/-- s in its place among others, where it is not there. -/
def ins (s : List UInt8) : List (List UInt8) → List (List UInt8)
  | [] => [s]
  | x :: l => if s < x then s :: x :: l else x :: ins s l
def putN (s : List UInt8) (l : List (List UInt8)) : List (List UInt8) := if s ∈ l then l else ins s l
/-- All names, in order. -/
def namesL (L : List (List UInt8)) : List (List UInt8) := L.foldl (fun l s => putN s l) []
theorem ins_mem (s : List UInt8) : ∀ (l : List (List UInt8)) (x : List UInt8), x ∈ ins s l ↔ x = s ∨ x ∈ l := by
  intro l
  induction l with
  | nil => intro x; simp [ins]
  | cons y l ih =>
    intro x
    rw [ins]
    split
    · simp
    · simp only [List.mem_cons, ih]
      constructor
      · rintro (h | h | h)
        · exact .inr (.inl h)
        · exact .inl h
        · exact .inr (.inr h)
      · rintro (h | h | h)
        · exact .inr (.inl h)
        · exact .inl h
        · exact .inr (.inr h)
theorem ins_sorted (s : List UInt8) : ∀ (l : List (List UInt8)), l.Pairwise (· < ·) → s ∉ l → (ins s l).Pairwise (· < ·) := by
  intro l
  induction l with
  | nil => intro _ _; simp [ins]
  | cons y l ih =>
    intro h hs
    rw [ins]
    rw [List.pairwise_cons] at h
    split
    · rename_i hlt
      rw [List.pairwise_cons]
      refine ⟨fun x hx => ?_, List.pairwise_cons.2 h⟩
      rcases List.mem_cons.1 hx with rfl | hx
      · exact hlt
      · exact bl_trans hlt (h.1 x hx)
    · rename_i hlt
      rw [List.pairwise_cons]
      refine ⟨fun x hx => ?_, ih h.2 (fun e => hs (List.mem_cons_of_mem _ e))⟩
      rcases (ins_mem s l x).1 hx with rfl | hx
      · rcases bl_tri x y with k | k | k
        · exact absurd k hlt
        · exact absurd (by rw [k]; exact List.mem_cons_self) hs
        · exact k
      · exact h.1 x hx
theorem putN_sorted {s : List UInt8} {l : List (List UInt8)} (h : l.Pairwise (· < ·)) : (putN s l).Pairwise (· < ·) := by
  unfold putN
  split
  · exact h
  · rename_i hs; exact ins_sorted s l h hs
theorem putN_mem (s : List UInt8) (l : List (List UInt8)) (x : List UInt8) : x ∈ putN s l ↔ x = s ∨ x ∈ l := by
  unfold putN
  split
  · rename_i hs
    constructor
    · exact .inr
    · rintro (rfl | h)
      · exact hs
      · exact h
  · exact ins_mem s l x
theorem foldl_put (L : List (List UInt8)) : ∀ (l : List (List UInt8)), l.Pairwise (· < ·) → (L.foldl (fun l s => putN s l) l).Pairwise (· < ·) ∧ ∀ x, x ∈ L.foldl (fun l s => putN s l) l ↔ x ∈ L ∨ x ∈ l := by
  induction L with
  | nil => intro l h; exact ⟨h, fun x => by simp⟩
  | cons s L ih =>
    intro l h
    obtain ⟨h1, h2⟩ := ih (putN s l) (putN_sorted h)
    refine ⟨h1, fun x => ?_⟩
    rw [List.foldl_cons, h2, putN_mem, List.mem_cons]
    constructor
    · rintro (h | h | h)
      · exact .inl (.inr h)
      · exact .inl (.inl h)
      · exact .inr h
    · rintro ((h | h) | h)
      · exact .inr (.inl h)
      · exact .inl h
      · exact .inr (.inr h)
theorem strict_ext : ∀ {l r : List (List UInt8)}, l.Pairwise (· < ·) → r.Pairwise (· < ·) → (∀ x, x ∈ l ↔ x ∈ r) → l = r := by
  intro l
  induction l with
  | nil =>
    intro r _ _ h
    cases r with
    | nil => rfl
    | cons y r => exact absurd ((h y).2 List.mem_cons_self) (by simp)
  | cons x l ih =>
    intro r hl hr h
    cases r with
    | nil => exact absurd ((h x).1 List.mem_cons_self) (by simp)
    | cons y r =>
      rw [List.pairwise_cons] at hl hr
      have hxy : x = y := by
        rcases List.mem_cons.1 ((h x).1 List.mem_cons_self) with e | hx
        · exact e
        · rcases List.mem_cons.1 ((h y).2 List.mem_cons_self) with e | hy
          · exact e.symm
          · exact absurd (bl_trans (hr.1 x hx) (hl.1 y hy)) (bl_irrefl y)
      subst hxy
      congr 1
      refine ih hl.2 hr.2 fun z => ?_
      constructor
      · intro hz
        rcases List.mem_cons.1 ((h z).1 (List.mem_cons_of_mem _ hz)) with e | hz'
        · subst e; exact absurd (hl.1 z hz) (bl_irrefl z)
        · exact hz'
      · intro hz
        rcases List.mem_cons.1 ((h z).2 (List.mem_cons_of_mem _ hz)) with e | hz'
        · subst e; exact absurd (hr.1 z hz) (bl_irrefl z)
        · exact hz'
theorem compactUpTo_strict (d : Array (List UInt8)) (hs : ∀ i j, i < j → j < d.size → d[i]! ≤ d[j]!) : ∀ m, m ≤ d.size → (Lib.compactUpTo d m).Pairwise (· < ·) ∧ ∀ x, x ∈ Lib.compactUpTo d m ↔ ∃ i, i < m ∧ d[i]! = x := by
  intro m
  induction m with
  | zero => intro _; simp [Lib.compactUpTo]
  | succ m ih =>
    intro hm
    obtain ⟨h1, h2⟩ := ih (by omega)
    rw [Lib.compactUpTo_succ]
    by_cases hk : Lib.keeps d m = true
    · rw [if_pos hk]
      refine ⟨pairwise_snoc h1 fun a ha => ?_, fun x => ?_⟩
      · obtain ⟨i, hi, rfl⟩ := (h2 a).1 ha
        have hne : d[m]! ≠ d[m - 1]! := by
          intro e
          rw [Lib.keeps_neg (by omega) e] at hk
          cases hk
        have hle : d[i]! ≤ d[m - 1]! := by
          by_cases e : i = m - 1
          · rw [e]; exact List.not_lt.1 (bl_irrefl _)
          · exact hs i (m - 1) (by omega) (by omega)
        have hle2 := hs (m - 1) m (by omega) (by omega)
        rcases bl_tri d[i]! d[m]! with h | h | h
        · exact h
        · exfalso
          rw [h] at hle
          exact hne (List.le_antisymm hle hle2)
        · exfalso
          have : d[i]! ≤ d[m]! := hs i m hi (by omega)
          exact List.not_lt.2 this h
      · rw [List.mem_append, h2]
        constructor
        · rintro (⟨i, hi, e⟩ | h)
          · exact ⟨i, by omega, e⟩
          · simp at h; exact ⟨m, by omega, h.symm⟩
        · rintro ⟨i, hi, e⟩
          by_cases h : i = m
          · subst h; exact .inr (by simp [e])
          · exact .inl ⟨i, by omega, e⟩
    · have hk : Lib.keeps d m = false := by simpa using hk
      rw [if_neg (by rw [hk]; simp), List.append_nil]
      refine ⟨h1, fun x => ?_⟩
      rw [h2]
      constructor
      · rintro ⟨i, hi, e⟩; exact ⟨i, by omega, e⟩
      · rintro ⟨i, hi, e⟩
        by_cases h : i = m
        · subst h
          have hpos : 0 < i := by
            apply Nat.pos_of_ne_zero
            rintro rfl
            rw [Lib.keeps_lt_one d 0 (by omega)] at hk
            cases hk
          have heq : d[i]! = d[i - 1]! := by
            apply Classical.byContradiction
            intro hne
            rw [Lib.keeps_pos hne] at hk
            cases hk
          exact ⟨i - 1, by omega, by rw [← heq]; exact e⟩
        · exact ⟨i, by omega, e⟩
/-- THE LAW: sorted, and each once, is each put in its place. -/
theorem compact_sort (L : List (List UInt8)) : Lib.compact (L.mergeSort fun x y => decide (x ≤ y)) = namesL L := by
  have hp := List.mergeSort_perm L (fun x y => decide (x ≤ y))
  have hsrt := List.pairwise_mergeSort (le := fun x y : List UInt8 => decide (x ≤ y)) (fun a b c h k => by
    simp only [decide_eq_true_eq] at *
    exact List.le_trans h k) (fun a b => by
    simp only [Bool.or_eq_true, decide_eq_true_eq]
    exact List.le_total a b) L
  generalize L.mergeSort (fun x y => decide (x ≤ y)) = M at hp hsrt
  have hs : ∀ i j, i < j → j < M.toArray.size → M.toArray[i]! ≤ M.toArray[j]! := fun i j hij hj => by
    have hj' : j < M.length := by simpa using hj
    have := List.pairwise_iff_getElem.1 hsrt i j (by omega) hj' hij
    simpa [getElem!_pos, hj', show i < M.length by omega] using this
  obtain ⟨h1, h2⟩ := compactUpTo_strict M.toArray hs M.length (by simp)
  obtain ⟨h3, h4⟩ := foldl_put L [] List.Pairwise.nil
  refine strict_ext h1 h3 fun x => ?_
  rw [show Lib.compact M = Lib.compactUpTo M.toArray M.length from rfl, h2]
  unfold namesL; rw [h4]
  simp only [List.not_mem_nil, or_false]
  rw [← hp.mem_iff]
  constructor
  · rintro ⟨i, hi, e⟩
    rw [← e]
    simp [getElem!_pos, hi]
  · intro hx
    obtain ⟨i, hi, e⟩ := List.getElem_of_mem hx
    exact ⟨i, hi, by simp [getElem!_pos, hi, e]⟩
end Go.Proofs.Ytfdmfkonneonaaa
