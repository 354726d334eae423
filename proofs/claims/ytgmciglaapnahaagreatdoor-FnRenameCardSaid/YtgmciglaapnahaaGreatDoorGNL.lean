/- Walks and lemmas of this seat (PNamesLaw): what each theorem says of the functions that it names. Conditions: those that each theorem states. -/
import Derived.Test.YtgmciglaapnahaaGreatDoorGW
import Derived.Test.YtgmciglaapnahaaGreatDoorGV
namespace Go.Proofs.YtgmciglaapnahaaGreatDoor
set_option linter.unusedVariables false
set_option linter.unusedSimpArgs false
open Go.RowKit

/-! The names of a list are listed once, in order, and they are all. -/
theorem count_sum {α : Type} [BEq α] [LawfulBEq α] (V : List α) : ∀ (N : List α), N.Nodup → (∀ x ∈ V, x ∈ N) → (N.map fun s => V.count s).sum = V.length := by
  intro N hN
  induction V with
  | nil =>
    intro _
    have : ∀ M : List α, (M.map fun s => ([] : List α).count s).sum = 0 := fun M => by
      induction M with
      | nil => rfl
      | cons s M ih => rw [List.map_cons, List.sum_cons, ih]; rfl
    exact this N
  | cons x V ih =>
    intro h
    have h1 := ih fun y hy => h y (by simp [hy])
    have hx := h x (by simp)
    have e : ∀ M : List α, M.Nodup → (M.map fun s => (x :: V).count s).sum = (M.map fun s => V.count s).sum + if x ∈ M then 1 else 0 := by
      intro M
      induction M with
      | nil => intro _; simp
      | cons s M ihM =>
        intro hM
        rw [List.nodup_cons] at hM
        have := ihM hM.2
        rw [List.map_cons, List.sum_cons, this, List.map_cons, List.sum_cons, List.count_cons]
        by_cases hs : x = s
        · subst hs
          rw [if_neg hM.1]
          simp
          omega
        · have : (x ∈ s :: M) ↔ x ∈ M := by simp [hs]
          simp only [this]
          have hb : (x == s) = false := by simpa using hs
          rw [hb]
          simp
          omega
    rw [e N hN, h1, if_pos hx, List.length_cons]
theorem same01_dat (t n : ByteArray) : same01 t n = if dat t = dat n then 1 else 0 := by
  unfold same01
  rw [toList_dat, toList_dat]
  by_cases h : dat t = dat n
  · rw [if_pos h, if_pos (by simpa using h)]
  · rw [if_neg h, if_neg (by simpa using h)]
theorem usesAt_count (name : ByteArray) (x : Node) : usesAt name x = ((namesAt x).map dat).count (dat name) := by
  have h0 : ∀ t : ByteArray, [dat t].count (dat name) = same01 t name := fun t => by
    rw [same01_dat, List.count_singleton]
    by_cases h : dat t = dat name
    · rw [if_pos h, if_pos (by simpa using h)]
    · rw [if_neg h, if_neg (by simpa using h)]
  unfold usesAt namesAt
  rw [List.map_append, List.count_append]
  congr 1
  · split
    · exact (h0 _).symm
    · rfl
  · split
    · exact (h0 _).symm
    · rfl
theorem usesOf_count (name : ByteArray) (l : List Node) : usesOf name l = ((vnames l).map dat).count (dat name) := by
  induction l with
  | nil => rfl
  | cons x l ih => rw [usesOf, vnames, List.map_append, List.count_append, ih, usesAt_count]
theorem namesOf_put (l : List Node) : ((namesOf l).map dat).Pairwise (· < ·) ∧ ∀ x, x ∈ (namesOf l).map dat ↔ x ∈ (vnames l).map dat := by
  have e : (namesOf l).map dat = ((vnames l).map dat).foldl (fun l s => putN s l) [] := by unfold namesOf; exact namesT_dat _
  have h := foldl_put ((vnames l).map dat) [] (by simp)
  rw [e]
  refine ⟨h.1, fun x => ?_⟩
  rw [h.2]
  simp
theorem namesOf_nodup (l : List Node) : ((namesOf l).map dat).Nodup := by
  unfold List.Nodup
  exact (namesOf_put l).1.imp fun {a b} hab (heq : a = b) => bl_irrefl a (by rw [← heq] at hab; exact hab)
/-- THE LAW: the uses of the names listed are all that there are. -/
theorem names_total (l : List Node) : ((namesOf l).map fun s => usesOf s l).sum = (vnames l).length := by
  have h := count_sum ((vnames l).map dat) _ (namesOf_nodup l) fun x hx => ((namesOf_put l).2 x).2 hx
  rw [List.length_map, List.map_map] at h
  rw [← h]
  congr 1
  exact List.map_congr_left fun s _ => by rw [usesOf_count]; rfl
theorem names_used {l : List Node} {s : ByteArray} (h : s ∈ namesOf l) : 1 ≤ usesOf s l := by
  rw [usesOf_count]
  exact List.count_pos_iff.2 (((namesOf_put l).2 _).1 (List.mem_map_of_mem h))
theorem names_asc {l : List Node} {i : Nat} {a b : ByteArray} (ha : (namesOf l)[i]? = some a) (hb : (namesOf l)[i + 1]? = some b) : dat a < dat b := by
  have h := List.pairwise_iff_getElem.1 (namesOf_put l).1 i (i + 1) (by rw [List.length_map]; exact (List.getElem?_eq_some_iff.1 ha).1) (by rw [List.length_map]; exact (List.getElem?_eq_some_iff.1 hb).1) (by omega)
  rw [List.getElem_map, List.getElem_map, (List.getElem?_eq_some_iff.1 ha).2, (List.getElem?_eq_some_iff.1 hb).2] at h
  exact h
theorem vnames_mem {l : List Node} {s : ByteArray} (h : s ∈ vnames l) : ∃ x ∈ l, s = x.text ∨ s = x.other := by
  induction l with
  | nil => simp [vnames] at h
  | cons x l ih =>
    rw [vnames] at h
    rcases List.mem_append.1 h with h | h
    · refine ⟨x, by simp, ?_⟩
      unfold namesAt at h
      rcases List.mem_append.1 h with h | h
      · split at h
        · exact .inl (List.mem_singleton.1 h)
        · simp at h
      · split at h
        · exact .inr (List.mem_singleton.1 h)
        · simp at h
    · obtain ⟨y, hy, e⟩ := ih h
      exact ⟨y, by simp [hy], e⟩
theorem namesOf_memV {l : List Node} {s : ByteArray} (h : s ∈ namesOf l) : s ∈ vnames l := by
  obtain ⟨y, hy, hd⟩ := List.mem_map.1 (((namesOf_put l).2 _).1 (List.mem_map_of_mem h))
  rw [← dat_inj hd]; exact hy
theorem sum_take_leN (f : ByteArray → Nat) : ∀ (l : List ByteArray) (k : Nat), ((l.take k).map f).sum ≤ (l.map f).sum := by
  intro l
  induction l with
  | nil => intro k; simp
  | cons x l ih =>
    intro k
    cases k with
    | zero => simp
    | succ k => have := ih k; rw [List.take_succ_cons]; simp only [List.map_cons, List.sum_cons]; omega
theorem vnames_take {l : List Node} {k : Nat} {x : Node} (h : l[k]? = some x) : (vnames (l.take (k + 1))).length = (vnames (l.take k)).length + (namesAt x).length := by
  rw [take_next h]
  generalize l.take k = L
  induction L with
  | nil => simp [vnames]
  | cons y L ih => rw [List.cons_append, vnames, vnames, List.length_append, List.length_append, ih]; omega
end Go.Proofs.YtgmciglaapnahaaGreatDoor
