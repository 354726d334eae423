/- Walks and lemmas of this seat (FAssigned): what each theorem says of the functions that it names. Conditions: those that each theorem states. -/
import Derived.Test.YtgmciglaapnahaaGreatDoorGH
namespace Go.Proofs.YtgmciglaapnahaaGreatDoor
set_option linter.unusedVariables false
set_option linter.unusedSimpArgs false
open Go.RowKit Go.Lib

/-! The statements whose conditions assign. -/
def condIx (k : Int) : Int := if k = 28 ∨ k = 29 then 0 else if k = 30 ∨ k = 31 then 1 else -1
def assigns (l : List Node) (x : Node) : Bool := decide (0 ≤ condIx x.kind) && kindAt l (x.kids.getD (condIx x.kind).toNat 0) == 15
def assignedIn (l : List Node) : Nat → List Node → List Int
  | _, [] => []
  | k, x :: r => if assigns l x = true then (k : Int) :: assignedIn l (k + 1) r else assignedIn l (k + 1) r
def assignedAll (l : List Node) : List Int := if treeOk l = true then assignedIn l 0 l else []
theorem assignedIn_len (l : List Node) : ∀ (r : List Node) (k : Nat), (assignedIn l k r).length ≤ r.length := by
  intro r
  induction r with
  | nil => intro k; simp [assignedIn]
  | cons x r ih => intro k; have := ih (k + 1); unfold assignedIn; split <;> simp <;> omega
theorem assignedAll_len (l : List Node) : (assignedAll l).length ≤ l.length := by
  unfold assignedAll; split
  · exact assignedIn_len l l 0
  · simp
theorem kids_two {x : Node} (h : nodeFields x = true) (hk : x.kind = 28 ∨ x.kind = 29 ∨ x.kind = 30 ∨ x.kind = 31) : 2 ≤ x.kids.length := by
  unfold nodeFields fieldsOk at h
  simp only [Bool.and_eq_true] at h
  have h2 := h.2
  unfold inB at h2
  simp only [Bool.and_eq_true, decide_eq_true_eq] at h2
  have h3 := h2.1
  rcases hk with e | e | e | e <;> rw [e] at h3 <;> simp [least] at h3 <;> omega
theorem ass_yes {l : List Node} {x : Node} {c : Nat} {m : Nat} (hc : condIx x.kind = (c : Int)) (hm : x.kids[c]? = some (m : Int)) {y : Node} (hy : l[m]? = some y) : assigns l x = (y.kind == 15) := by
  unfold assigns
  rw [hc, Int.toNat_natCast, List.getD_eq_getElem?_getD, hm]
  simp only [Option.getD_some]
  rw [kindAt_of hy]
  simp
theorem ass_no {l : List Node} {x : Node} (hc : condIx x.kind = -1) : assigns l x = false := by unfold assigns; rw [hc]; rfl
theorem cond_cases (k : Int) : ((k = 28 ∨ k = 29) ∧ condIx k = ((0 : Nat) : Int)) ∨ ((k = 30 ∨ k = 31) ∧ condIx k = ((1 : Nat) : Int)) ∨ ((¬ k = 28 ∧ ¬ k = 29 ∧ ¬ k = 30 ∧ ¬ k = 31) ∧ condIx k = -1) := by
  unfold condIx
  by_cases h : k = 28 ∨ k = 29
  · exact .inl ⟨h, by rw [if_pos h]; rfl⟩
  · by_cases h2 : k = 30 ∨ k = 31
    · exact .inr (.inl ⟨h2, by rw [if_neg h, if_pos h2]; rfl⟩)
    · exact .inr (.inr ⟨by omega, by rw [if_neg h, if_neg h2]⟩)
theorem specl25Cond_any (k op : Int) (text other : ByteArray) (kv : Value) (w : World) : Calls Tryz.prog 180 #[.agg #[.int .i64 k, .int .i64 op, .string text, .string other, kv]] w fun e w' => e = .returned (.int .i64 (condIx k)) ∧ Below w.heap.size w w' := by
  have hc : Hid (condIx k = if k = 28 ∨ k = 29 then 0 else if k = 30 ∨ k = 31 then 1 else -1) := hid rfl
  generalize condIx k = c at hc ⊢
  go_enter Tryz.func180, Tryz.ntmps180
  go_wp2
  all_goals first | go_ret | fail
  all_goals exact ⟨ret_int (by rw [hc.out]; simp_all), by repeat (first | exact Below.refl _ _ | refine Below.alloc ?_ (by first | omega | (simp; done) | (simp; omega)) _ | refine Below.drew ?_)⟩

/-- What a step of either loop needs of node k: its kid that is a condition, and that kid's kind. -/
theorem cond_kid {l : List Node} (hok : treeOk l = true) {k : Nat} {x : Node} (hx : l[k]? = some x) {c : Nat} (hc : condIx x.kind = (c : Int)) : ∃ m y, x.kids[c]? = some ((m : Nat) : Int) ∧ m < k ∧ l[m]? = some y ∧ c < x.kids.length := by
  have h1 := (treeOk_node hok (List.mem_of_getElem? hx)).1
  have h2 : 2 ≤ x.kids.length := kids_two h1 (by rcases cond_cases x.kind with ⟨h, _⟩ | ⟨h, _⟩ | ⟨_, h⟩ <;> omega)
  have hc1 : c < 2 := by rcases cond_cases x.kind with ⟨_, h⟩ | ⟨_, h⟩ | ⟨_, h⟩ <;> omega
  obtain ⟨kid, hkid⟩ := get_of_lt (show c < x.kids.length by omega)
  have h3 := shapeOk_ahead (treeOk_shape hok) k x hx kid (List.mem_of_getElem? hkid)
  have hl := (List.getElem?_eq_some_iff.1 hx).1
  obtain ⟨y, hy⟩ := get_of_lt (show kid.toNat < l.length by omega)
  exact ⟨kid.toNat, y, by rw [hkid]; congr 1; omega, h3.2, hy, by omega⟩
end Go.Proofs.YtgmciglaapnahaaGreatDoor
