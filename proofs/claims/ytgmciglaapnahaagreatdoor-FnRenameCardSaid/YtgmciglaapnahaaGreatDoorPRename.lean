/- Walks and lemmas of this seat (PRename): what each theorem says of the functions that it names. Conditions: those that each theorem states. -/
import Derived.Test.YtgmciglaapnahaaGreatDoorGW
import Derived.Test.YtgmciglaapnahaaGreatDoorGC
import Derived.Test.YtgmciglaapnahaaGreatDoorGH
import Derived.Test.YtgmciglaapnahaaGreatDoorGP
import Derived.Test.YtgmciglaapnahaaGreatDoorGA
namespace Go.Proofs.YtgmciglaapnahaaGreatDoor
set_option linter.unusedVariables false
set_option linter.unusedSimpArgs false
open Go.RowKit Go.Lib

/-! A variable gets another name. -/
def ren (f t s : ByteArray) : ByteArray := if (s.toList == f.toList) = true then t else s
theorem ren_t {f t s : ByteArray} (h : (s.toList == f.toList) = true) : ren f t s = t := by unfold ren; rw [if_pos h]
theorem ren_f {f t s : ByteArray} (h : (s.toList == f.toList) = false) : ren f t s = s := by unfold ren; rw [if_neg (by rw [h]; simp)]
def renameN (f t : ByteArray) (x : Node) : Node := ⟨x.kind, x.op, if isTextK x.kind = true then ren f t x.text else x.text, if x.kind = 32 then ren f t x.other else x.other, x.kids⟩
def renameOkB (l : List Node) (t : ByteArray) : Bool := treeOk l && (nameOkB t && (!hasT (namesOf l) t && !hasT (funcNames l) t))
def renamed (l : List Node) (f t : ByteArray) : List Node := if renameOkB l t = true then l.map (renameN f t) else l
theorem flat_set {α : Type} (f : α → List Value) (s : Nat) (hf : ∀ x, (f x).length = s) : ∀ (q : List α) (k : Nat) (x y : α) (j : Nat) (u : Value), q[k]? = some x → j < s → (f x).set j u = f y → (q.flatMap f).set (k * s + j) u = (q.set k y).flatMap f := by
  intro q
  induction q with
  | nil => intro k x y j u h; simp at h
  | cons z q ih =>
    intro k x y j u h hj hy
    cases k with
    | zero =>
      simp at h
      subst h
      rw [Nat.zero_mul, Nat.zero_add, List.flatMap_cons, List.set_cons_zero, List.flatMap_cons, List.set_append_left _ _ (by rw [hf]; exact hj), hy]
    | succ k =>
      have h2 : q[k]? = some x := by simpa using h
      have h3 := ih k x y j u h2 hj hy
      rw [List.flatMap_cons, List.set_cons_succ, List.flatMap_cons, ← h3]
      have e : (k + 1) * s + j = (f z).length + (k * s + j) := by rw [hf, Nat.succ_mul]; omega
      rw [e, List.set_append_right _ _ (by omega)]
      congr 2
      omega
def renP (f t : ByteArray) (p : Node × Value) : Node × Value := (renameN f t p.1, p.2)
/-- The first k are renamed. -/
def mixR (f t : ByteArray) (k : Nat) (q : List (Node × Value)) : List (Node × Value) := (q.take k).map (renP f t) ++ q.drop k
theorem mixR_zero (f t : ByteArray) (q : List (Node × Value)) : mixR f t 0 q = q := by simp [mixR]
theorem mixR_all (f t : ByteArray) (q : List (Node × Value)) {k : Nat} (h : q.length ≤ k) : mixR f t k q = q.map (renP f t) := by
  unfold mixR
  rw [List.take_of_length_le h, List.drop_of_length_le h, List.append_nil]
theorem mixR_len (f t : ByteArray) (k : Nat) (q : List (Node × Value)) : (mixR f t k q).length = q.length := by
  unfold mixR
  rw [List.length_append, List.length_map, List.length_take, List.length_drop]
  omega
theorem mixR_at {f t : ByteArray} {k : Nat} {q : List (Node × Value)} {p : Node × Value} (h : q[k]? = some p) : (mixR f t k q)[k]? = some p := by
  have hk := (List.getElem?_eq_some_iff.1 h).1
  unfold mixR
  rw [List.getElem?_append_right (by rw [List.length_map, List.length_take]; omega), List.length_map, List.length_take, List.getElem?_drop, ← h]
  congr 1
  omega
theorem mixR_next {f t : ByteArray} {k : Nat} {q : List (Node × Value)} {p : Node × Value} (h : q[k]? = some p) : (mixR f t k q).set k (renP f t p) = mixR f t (k + 1) q := by
  have hk := (List.getElem?_eq_some_iff.1 h).1
  unfold mixR
  rw [drop_cons h, List.set_append_right _ _ (by rw [List.length_map, List.length_take]; omega), List.take_add_one, h]
  have e : k - ((q.take k).map (renP f t)).length = 0 := by rw [List.length_map, List.length_take]; omega
  rw [e, List.set_cons_zero]
  simp
theorem set_same_gen {α : Type} {xs : List α} {o : Nat} {v : α} (h : xs[o]? = some v) : xs.set o v = xs := by
  apply List.ext_getElem?
  intro i
  rw [List.getElem?_set]
  split
  · rename_i e
    subst e
    rw [h, if_pos (List.getElem?_eq_some_iff.1 h).1]
  · rfl
theorem findS_has (s : ByteArray) (l : List ByteArray) : decide (0 ≤ findS s l 0) = hasT l s := by
  rw [Bool.eq_iff_iff, decide_eq_true_eq, findS_iff]; rfl
theorem renamed_bulk (l : List Node) (f t : ByteArray) (ht : t.size ≤ 1048576) : (renamed l f t).length = l.length := by
  unfold renamed
  split <;> simp
end Go.Proofs.YtgmciglaapnahaaGreatDoor
