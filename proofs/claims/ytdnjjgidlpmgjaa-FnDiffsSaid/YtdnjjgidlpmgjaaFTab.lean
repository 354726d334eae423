/- Walks and lemmas of this seat (FTab): what each theorem says of the functions that it names. Conditions: those that each theorem states. -/
import Derived.Test.YtdnjjgidlpmgjaaRows
import Derived.Test.YtdnjjgidlpmgjaaHInt
import Derived.Test.YtdnjjgidlpmgjaaHString
import Derived.Deep.OwnRows
namespace Go.Proofs.Ytdnjjgidlpmgjaa
set_option linter.unusedVariables false
set_option linter.unusedSimpArgs false
open Go.RowKit

/-- The length of a longest common subsequence. -/
def lcs : List ByteArray → List ByteArray → Nat
  | [], _ => 0
  | _ :: _, [] => 0
  | x :: a, y :: b => if (x.toList == y.toList) = true then lcs a b + 1 else max (lcs a (y :: b)) (lcs (x :: a) b)
theorem lcs_le : ∀ (a b : List ByteArray), lcs a b ≤ a.length ∧ lcs a b ≤ b.length
  | [], _ => by simp [lcs]
  | _ :: _, [] => by simp [lcs]
  | x :: a, y :: b => by
    have h1 := lcs_le a b; have h2 := lcs_le a (y :: b); have h3 := lcs_le (x :: a) b
    unfold lcs; split <;> simp at * <;> omega
def lcsAt (a b : List ByteArray) (i j : Nat) : Nat := lcs (a.drop i) (b.drop j)
theorem lcsAt_le (a b : List ByteArray) (i j : Nat) : lcsAt a b i j ≤ a.length := by
  have := (lcs_le (a.drop i) (b.drop j)).1; simp at this; unfold lcsAt; omega
theorem lcsAt_n (a b : List ByteArray) (i j : Nat) (h : a.length ≤ i) : lcsAt a b i j = 0 := by
  unfold lcsAt; rw [List.drop_of_length_le h, lcs]
theorem lcsAt_m (a b : List ByteArray) (i j : Nat) (h : b.length ≤ j) : lcsAt a b i j = 0 := by
  unfold lcsAt; rw [List.drop_of_length_le h]; cases a.drop i <;> simp [lcs]
theorem lcsAt_eq {a b : List ByteArray} {i j : Nat} {x y : ByteArray} (hx : a[i]? = some x) (hy : b[j]? = some y) (h : (x.toList == y.toList) = true) : lcsAt a b i j = lcsAt a b (i + 1) (j + 1) + 1 := by
  unfold lcsAt; rw [drop_cons hx, drop_cons hy, lcs, if_pos h]
theorem lcsAt_ne {a b : List ByteArray} {i j : Nat} {x y : ByteArray} (hx : a[i]? = some x) (hy : b[j]? = some y) (h : (x.toList == y.toList) = false) : lcsAt a b i j = max (lcsAt a b (i + 1) j) (lcsAt a b i (j + 1)) := by
  have h' : ¬ (x.toList == y.toList) = true := by rw [h]; simp
  unfold lcsAt
  rw [drop_cons hx, drop_cons hy, lcs, if_neg h', ← drop_cons hx, ← drop_cons hy]

/-- The table while it is filled: the rows that 'P' names are made, row i lies in block R i and holds M i. -/
structure Tab (w wr : World) (n m : Nat) (R : Nat → Nat) (P : Nat → Bool) (M : Nat → Nat → Nat) : Prop where
  below : Below w.heap.size w wr
  top : wr.rowIs w.heap.size 47 (n + 1) (fun i => if P i = true then .slice (some ⟨R i, 0, none⟩) (m + 1) (m + 1) else .slice none 0 0)
  rows : ∀ i, P i = true → i ≤ n → wr.rowIs (R i) 3 (m + 1) (fun j => .int .i64 (M i j))
  base : ∀ i, P i = true → i ≤ n → w.heap.size < R i
  inj : ∀ i i', i ≤ n → i' ≤ n → R i = R i' → i = i'
theorem Tab.congr {w wr : World} {n m : Nat} {R : Nat → Nat} {P P' : Nat → Bool} {M M' : Nat → Nat → Nat} (h : Tab w wr n m R P M) (hp : ∀ i, i ≤ n → P i = P' i) (hm : ∀ i j, i ≤ n → P i = true → j ≤ m → M i j = M' i j) : Tab w wr n m R P' M' :=
  ⟨h.below, h.top.congr fun i hi => by rw [hp i (by omega)], fun i hi hn => (h.rows i (by rw [hp i hn]; exact hi) hn).congr fun j hj => by rw [hm i j hn (by rw [hp i hn]; exact hi) (by omega)],
    fun i hi hn => h.base i (by rw [hp i hn]; exact hi) hn, h.inj⟩
theorem Tab.drewN {w wr : World} {n m : Nat} {R : Nat → Nat} {P : Nat → Bool} {M : Nat → Nat → Nat} (h : Tab w wr n m R P M) (k : Nat) : Tab w (wr.drewN k) n m R P M :=
  ⟨below_drewN h.below k, h.top, h.rows, h.base, h.inj⟩
theorem Tab.drew {w wr : World} {n m : Nat} {R : Nat → Nat} {P : Nat → Bool} {M : Nat → Nat → Nat} (h : Tab w wr n m R P M) : Tab w wr.drew n m R P M :=
  ⟨h.below.drew, h.top, h.rows, h.base, h.inj⟩
theorem Tab.set {w wr : World} {n m : Nat} {R : Nat → Nat} {P : Nat → Bool} {M : Nat → Nat → Nat} (h : Tab w wr n m R P M) (i j v : Nat) (hp : P i = true) (hi : i ≤ n) :
    Tab w (wr.setCell ⟨R i, j, none⟩ (.int .i64 v)) n m R P (fun i' j' => if i' = i ∧ j' = j then v else M i' j') := by
  have hb := h.base i hp hi
  refine ⟨h.below.trans ((Below.refl _ _).setCell (by show w.heap.size ≤ R i; omega) _), h.top.setOther (by show w.heap.size ≠ R i; omega) _, fun i' hp' hn => ?_, h.base, h.inj⟩
  by_cases e : i' = i
  · subst e
    exact ((h.rows i' hp' hn).set j _).congr fun j' hj => by by_cases e : j' = j <;> simp [e]
  · exact ((h.rows i' hp' hn).setOther (by show R i' ≠ R i; exact fun e' => e (h.inj _ _ hn hi e')) _).congr fun j' hj => by simp [e]
theorem Tab.start (w : World) (n m : Nat) (R : Nat → Nat) (M : Nat → Nat → Nat) (hinj : ∀ i i', i ≤ n → i' ≤ n → R i = R i' → i = i') :
    Tab w (w.alloc (.cells (madeCells #[.slice none 0 0] (n + 1)) 47)) n m R (fun _ => false) M :=
  ⟨(Below.refl _ _).alloc (Nat.le_refl _) _, (World.rowIs_made w _ (n + 1) 47).congr fun i hi => by simp, fun i h => by simp at h, fun i h => by simp at h, hinj⟩
/-- A row is made. -/
theorem Tab.make {w wr : World} {n m : Nat} {R : Nat → Nat} {P : Nat → Bool} {M : Nat → Nat → Nat} (h : Tab w wr n m R P M) (i : Nat) (hi : i ≤ n) (hR : R i = wr.heap.size) (hM : ∀ j, j ≤ m → M i j = 0) :
    Tab w ((wr.alloc (.cells (madeCells #[.int .i64 0] (m + 1)) 3)).setCell ⟨w.heap.size, i, none⟩ (.slice (some ⟨R i, 0, none⟩) (m + 1) (m + 1))) n m R (fun k => P k || k == i) M := by
  have hlt := h.top.lt
  have hs1 : ∀ W : World, Below w.heap.size W (W.setCell ⟨w.heap.size, i, none⟩ (.slice (some ⟨R i, 0, none⟩) (m + 1) (m + 1))) := fun W => (Below.refl w.heap.size W).setCell (show w.heap.size ≤ w.heap.size from Nat.le_refl _) _
  refine ⟨(h.below.alloc (by omega) _).trans (hs1 _), ((h.top.alloc _).set i _).congr fun k hk => ?_, fun k hp hk => ?_, fun k hp hk => ?_, h.inj⟩
  · by_cases e : k = i
    · subst e; simp
    · simp [e]
  · by_cases e : k = i
    · subst e
      rw [hR]
      exact ((World.rowIs_made wr (.int .i64 0) (m + 1) 3).setOther (by show wr.heap.size ≠ w.heap.size; omega) _).congr fun j hj => by rw [hM j (by omega)]; rfl
    · have hp' : P k = true := by simpa [e] using hp
      have := h.base k hp' hk
      exact ((h.rows k hp' hk).alloc _).setOther (by show R k ≠ w.heap.size; omega) _
  · by_cases e : k = i
    · subst e; omega
    · exact h.base k (by simpa [e] using hp) hk

/-- What the table holds when the rows past k are full, and row k from column q on. -/
def mmAt (a b : List ByteArray) (k q : Nat) (i j : Nat) : Nat := if k < i ∨ (i = k ∧ q ≤ j) then lcsAt a b i j else 0
theorem mmAt_full (a b : List ByteArray) (i j : Nat) : mmAt a b 0 0 i j = lcsAt a b i j := by
  unfold mmAt; rw [if_pos (by omega)]
theorem mmAt_zero (a b : List ByteArray) (i j : Nat) (hi : i ≤ a.length) : 0 = mmAt a b a.length 0 i j := by
  unfold mmAt; split
  · rw [lcsAt_n]; omega
  · rfl
theorem mmAt_row (a b : List ByteArray) (k i j : Nat) : mmAt a b (k + 1) 0 i j = mmAt a b k b.length i j := by
  unfold mmAt
  by_cases h : k + 1 < i ∨ (i = k + 1 ∧ 0 ≤ j)
  · rw [if_pos h, if_pos (by omega)]
  · rw [if_neg h]; split
    · rw [lcsAt_m]; omega
    · rfl
theorem mmAt_next (a b : List ByteArray) (k q i j : Nat) (h : k < i) : mmAt a b k q i j = lcsAt a b i j := by unfold mmAt; rw [if_pos (by omega)]
theorem mmAt_here (a b : List ByteArray) (k q j : Nat) (h : q ≤ j) : mmAt a b k q k j = lcsAt a b k j := by unfold mmAt; rw [if_pos (by omega)]
theorem Tab.fill {a b : List ByteArray} {w wr : World} {n m : Nat} {R : Nat → Nat} {P : Nat → Bool} {k q v : Nat} (h : Tab w wr n m R P (mmAt a b k (q + 1))) (hp : P k = true) (hk : k ≤ n) (hv : v = lcsAt a b k q) :
    Tab w (wr.setCell ⟨R k, q, none⟩ (.int .i64 v)) n m R P (mmAt a b k q) :=
  (h.set k q v hp hk).congr (fun _ _ => rfl) fun i j hi _ hj => by
    by_cases e : i = k ∧ j = q
    · obtain ⟨rfl, rfl⟩ := e
      rw [if_pos ⟨rfl, rfl⟩, hv, mmAt_here _ _ _ _ _ (Nat.le_refl _)]
    · rw [if_neg e]; unfold mmAt
      by_cases c : k < i ∨ (i = k ∧ q + 1 ≤ j)
      · rw [if_pos c, if_pos (by omega)]
      · rw [if_neg c, if_neg (by omega)]


end Go.Proofs.Ytdnjjgidlpmgjaa
