/- Walks and lemmas of this seat (PLines): what each theorem says of the functions that it names. Conditions: those that each theorem states. -/
import Derived.Test.YtfabfkaolnidiaaDoorBase
import Derived.Lib.Split
import Derived.Lib.IndexBytes
namespace Go.Proofs.YtfabfkaolnidiaaDoor
set_option linter.unusedVariables false
set_option linter.unusedSimpArgs false
open Go.RowKit

/-! The lines of a text. -/
def splitNL : List UInt8 → List (List UInt8)
  | [] => [[]]
  | c :: l => if c = 10 then [] :: splitNL l else match splitNL l with
    | [] => [[c]]
    | h :: t => (c :: h) :: t
theorem splitNL_ne (l : List UInt8) : splitNL l ≠ [] := by
  cases l with
  | nil => simp [splitNL]
  | cons c l => rw [splitNL]; split <;> (try split) <;> simp
theorem splitNL_none : ∀ (l : List UInt8), Lib.indexByte l 10 = -1 → splitNL l = [l] := by
  intro l
  induction l with
  | nil => intro _; rfl
  | cons c l ih =>
    intro h
    rw [Lib.indexByte] at h
    have hge : ∀ l : List UInt8, -1 ≤ Lib.indexByte l 10 := by
      intro l; induction l with
      | nil => simp [Lib.indexByte]
      | cons c l ih => unfold Lib.indexByte; split <;> (try split) <;> simp_all <;> omega
    by_cases hc : c = 10
    · subst hc; simp at h
    · have h1 : (c == 10) = false := by simpa using hc
      rw [h1] at h
      simp only [Bool.false_eq_true, if_false] at h
      by_cases h2 : Lib.indexByte l 10 = -1
      · rw [splitNL, if_neg hc, ih h2]
      · have h3 : (Lib.indexByte l 10 == -1) = false := by simpa using h2
        rw [h3] at h
        simp at h
        have := hge l
        omega
theorem splitNL_some : ∀ (l : List UInt8) (i : Nat), Lib.indexByte l 10 = i → splitNL l = l.take i :: splitNL (l.drop (i + 1)) := by
  intro l
  induction l with
  | nil => intro i h; simp [Lib.indexByte] at h
  | cons c l ih =>
    intro i h
    rw [Lib.indexByte] at h
    by_cases hc : c = 10
    · subst hc
      simp at h
      obtain rfl : i = 0 := by omega
      simp [splitNL]
    · have h1 : (c == 10) = false := by simpa using hc
      rw [h1] at h
      simp only [Bool.false_eq_true, if_false] at h
      by_cases h2 : Lib.indexByte l 10 = -1
      · rw [h2] at h; simp at h; try omega
      · have h3 : (Lib.indexByte l 10 == -1) = false := by simpa using h2
        rw [h3] at h
        simp at h
        have hge : ∀ l : List UInt8, -1 ≤ Lib.indexByte l 10 := by
          intro l; induction l with
          | nil => simp [Lib.indexByte]
          | cons c l ih => unfold Lib.indexByte; split <;> (try split) <;> simp_all <;> omega
        have := hge l
        obtain ⟨j, rfl⟩ : ∃ j, i = j + 1 := ⟨i - 1, by omega⟩
        rw [splitNL, if_neg hc, ih j (by omega)]
        try simp
theorem splitK_nl : ∀ (n : Nat) (l : List UInt8), l.length ≤ n → Lib.splitK [10] 0 (Lib.count l [10]) l = splitNL l := by
  intro n
  induction n with
  | zero =>
    intro l h
    obtain rfl : l = [] := List.eq_nil_of_length_eq_zero (by omega)
    rfl
  | succ n ih =>
    intro l h
    rcases Lib.index_spec l [10] with ⟨h1, _⟩ | ⟨i, h1, h2, h3, _⟩
    · rw [Lib.count_miss h1, Lib.splitK, splitNL_none l (by rw [← Lib.index_one]; exact h1)]
    · have h4 := h1
      rw [Lib.index_one] at h4
      have hroom := Lib.index_room l [10] (by omega)
      simp at hroom
      rw [Lib.count_hit (by simp) h1, Nat.add_comm, Lib.splitK, if_neg (by rw [h1]; simp; try omega), h1, splitNL_some l i h4]
      simp only [Int.toNat_natCast, List.length_singleton, Nat.add_zero]
      rw [ih (l.drop (i + 1)) (by rw [List.length_drop]; omega)]
/-- The lines; cur: what of the line stands already. -/
def linesAcc : List UInt8 → List UInt8 → List (List UInt8)
  | cur, [] => if cur = [] then [] else [cur]
  | cur, c :: l => if c = 10 then cur :: linesAcc [] l else linesAcc (cur ++ [c]) l
/-- Without the last piece if that is empty. -/
def cutLast (p : List (List UInt8)) : List (List UInt8) := if p.getLast? = some [] then p.dropLast else p
def headed (cur : List UInt8) : List (List UInt8) → List (List UInt8)
  | [] => []
  | h :: t => (cur ++ h) :: t
theorem cutLast_cons (x : List UInt8) {p : List (List UInt8)} (h : p ≠ []) : cutLast (x :: p) = x :: cutLast p := by
  unfold cutLast
  rw [List.getLast?_cons_of_ne_nil h]
  split
  · rw [List.dropLast_cons_of_ne_nil h]
  · rfl
theorem linesAcc_eq : ∀ (l cur : List UInt8), linesAcc cur l = cutLast (headed cur (splitNL l)) := by
  intro l
  induction l with
  | nil => intro cur; simp [linesAcc, splitNL, headed, cutLast]
  | cons c l ih =>
    intro cur
    rw [linesAcc, splitNL]
    by_cases hc : c = 10
    · rw [if_pos hc, if_pos hc, headed, List.append_nil, cutLast_cons _ (splitNL_ne l), ih]
      congr 2
      cases splitNL l <;> simp [headed]
    · rw [if_neg hc, if_neg hc, ih]
      have := splitNL_ne l
      cases h : splitNL l with
      | nil => exact absurd h this
      | cons x t => simp [headed]
/-- The lines of a text. -/
def linesOf (s : ByteArray) : List ByteArray := (linesAcc [] s.data.toList).map fun l => ⟨l.toArray⟩
theorem map_data_inj {a b : List ByteArray} (h : a.map (·.data.toList) = b.map (·.data.toList)) : a = b := by
  induction a generalizing b with
  | nil => cases b <;> simp_all
  | cons x a ih =>
    cases b with
    | nil => simp at h
    | cons y b =>
      simp only [List.map_cons, List.cons.injEq] at h
      rw [ih h.2, toList_inj.1 (show x.toList = y.toList by rw [ByteArray.toList_eq, ByteArray.toList_eq]; exact h.1)]
theorem linesOf_data (s : ByteArray) : (linesOf s).map (·.data.toList) = linesAcc [] s.data.toList := by
  unfold linesOf
  rw [List.map_map]
  simp [Function.comp_def]
theorem split_data (s : ByteArray) : (Lib.splitB ⟨#[10]⟩ 0 (Lib.countB s ⟨#[10]⟩) s).map (·.data.toList) = splitNL s.data.toList := by
  rw [Lib.splitB_data]
  exact splitK_nl _ _ (Nat.le_refl _)
theorem headed_nil (p : List (List UInt8)) : headed [] p = p := by cases p <;> rfl
/-- THE LAW: the pieces at the newlines, without an empty last one, are the lines. -/
theorem linesOf_split (s : ByteArray) : linesOf s = (if (Lib.splitB ⟨#[10]⟩ 0 (Lib.countB s ⟨#[10]⟩) s).getLast? = some ⟨#[]⟩ then (Lib.splitB ⟨#[10]⟩ 0 (Lib.countB s ⟨#[10]⟩) s).dropLast else Lib.splitB ⟨#[10]⟩ 0 (Lib.countB s ⟨#[10]⟩) s) := by
  apply map_data_inj
  rw [linesOf_data, linesAcc_eq, headed_nil, ← split_data]
  generalize Lib.splitB ⟨#[10]⟩ 0 (Lib.countB s ⟨#[10]⟩) s = p
  unfold cutLast
  rw [List.getLast?_map]
  by_cases h : p.getLast? = some ⟨#[]⟩
  · rw [if_pos h, if_pos (by rw [h]; rfl), List.map_dropLast]
  · rw [if_neg h, if_neg]
    intro h2
    apply h
    cases hp : p.getLast? with
    | none => rw [hp] at h2; simp at h2
    | some x =>
      rw [hp] at h2
      simp at h2
      congr 1
      apply toList_inj.1
      rw [ByteArray.toList_eq, ByteArray.toList_eq]
      simpa using h2
end Go.Proofs.YtfabfkaolnidiaaDoor
