/- Walks and lemmas of this seat (FStarts): what each theorem says of the functions that it names. Conditions: those that each theorem states. -/
import Derived.Test.YtfabfkaolnidiaaGA
namespace Go.Proofs.Ytfabfkaolnidiaa
set_option linter.unusedVariables false
set_option linter.unusedSimpArgs false
open Go.RowKit

def nat1 (n : Nat) : List Value := [.int .i64 n]
theorem nat1_len (n : Nat) : (nat1 n).length = 1 := rfl
/-- The start of a node's part, by its kids from the last to the first; none where they do not lie as they should. -/
def stepK (out : List Nat) : List Int → Nat → Option Nat
  | [], a => some a
  | k :: ks, a => if k ≠ (a : Int) - 1 ∨ a = 0 then none else stepK out ks (out.getD (a - 1) 0)
def startsL : List Nat → List (List Int) → Option (List Nat)
  | out, [] => some out
  | out, ks :: l => match stepK out ks.reverse out.length with
    | none => none
    | some a => startsL (out ++ [a]) l
def starts (l : List (List Int)) : Option (List Nat) := startsL [] l
/-- No part begins behind its node. -/
def Low (out : List Nat) : Prop := ∀ (i v : Nat), out[i]? = some v → v ≤ i
theorem Low.nil : Low [] := fun i v h => by simp at h
theorem Low.getD {out : List Nat} (h : Low out) (i : Nat) : out.getD i 0 ≤ i := by
  rw [List.getD_eq_getElem?_getD]
  cases e : out[i]? with
  | none => simp
  | some v => simpa using h i v e
theorem Low.snoc {out : List Nat} (h : Low out) {a : Nat} (ha : a ≤ out.length) : Low (out ++ [a]) := by
  intro i v hi
  by_cases hl : i < out.length
  · rw [List.getElem?_append_left hl] at hi; exact h i v hi
  · rw [List.getElem?_append_right (by omega)] at hi
    have : i - out.length = 0 := by
      have := (List.getElem?_eq_some_iff.1 hi).1
      simp at this; omega
    rw [this] at hi; simp at hi; omega
theorem stepK_le {out : List Nat} (h : Low out) : ∀ (ks : List Int) (a b : Nat), stepK out ks a = some b → b ≤ a := by
  intro ks
  induction ks with
  | nil => intro a b h; simp [stepK] at h; omega
  | cons k ks ih =>
    intro a b hb
    unfold stepK at hb
    split at hb
    · simp at hb
    · have := ih _ _ hb
      have := h.getD (a - 1)
      omega
theorem take_rev {ks : List Int} {q : Nat} {k : Int} (h : ks[q]? = some k) : (ks.take (q + 1)).reverse = k :: (ks.take q).reverse := by
  rw [take_next h, List.reverse_append]; rfl
theorem stepK_no {out : List Nat} {ks : List Int} {q a : Nat} {k : Int} (h : ks[q]? = some k) (hn : k ≠ (a : Int) - 1 ∨ a = 0) : stepK out (ks.take (q + 1)).reverse a = none := by
  rw [take_rev h, stepK, if_pos hn]
theorem stepK_go {out : List Nat} {ks : List Int} {q a : Nat} {k : Int} (h : ks[q]? = some k) (hk : k = (a : Int)) : stepK out (ks.take (q + 1)).reverse (a + 1) = stepK out (ks.take q).reverse (out.getD a 0) := by
  rw [take_rev h, stepK, if_neg (by subst hk; omega)]; rfl
theorem startsL_low : ∀ (l : List (List Int)) (out s : List Nat), Low out → startsL out l = some s → Low s ∧ s.length = out.length + l.length := by
  intro l
  induction l with
  | nil => intro out s h hs; simp [startsL] at hs; subst hs; exact ⟨h, by simp⟩
  | cons ks l ih =>
    intro out s h hs
    unfold startsL at hs
    split at hs
    · simp at hs
    · rename_i a ha
      have := ih _ _ (h.snoc (stepK_le h _ _ _ ha)) hs
      exact ⟨this.1, by rw [this.2]; simp; omega⟩
theorem starts_len {l : List (List Int)} {s : List Nat} (h : starts l = some s) : Low s ∧ s.length = l.length := by
  have := startsL_low l [] s Low.nil h
  simpa using this
theorem startsL_no {out : List Nat} {ks : List Int} {l : List (List Int)} (h : stepK out ks.reverse out.length = none) : startsL out (ks :: l) = none := by
  rw [startsL, h]
theorem startsL_go {out : List Nat} {ks : List Int} {l : List (List Int)} {a : Nat} (h : stepK out ks.reverse out.length = some a) : startsL out (ks :: l) = startsL (out ++ [a]) l := by
  rw [startsL, h]
theorem getD_of {out : List Nat} {i : Nat} (h : i < out.length) : out[i]? = some (out.getD i 0) := by
  rw [List.getD_eq_getElem?_getD, List.getElem?_eq_getElem h]; rfl
theorem nat1_at {out : List Nat} {i : Nat} (h : i < out.length) : (out.flatMap nat1)[i]? = some (.int .i64 (out.getD i 0 : Nat)) := by
  have := flat_get nat1 1 nat1_len out i 0 (out.getD i 0) (.int .i64 (out.getD i 0 : Nat)) (getD_of h) rfl
  simpa using this
theorem own_read {w : World} {B : Nat} {e : TypeId} {s n g cap : Nat} {xs : List Value} (h : w.ownsRow B e s (.slice (some ⟨g, 0, none⟩) n cap) n xs) {j : Nat} {u : Value} (hu : xs[j]? = some u) : w.cell? ⟨g, j, none⟩ = some u := by
  rw [h.cellAt j (by have := h.1; have := (List.getElem?_eq_some_iff.1 hu).1; omega)]; exact hu
theorem own_slice' {w : World} {B : Nat} {e : TypeId} {s n : Nat} {v : Value} {xs : List Value} (h : w.ownsRow B e s v n xs) (hn : 0 < n) : ∃ g cap, v = .slice (some ⟨g, 0, none⟩) n cap ∧ cap ≤ maxLen := by
  obtain ⟨a, cap, rfl, hm⟩ := own_slice h
  obtain ⟨g, rfl⟩ := own_some h hn
  exact ⟨g, cap, rfl, hm⟩
theorem Filling.read {w : World} {B : Nat} {e : TypeId} {s g n : Nat} {pre : List Value} (h : Filling w B e s g n pre) {j : Nat} {u : Value} (hu : pre[j]? = some u) : w.cell? ⟨g, j, none⟩ = some u := by
  obtain ⟨rest, h⟩ := h
  exact own_read h (by rw [List.getElem?_append_left (List.getElem?_eq_some_iff.1 hu).1]; exact hu)
theorem Filling.put {w : World} {B : Nat} {e : TypeId} {g n : Nat} {out : List Nat} (h : Filling w B e 1 g n (out.flatMap nat1)) (hk : out.length < n) (a : Nat) : Filling (w.setCell ⟨g, out.length, none⟩ (.int .i64 a)) B e 1 g n ((out ++ [a]).flatMap nat1) := by
  have h1 := h.store (k := out.length) (by rw [flat_len nat1 1 nat1_len]) hk [.int .i64 a] rfl
  have h2 : (out ++ [a]).flatMap nat1 = out.flatMap nat1 ++ [.int .i64 a] := by simp [nat1]
  rw [h2]
  simpa [storeAll] using h1
/-- The last part begins at the first node. -/
def startsLast (l : List (List Int)) : Bool := match starts l with | none => false | some s => s.getD (l.length - 1) 0 == 0
/-- What the functions hand back that look for the starts. -/
def StartsPost (w : World) (kl : List (List Int)) (e : Ending) (w' : World) : Prop :=
  Below w.heap.size w w' ∧ ((starts kl = none ∧ ∃ v', e = .returned (.tuple #[v', .bool false])) ∨ ∃ s v', starts kl = some s ∧ e = .returned (.tuple #[v', .bool true]) ∧ w'.ownsRow w.heap.size 3 1 v' s.length (s.flatMap nat1))
theorem tup_bool {v : Value} {a b : Bool} (h : a = b) : Ending.returned (.tuple #[v, .bool a]) = .returned (.tuple #[v, .bool b]) := by rw [h]
/-- What the program's own functions hand back that look for the starts. -/
def ImplStartsPost (w : World) (n : Nat) (kl : List (List Int)) (e : Ending) (w' : World) : Prop :=
  Below w.heap.size w w' ∧ ∃ v', e = .returned (.tuple #[v', .bool (decide (1 ≤ kl.length ∧ kl.length ≤ n) && startsLast kl)])
    ∧ ∀ s, starts kl = some s → 1 ≤ kl.length → kl.length ≤ n → w'.ownsRow w.heap.size 3 1 v' s.length (s.flatMap nat1)
end Go.Proofs.Ytfabfkaolnidiaa
/- Walks and lemmas of this seat (DataSlcS): what each theorem says of the functions that it names. Conditions: those that each theorem states. -/
namespace Go.Proofs.Ytfabfkaolnidiaa
set_option linter.unusedVariables false
set_option linter.unusedSimpArgs false
open Go.RowKit

/-- v is a slice of n elements, s cells each, in a block of S, that reads as the cells cs. -/
def SlcS (S : Nat → Prop) (w : World) (v : Value) (s n : Nat) (cs : List Value) : Prop :=
  cs.length = n * s ∧ ∃ a cap, v = .slice a n cap ∧ n ≤ cap ∧ cap ≤ maxLen ∧ (n = 0 ∨ ∃ b off, a = some ⟨b, off, none⟩ ∧ S b ∧ RowAt w b off cs)
theorem SlcS.slc {S : Nat → Prop} {w : World} {v : Value} {s n : Nat} {cs : List Value} (h : SlcS S w v s n cs) : Slc w v s n cs := by
  obtain ⟨h1, a, cap, h2, h3, h4, h5⟩ := h
  refine ⟨h1, a, cap, h2, h3, h4, ?_⟩
  rcases h5 with h5 | ⟨b, off, h5, _, h6⟩
  · exact .inl h5
  · exact .inr ⟨b, off, h5, h6⟩
theorem SlcS.keep {S S' : Nat → Prop} {w w' : World} {v : Value} {s n : Nat} {cs : List Value} (hs : 0 < s) (h : SlcS S w v s n cs) (hk : ∀ b, S b → b < w.heap.size → w'.heap[b]? = w.heap[b]? ∧ S' b) : SlcS S' w' v s n cs := by
  obtain ⟨h1, a, cap, h2, h3, h4, h5⟩ := h
  refine ⟨h1, a, cap, h2, h3, h4, ?_⟩
  rcases h5 with h5 | ⟨b, off, h5, hS, h6⟩
  · exact .inl h5
  · by_cases hn : n = 0
    · exact .inl hn
    · have hl : 0 < cs.length := by rw [h1]; exact Nat.mul_pos (Nat.pos_of_ne_zero hn) hs
      have hb := World.block_lt_of_cell? w _ (h6 0 _ (List.getElem?_eq_getElem hl))
      obtain ⟨e, hS'⟩ := hk b hS hb
      refine .inr ⟨b, off, h5, hS', fun j u hj => ?_⟩
      have := h6 j u hj
      unfold World.cell? at this ⊢
      simp only [e]
      exact this
theorem SlcS.of_own {w : World} {B : Nat} {e : TypeId} {s n : Nat} {v : Value} {xs : List Value} (h : w.ownsRow B e s v n xs) : SlcS (fun b => B ≤ b) w v s n xs := by
  refine ⟨h.1, ?_⟩
  rcases h.2 with ⟨rfl, h0⟩ | ⟨g, cap, cur, rfl, hg, hgg, hc, hm, hcs, ht⟩
  · exact ⟨none, 0, by rw [h0], by omega, by unfold maxLen; omega, .inl h0⟩
  · refine ⟨some ⟨g, 0, none⟩, cap, rfl, hc, hm, .inr ⟨g, 0, rfl, hg, fun j u hj => ?_⟩⟩
    rw [Nat.zero_add, h.cellAt j]
    · exact hj
    · have := (List.getElem?_eq_some_iff.1 hj).1
      have := h.1
      omega
end Go.Proofs.Ytfabfkaolnidiaa
