/- Walks and lemmas of this seat (PScan): what each theorem says of the functions that it names. Conditions: those that each theorem states. -/
import Derived.Test.YtfabfkaolnidiaaBase
namespace Go.Proofs.Ytfabfkaolnidiaa
set_option linter.unusedVariables false
set_option linter.unusedSimpArgs false
open Go.RowKit

/-- The byte of a text at a place, -1 where there is none. -/
def byteI (l : List UInt8) (k : Int) : Int := if k < 0 then -1 else match l[k.toNat]? with | some c => (c.toNat : Int) | none => -1
def isDigitB (b : Int) : Bool := inB b 48 57
/-- The number of digits that a text begins with. -/
def dig : List UInt8 → Nat
  | [] => 0
  | c :: l => if isDigitB c.toNat then dig l + 1 else 0
def digI (l : List UInt8) (k : Int) : Int := dig (l.drop k.toNat)
theorem dig_le (l : List UInt8) : dig l ≤ l.length := by
  induction l with
  | nil => simp [dig]
  | cons c l ih => unfold dig; split <;> simp <;> omega
theorem digI_nonneg (l : List UInt8) (k : Int) : 0 ≤ digI l k := by unfold digI; omega
theorem digI_le (l : List UInt8) (k : Int) : digI l k ≤ l.length := by
  unfold digI
  have := dig_le (l.drop k.toNat)
  rw [List.length_drop] at this
  omega
theorem digI_top (l : List UInt8) (k : Int) (h : 0 ≤ k) : k + digI l k ≤ l.length ∨ digI l k = 0 := by
  unfold digI
  have := dig_le (l.drop k.toNat)
  rw [List.length_drop] at this
  omega
theorem byteI_lo (l : List UInt8) (k : Int) : -1 ≤ byteI l k := by
  unfold byteI; split
  · omega
  · split <;> omega
theorem byteI_hi (l : List UInt8) (k : Int) : byteI l k ≤ 255 := by
  unfold byteI; split
  · omega
  · split
    · rename_i c _; have := c.toNat_lt; omega
    · omega
theorem byteI_at {l : List UInt8} {k : Nat} {c : UInt8} (h : l[k]? = some c) : byteI l k = c.toNat := by
  unfold byteI; rw [if_neg (by omega), Int.toNat_natCast, h]
theorem byteI_out {l : List UInt8} {k : Int} (h : k < 0 ∨ (l.length : Int) ≤ k) : byteI l k = -1 := by
  unfold byteI
  split
  · rfl
  · rw [List.getElem?_eq_none (by omega)]
theorem dig_go {l : List UInt8} {k : Int} (h0 : 0 ≤ k) (h : isDigitB (byteI l k) = true) : digI l k = 1 + digI l (k + 1) := by
  unfold digI
  rw [show (k + 1).toNat = k.toNat + 1 from by omega]
  unfold byteI at h
  rw [if_neg (by omega)] at h
  cases hc : l[k.toNat]? with
  | none => rw [hc] at h; simp [isDigitB, inB] at h
  | some c =>
    rw [hc] at h
    rw [drop_cons hc, dig, if_pos h]
    omega
theorem dig_stop {l : List UInt8} {k : Int} (h0 : 0 ≤ k) (h : isDigitB (byteI l k) = false) : digI l k = 0 := by
  unfold digI
  unfold byteI at h
  rw [if_neg (by omega)] at h
  cases hc : l[k.toNat]? with
  | none => rw [List.drop_eq_nil_of_le (by simpa using hc)]; rfl
  | some c =>
    rw [hc] at h
    rw [drop_cons hc, dig, if_neg (by simp [h])]
    rfl

theorem digI_facts (l : List UInt8) (n : Nat) (hn : l.length = n) (k : Int) : 0 ≤ digI l k ∧ digI l k ≤ n := ⟨digI_nonneg _ _, by have := digI_le l k; omega⟩
theorem digI_facts2 (l : List UInt8) (n : Nat) (hn : l.length = n) (k : Int) (h : 0 ≤ k) : k + digI l k ≤ n ∨ digI l k = 0 := by have := digI_top l k h; omega
/-- The place behind an exponent, if there is one at e. -/
def numExp (l : List UInt8) (e : Int) : Int :=
  if byteI l e = 101 ∨ byteI l e = 69 then
    if byteI l (e + 1) = 43 ∨ byteI l (e + 1) = 45 then (if 0 < digI l (e + 1 + 1) then e + 1 + 1 + digI l (e + 1 + 1) else e)
    else if 0 < digI l (e + 1) then e + 1 + digI l (e + 1) else e
  else e
/-- The place behind the number that a text begins with, -1 where there is none. -/
def numEnd (l : List UInt8) : Int :=
  if byteI l (digI l 0) = 46 then (if digI l 0 = 0 ∧ digI l (digI l 0 + 1) = 0 then -1 else numExp l (digI l 0 + 1 + digI l (digI l 0 + 1)))
  else if digI l 0 = 0 then -1 else numExp l (digI l 0)

/-- The place behind what a byte encloses; i: the place of what is left. -/
def qEnd (q : Int) : Nat → List UInt8 → Int
  | _, [] => -1
  | i, c :: l => if (c.toNat : Int) = 10 then -1 else if (c.toNat : Int) = q then (i : Int) + 1 else if (c.toNat : Int) = 92 then (match l with | [] => -1 | d :: l' => if (d.toNat : Int) = 10 then -1 else qEnd q (i + 2) l') else qEnd q (i + 1) l
termination_by _ l => l.length
def quoted (q : Int) (l : List UInt8) : Int := if byteI l 0 = q then qEnd q 1 (l.drop 1) else -1
theorem qEnd_nl {q : Int} {l : List UInt8} {i : Nat} {c : UInt8} (h : l[i]? = some c) (h1 : (c.toNat : Int) = 10) : qEnd q i (l.drop i) = -1 := by
  rw [drop_cons h, qEnd.eq_def]; simp only; rw [if_pos h1]
theorem qEnd_hit {q : Int} {l : List UInt8} {i : Nat} {c : UInt8} (h : l[i]? = some c) (h1 : ¬ (c.toNat : Int) = 10) (h2 : (c.toNat : Int) = q) : qEnd q i (l.drop i) = (i : Int) + 1 := by
  rw [drop_cons h, qEnd.eq_def]; simp only; rw [if_neg h1, if_pos h2]
theorem qEnd_next {q : Int} {l : List UInt8} {i : Nat} {c : UInt8} (h : l[i]? = some c) (h1 : ¬ (c.toNat : Int) = 10) (h2 : ¬ (c.toNat : Int) = q) (h3 : ¬ (c.toNat : Int) = 92) : qEnd q i (l.drop i) = qEnd q (i + 1) (l.drop (i + 1)) := by
  rw [drop_cons h, qEnd.eq_def]; simp only; rw [if_neg h1, if_neg h2, if_neg h3]
theorem qEnd_esc {q : Int} {l : List UInt8} {i : Nat} {c : UInt8} (h : l[i]? = some c) (h2 : ¬ (c.toNat : Int) = q) (h3 : (c.toNat : Int) = 92) (h4 : ¬ byteI l ((i : Int) + 1) = 10) : qEnd q i (l.drop i) = qEnd q (i + 2) (l.drop (i + 2)) := by
  rw [drop_cons h, qEnd.eq_def]; simp only; rw [if_neg (by omega), if_neg h2, if_pos h3]
  cases hd : l[i + 1]? with
  | none =>
    have h5 : l.length ≤ i + 1 := by simpa using hd
    rw [List.drop_eq_nil_of_le h5, List.drop_eq_nil_of_le (show l.length ≤ i + 2 by omega), qEnd.eq_def]
  | some d =>
    have h6 := byteI_at hd
    rw [show ((i + 1 : Nat) : Int) = (i : Int) + 1 from by omega] at h6
    rw [h6] at h4
    rw [drop_cons hd]
    simp only
    rw [if_neg h4]
theorem qEnd_escnl {q : Int} {l : List UInt8} {i : Nat} {c : UInt8} (h : l[i]? = some c) (h2 : ¬ (c.toNat : Int) = q) (h3 : (c.toNat : Int) = 92) (h4 : byteI l ((i : Int) + 1) = 10) : qEnd q i (l.drop i) = -1 := by
  rw [drop_cons h, qEnd.eq_def]; simp only; rw [if_neg (by omega), if_neg h2, if_pos h3]
  cases hd : l[i + 1]? with
  | none =>
    have h5 : l.length ≤ i + 1 := by simpa using hd
    rw [List.drop_eq_nil_of_le h5]
  | some d =>
    have h6 := byteI_at hd
    rw [show ((i + 1 : Nat) : Int) = (i : Int) + 1 from by omega] at h6
    rw [h6] at h4
    rw [drop_cons hd]
    simp only
    rw [if_pos h4]
theorem qEnd_out {q : Int} {l : List UInt8} {i : Nat} (h : l.length ≤ i) : qEnd q i (l.drop i) = -1 := by
  rw [List.drop_eq_nil_of_le h, qEnd.eq_def]
end Go.Proofs.Ytfabfkaolnidiaa
