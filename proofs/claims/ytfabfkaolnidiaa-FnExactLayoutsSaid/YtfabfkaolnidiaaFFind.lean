/- Walks and lemmas of this seat (FFind): what each theorem says of the functions that it names. Conditions: those that each theorem states. -/
import Derived.Test.YtfabfkaolnidiaaHString
namespace Go.Proofs.Ytfabfkaolnidiaa
set_option linter.unusedVariables false
set_option linter.unusedSimpArgs false
open Go.RowKit

/-- The place of a text among others, -1 where it is not there. -/
def findS (s : ByteArray) : List ByteArray → Nat → Int
  | [], _ => -1
  | x :: l, k => if (x.toList == s.toList) = true then (k : Int) else findS s l (k + 1)
theorem findS_lo (s : ByteArray) : ∀ (l : List ByteArray) (k : Nat), -1 ≤ findS s l k := by
  intro l
  induction l with
  | nil => intro k; simp [findS]
  | cons x l ih => intro k; rw [findS]; split
                   · omega
                   · exact ih _
theorem findS_iff (s : ByteArray) : ∀ (l : List ByteArray) (k : Nat), 0 ≤ findS s l k ↔ (l.any fun x => x.toList == s.toList) = true := by
  intro l
  induction l with
  | nil => intro k; simp [findS]
  | cons x l ih =>
    intro k
    rw [findS, List.any_cons]
    cases h : (x.toList == s.toList) with
    | true => simp
    | false => rw [if_neg (by simp), Bool.false_or]; exact ih _

set_option maxRecDepth 100000 in
theorem specl3Find_any (l0 : List ByteArray) (v0 : Value) (s : ByteArray) (w : World) (hn0 : l0.length ≤ 4194304) (hv0 : Slc w v0 1 l0.length (l0.flatMap str1)) :
    Calls Try.prog 47 #[v0, .string s] w fun e w' => e = .returned (.int .i64 (findS s l0 0)) ∧ w' = w := by
  obtain ⟨_, a, cap, rfl, hc, hm, hrow⟩ := hv0
  unfold maxLen at hm
  go_enter Try.func47, Try.ntmps47
  go_wp2
  go_loop [5] (fun i => ∃ k : Nat, i = .int .i64 k ∧ k ≤ l0.length ∧ Hid (findS s l0 0 = findS s (l0.drop k) k)) (fun i => l0.length - (intOf i).toNat)
  case atStart => exact ⟨0, rfl, by omega, hid rfl⟩
  obtain ⟨k, rfl, hk, hrel⟩ := hrel
  by_cases hlt : k < l0.length
  · obtain ⟨x, hx⟩ := get_of_lt hlt
    obtain ⟨b, off, rfl, hro⟩ := slc_some hrow (by omega)
    have c0 := hro.one str1_len hx rfl
    rw [drop_cons hx] at hrel
    clear hx hro
    by_cases h : (x.toList == s.toList) = true
    · have hR : Hid (findS s l0 0 = (k : Int)) := hid (by rw [hrel.out, findS, if_pos h])
      clear hrel
      go_wp2
      go_ret
      exact ⟨ret_int hR.out.symm, rfl⟩
    · have hR : Hid (findS s l0 0 = findS s (l0.drop (k + 1)) (k + 1)) := hid (by rw [hrel.out, findS, if_neg h])
      have h : (x.toList == s.toList) = false := by simpa using h
      clear hrel
      go_wp2
      go_round
      case rel => exact ⟨k + 1, by go_num, by omega, hR⟩
      case measure => simp [intOf]; omega
  · have hR : Hid (findS s l0 0 = -1) := hid (by rw [hrel.out, List.drop_of_length_le (by omega), findS])
    clear hrel
    go_wp2
    go_ret
    exact ⟨ret_int hR.out.symm, rfl⟩
end Go.Proofs.Ytfabfkaolnidiaa
