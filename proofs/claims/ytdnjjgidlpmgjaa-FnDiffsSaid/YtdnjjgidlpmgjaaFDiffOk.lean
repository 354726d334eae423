/- Walks and lemmas of this seat (FDiffOk): what each theorem says of the functions that it names. Conditions: those that each theorem states. -/
import Derived.Test.YtdnjjgidlpmgjaaFTable
namespace Go.Proofs.Ytdnjjgidlpmgjaa
set_option linter.unusedVariables false
set_option linter.unusedSimpArgs false
open Go.RowKit

def diffOk (a b : List ByteArray) : Bool := decide (a.length ≤ 200 ∧ b.length ≤ 200)
def common (a b : List ByteArray) : Int := if diffOk a b = true then (lcs a b : Nat) else 0
theorem diffOk_yes {a b : List ByteArray} (h : a.length ≤ 200 ∧ b.length ≤ 200) : diffOk a b = true := by unfold diffOk; simpa using h
theorem diffOk_no {a b : List ByteArray} (h : ¬ (a.length ≤ 200 ∧ b.length ≤ 200)) : ¬ diffOk a b = true := by unfold diffOk; simpa using h

set_option maxRecDepth 100000 in
theorem specl29Ok_any (l0 l1 : List ByteArray) (v0 v1 : Value) (w : World) (hv0 : Slc w v0 1 l0.length (l0.flatMap str1)) (hv1 : Slc w v1 1 l1.length (l1.flatMap str1)) :
    Calls Try.prog 77 #[v0, v1] w fun e w' => e = .returned (.bool (diffOk l0 l1)) ∧ w = w' := by
  obtain ⟨_, a, cap, rfl, hc, hm, hrow⟩ := hv0
  obtain ⟨_, a', cap', rfl, hc', hm', hrow'⟩ := hv1
  unfold maxLen at hm hm'
  by_cases h1 : l0.length ≤ 200
  · by_cases h2 : l1.length ≤ 200
    · go_enter Try.func77, Try.ntmps77
      go_wp2
      go_ret
      exact ⟨ret_bool (by unfold diffOk; rw [Bool.eq_iff_iff]; simp; omega), rfl⟩
    · go_enter Try.func77, Try.ntmps77
      go_wp2
      go_ret
      exact ⟨ret_bool (by unfold diffOk; rw [Bool.eq_iff_iff]; simp; omega), rfl⟩
  · go_enter Try.func77, Try.ntmps77
    go_wp2
    go_ret
    exact ⟨ret_bool (by unfold diffOk; rw [Bool.eq_iff_iff]; simp; omega), rfl⟩

end Go.Proofs.Ytdnjjgidlpmgjaa
