/- Walks and lemmas of this seat (FUsesOf): what each theorem says of the functions that it names. Conditions: those that each theorem states. -/
import Derived.Test.YtfdmfkonneonaaaRows
import Derived.Test.YtfdmfkonneonaaaDataNode
namespace Go.Proofs.Ytfdmfkonneonaaa
set_option linter.unusedVariables false
set_option linter.unusedSimpArgs false
open Go.RowKit

def isTextK (k : Int) : Bool := k == 1 || k == 5 || k == 13 || k == 27 || k == 32
def same01 (s name : ByteArray) : Nat := if (s.toList == name.toList) = true then 1 else 0
/-- How often a node names the variable. -/
def usesAt (name : ByteArray) (x : Node) : Nat := (if isTextK x.kind = true then same01 x.text name else 0) + (if x.kind = 32 then same01 x.other name else 0)
def usesOf (name : ByteArray) : List Node → Nat
  | [] => 0
  | x :: l => usesAt name x + usesOf name l
theorem same01_le (s n : ByteArray) : same01 s n ≤ 1 := by unfold same01; split <;> omega
theorem same01_t {x n : ByteArray} (h : (x.toList == n.toList) = true) : same01 x n = 1 := by rw [same01, if_pos h]
theorem same01_f {x n : ByteArray} (h : (x.toList == n.toList) = false) : same01 x n = 0 := by rw [same01, if_neg (by rw [h]; simp)]
theorem grown_cell {w w' : World} {g : Nat} (h : w.grownBy w' (some g)) {b o : Nat} {v : Value} (hc : w.cell? ⟨b, o, none⟩ = some v) (hne : b ≠ g) : w'.cell? ⟨b, o, none⟩ = some v :=
  (World.cell?_of_block (a := ⟨b, o, none⟩) (h.block b (World.block_lt_of_cell? w _ hc) (by simpa using hne))).trans hc
theorem grown_drewN (w : World) (n : Nat) (r : Option Nat) : w.grownBy (w.drewN n) r := ⟨rfl, rfl, rfl, Nat.le_refl _, fun _ _ _ => rfl⟩
theorem usesAt_le (n : ByteArray) (x : Node) : usesAt n x ≤ 2 := by
  unfold usesAt; have := same01_le x.text n; have := same01_le x.other n; split <;> split <;> omega

theorem specl23Text_any (k : Int) (w : World) : Calls Try.prog 26 #[.int .i64 k] w fun e w' => e = .returned (.bool (isTextK k)) ∧ w' = w := by
  go_enter Try.func26, Try.ntmps26
  go_wp2
  all_goals go_ret
  all_goals exact ⟨ret_bool (by unfold isTextK; simp_all), rfl⟩

end Go.Proofs.Ytfdmfkonneonaaa
