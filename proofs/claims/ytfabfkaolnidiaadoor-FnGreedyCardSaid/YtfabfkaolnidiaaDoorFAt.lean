/- Walks and lemmas of this seat (FAt): what each theorem says of the functions that it names. Conditions: those that each theorem states. -/
import Derived.Test.YtfabfkaolnidiaaDoorHByte
namespace Go.Proofs.YtfabfkaolnidiaaDoor
set_option linter.unusedVariables false
set_option linter.unusedSimpArgs false
open Go.RowKit

/-- laws.at: a byte of the code, or one that follows from it. -/
theorem lawsat_any (v : Value) (bs : List UInt8) (i : Int) (hi : 0 ≤ i ∧ i ≤ 1000) (w : World) (hc : Slc w v 1 bs.length (bs.flatMap byte1)) (hs : bs.length ≤ 1048576) :
    Calls Tryd.prog 5 #[v, .int .i64 i] w fun e w' => ∃ x : Int, 0 ≤ x ∧ x < 256 ∧ e = .returned (.int .i64 x) ∧ w' = w := by
  obtain ⟨_, a, cap, rfl, hcap, hm, hrow⟩ := hc
  unfold maxLen at hm
  by_cases hlt : i < (bs.length : Int)
  · obtain ⟨k, rfl⟩ : ∃ k : Nat, i = (k : Int) := ⟨i.toNat, by omega⟩
    obtain ⟨b, off, rfl, hro⟩ := slc_some hrow (by omega)
    obtain ⟨y, hy⟩ := get_of_lt (l := bs) (k := k) (by omega)
    have e0 := hro.one byte1_len hy rfl
    have hyl := y.toNat_lt
    clear hro hrow hy
    go_enter Tryd.func5, Tryd.ntmps5
    go_wp2
    go_ret
    exact ⟨_, by omega, by omega, rfl, rfl⟩
  · clear hrow
    have h1 := Int.emod_nonneg (i * 37 + bs.length * 11) (show (256 : Int) ≠ 0 by omega)
    have h2 := Int.emod_lt_of_pos (i * 37 + bs.length * 11) (show (0 : Int) < 256 by omega)
    go_enter Tryd.func5, Tryd.ntmps5
    go_wp2
    go_ret
    first
      | exact ⟨_, h1, h2, rfl, rfl⟩
      | exact ⟨_, by omega, by omega, rfl, rfl⟩
end Go.Proofs.YtfabfkaolnidiaaDoor
