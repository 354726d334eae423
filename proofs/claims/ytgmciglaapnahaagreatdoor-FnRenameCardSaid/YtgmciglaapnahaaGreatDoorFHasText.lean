/- Walks and lemmas of this seat (FHasText): what each theorem says of the functions that it names. Conditions: those that each theorem states. -/
import Derived.Test.YtgmciglaapnahaaGreatDoorGA
import Derived.Test.YtgmciglaapnahaaGreatDoorGR
namespace Go.Proofs.YtgmciglaapnahaaGreatDoor
set_option linter.unusedVariables false
set_option linter.unusedSimpArgs false
open Go.RowKit Go.Lib

set_option maxRecDepth 100000 in
theorem lawshasText_any (L : List ByteArray) (v : Value) (s : ByteArray) (w : World) (hv : Slc w v 1 L.length (L.flatMap str1)) :
    Calls Tryz.prog 28 #[v, .string s] w fun e w' => e = .returned (.bool (hasT L s)) ∧ Below w.heap.size w w' := by
  have hR0 : Hid (hasT L s = hasT (L.drop 0) s) := hid rfl
  obtain ⟨_, a, cap, rfl, hcap, hm, hrow⟩ := hv
  unfold maxLen at hm
  go_enter Tryz.func28, Tryz.ntmps28
  go_wp2
  go_loopw [5] (fun i wr => ∃ (k : Nat), i = .int .i64 k ∧ k ≤ L.length ∧ Below w.heap.size w wr ∧ Hid (hasT L s = hasT (L.drop k) s)) (fun i _ => L.length - (intOf i).toNat)
  case atStart => exact ⟨0, rfl, by omega, by repeat (first | exact Below.refl _ _ | refine Below.alloc ?_ (by first | omega | (simp; done) | (simp; omega)) _ | refine Below.drew ?_), hR0⟩
  obtain ⟨k, rfl, hk, hb, hrel⟩ := hrel
  by_cases hlt : k < L.length
  · obtain ⟨y, hy⟩ := get_of_lt hlt
    obtain ⟨b, off, rfl, hro⟩ := slc_some hrow (by omega)
    have c0 := (hro.mono hb (Nat.le_refl _)).one str1_len hy rfl
    have hstep : hasT (L.drop k) s = ((y.toList == s.toList) || hasT (L.drop (k + 1)) s) := by rw [drop_cons hy]; rfl
    rw [hstep] at hrel
    clear hy hro hrow hstep
    cases he : (y.toList == s.toList) with
    | true =>
      rw [he, Bool.true_or] at hrel
      go_wp2
      go_ret
      exact ⟨ret_bool hrel.out.symm, hb⟩
    | false =>
      rw [he, Bool.false_or] at hrel
      go_wp2
      go_roundw
      case rel => exact ⟨k + 1, by go_num, by omega, hb, hrel⟩
      case measure => simp [intOf]; omega
  · have hR : Hid (hasT L s = false) := hid (by rw [hrel.out, List.drop_of_length_le (by omega)]; rfl)
    clear hrel
    go_wp2
    go_ret
    exact ⟨ret_bool hR.out.symm, hb⟩
end Go.Proofs.YtgmciglaapnahaaGreatDoor
