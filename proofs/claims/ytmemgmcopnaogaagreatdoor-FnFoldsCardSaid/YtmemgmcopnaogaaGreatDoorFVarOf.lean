/- Walks and lemmas of this seat (FVarOf): what each theorem says of the functions that it names. Conditions: those that each theorem states. -/
import Derived.Test.YtmemgmcopnaogaaGreatDoorRows
import Derived.Test.YtmemgmcopnaogaaGreatDoorGA
namespace Go.Proofs.YtmemgmcopnaogaaGreatDoor
set_option linter.unusedVariables false
set_option linter.unusedSimpArgs false
open Go.RowKit

def varOf (name : ByteArray) : List Bind → Int
  | [] => 0
  | x :: l => if x.name.toList == name.toList then x.val else varOf name l

set_option maxRecDepth 100000 in
theorem specVarOf_any (l0 : List Bind) (v0 : Value) (s1 : ByteArray) (w : World) (hx0 : ∀ x ∈ l0, x.Ok) (hn0 : bulk Bind.sizes l0 ≤ 1048576) (hv0 : Slc w v0 2 l0.length (l0.flatMap Bind.cells)) (hs1 : s1.size ≤ 1048576) :
    Calls Tryz.prog 237 #[v0, .string s1] w fun e w' => e = .returned (.int .i64 (varOf s1 l0)) ∧ Below w.heap.size w w' := by
  obtain ⟨_, a, cap, rfl, hc, hm, hrow⟩ := hv0
  unfold maxLen at hm
  go_enter Tryz.func237, Tryz.ntmps237
  go_wp2
  go_loopw [5] (fun i wr => ∃ (k : Nat), i = .int .i64 k ∧ k ≤ l0.length ∧ Below w.heap.size w wr ∧ Hid (varOf s1 l0 = varOf s1 (l0.drop k))) (fun i _ => l0.length - (intOf i).toNat)
  case atStart => exact ⟨0, rfl, by omega, Below.refl _ _, hid rfl⟩
  obtain ⟨k, rfl, hk, hb, hrel⟩ := hrel
  by_cases hlt : k < l0.length
  · obtain ⟨x, hx⟩ := get_of_lt hlt
    obtain ⟨b, off, rfl, hro⟩ := slc_some hrow (by omega)
    have hrw := hro.mono hb (Nat.le_refl _)
    have c0 := hrw.flat0 2 Bind.len hx rfl
    have c1 := hrw.flat 2 Bind.len hx 1 rfl
    rw [drop_cons hx] at hrel
    clear hx
    by_cases hxy : (x.name.toList == s1.toList) = true
    · go_wp2
      go_ret
      exact ⟨ret_int (by rw [hrel.out, varOf, if_pos hxy]), hb⟩
    · have hxy' : (x.name.toList == s1.toList) = false := by simpa using hxy
      go_wp2
      go_roundw
      case rel => exact ⟨k + 1, by go_num, by omega, hb, by rw [hrel.out, varOf, if_neg hxy]; exact hid rfl⟩
      case measure => simp [intOf]; omega
  · go_wp2
    go_ret
    exact ⟨ret_int (by rw [hrel.out, List.drop_of_length_le (by omega), varOf]), hb⟩

set_option maxRecDepth 100000 in
theorem implVarOf_any (l0 : List Bind) (v0 : Value) (s1 : ByteArray) (w : World) (hx0 : ∀ x ∈ l0, x.Ok) (hn0 : bulk Bind.sizes l0 ≤ 1048576) (hv0 : Slc w v0 2 l0.length (l0.flatMap Bind.cells)) (hs1 : s1.size ≤ 1048576) :
    Calls Tryz.prog 141 #[v0, .string s1] w fun e w' => e = .returned (.int .i64 (varOf s1 l0)) ∧ Below w.heap.size w w' := by
  obtain ⟨_, a, cap, rfl, hc, hm, hrow⟩ := hv0
  unfold maxLen at hm
  go_enter Tryz.func141, Tryz.ntmps141
  go_wp2
  go_loopw [9] (fun i wr => ∃ (k : Nat), i = .int .i64 k ∧ k ≤ l0.length ∧ Below w.heap.size w wr ∧ Hid (varOf s1 l0 = varOf s1 (l0.drop k))) (fun i _ => l0.length - (intOf i).toNat)
  case atStart => exact ⟨0, rfl, by omega, Below.refl _ _, hid rfl⟩
  obtain ⟨k, rfl, hk, hb, hrel⟩ := hrel
  have hbs := hb.size
  by_cases hlt : k < l0.length
  · obtain ⟨x, hx⟩ := get_of_lt hlt
    obtain ⟨b, off, rfl, hro⟩ := slc_some hrow (by omega)
    have hrw := hro.mono hb (Nat.le_refl _)
    have c0 := hrw.flat0 2 Bind.len hx rfl
    have c1 := hrw.flat 2 Bind.len hx 1 rfl
    rw [drop_cons hx] at hrel
    clear hx
    by_cases hxy : (x.name.toList == s1.toList) = true
    · go_wp2
      go_ret
      exact ⟨ret_int (by rw [hrel.out, varOf, if_pos hxy]), by repeat (first | exact hb | refine Below.alloc ?_ (by first | omega | (simp; done) | (simp; omega)) _ | refine Below.drew ?_)⟩
    · have hxy' : (x.name.toList == s1.toList) = false := by simpa using hxy
      go_wp2
      go_roundw
      case rel => exact ⟨k + 1, by go_num, by omega, by repeat (first | exact hb | refine Below.alloc ?_ (by first | omega | (simp; done) | (simp; omega)) _ | refine Below.drew ?_), by rw [hrel.out, varOf, if_neg hxy]; exact hid rfl⟩
      case measure => simp [intOf]; omega
  · go_wp2
    go_ret
    exact ⟨ret_int (by rw [hrel.out, List.drop_of_length_le (by omega), varOf]), hb⟩

end Go.Proofs.YtmemgmcopnaogaaGreatDoor
