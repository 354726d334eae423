/- Walks and lemmas of this seat (FCommon): what each theorem says of the functions that it names. Conditions: those that each theorem states. -/
import Derived.Test.YtdnjjgidlpmgjaaFDiffOk
namespace Go.Proofs.Ytdnjjgidlpmgjaa
set_option linter.unusedVariables false
set_option linter.unusedSimpArgs false
open Go.RowKit

set_option maxRecDepth 100000 in
theorem specCommon_any (l0 : List ByteArray) (v0 : Value) (l1 : List ByteArray) (v1 : Value) (w : World) (hx0 : ∀ x ∈ l0, x.size ≤ maxLen) (hn0 : bulk ByteArray.size l0 ≤ 1048576) (hv0 : Slc w v0 1 l0.length (l0.flatMap str1)) (hx1 : ∀ x ∈ l1, x.size ≤ maxLen) (hn1 : bulk ByteArray.size l1 ≤ 1048576) (hv1 : Slc w v1 1 l1.length (l1.flatMap str1)) :
    Calls Try.prog 40 #[v0, v1] w fun e w' => e = .returned (.int .i64 (common l0 l1)) ∧ Below w.heap.size w w' := by
  have hok := (specl29Ok_any l0 l1 v0 v1 w hv0 hv1)
  have hc := (specl29Table_any l0 l1 v0 v1 w hn0 hn1 hv0 hv1)
  by_cases h : l0.length ≤ 200 ∧ l1.length ≤ 200
  · have hd := diffOk_yes h
    rw [hd] at hok
    have hcm := hid (show common l0 l1 = (lcs l0 l1 : Nat) by unfold common; rw [if_pos hd])
    clear hd
    go_enter Try.func40, Try.ntmps40
    go_wp2_with fail
    refine hok.mono ?_; rintro e w1 ⟨rfl, rfl⟩
    go_wp2_with fail
    refine hc.mono ?_; rintro e w1 ⟨rfl, ht⟩
    have t0 := ht.top.cell (i := 0) (by omega)
    rw [if_pos rfl] at t0
    have r0 := (ht.rows 0 rfl (by omega)).cell (i := 0) (by omega)
    simp only [Nat.sub_zero, Nat.add_zero] at t0 r0
    have hb := ht.below
    clear ht hok hc
    go_wp2_with fail
    go_ret
    exact ⟨ret_int (by rw [hcm.out]; rfl), hb⟩
  · have hd := diffOk_no h
    have hd' : diffOk l0 l1 = false := by simpa using hd
    rw [hd'] at hok
    have hcm := hid (show common l0 l1 = 0 by unfold common; rw [if_neg hd])
    clear hd hd' h
    go_enter Try.func40, Try.ntmps40
    go_wp2_with fail
    refine hok.mono ?_; rintro e w1 ⟨rfl, rfl⟩
    go_wp2_with fail
    go_ret
    exact ⟨ret_int hcm.out.symm, Below.refl _ _⟩

set_option maxRecDepth 100000 in
theorem implCommon_any (l0 : List ByteArray) (v0 : Value) (l1 : List ByteArray) (v1 : Value) (w : World) (hx0 : ∀ x ∈ l0, x.size ≤ maxLen) (hn0 : bulk ByteArray.size l0 ≤ 1048576) (hv0 : Slc w v0 1 l0.length (l0.flatMap str1)) (hx1 : ∀ x ∈ l1, x.size ≤ maxLen) (hn1 : bulk ByteArray.size l1 ≤ 1048576) (hv1 : Slc w v1 1 l1.length (l1.flatMap str1)) :
    Calls Try.prog 37 #[v0, v1] w fun e w' => e = .returned (.int .i64 (common l0 l1)) ∧ Below w.heap.size w w' := by
  have hc := (implcommons_any l0 l1 v0 v1 w hn0 hn1 hv0 hv1)
  obtain ⟨_, a, cap, rfl, hc', hm, hrow⟩ := hv0
  obtain ⟨_, a', cap', rfl, hc'', hm', hrow'⟩ := hv1
  unfold maxLen at hm hm'
  by_cases h : l0.length ≤ 200 ∧ l1.length ≤ 200
  · have hcm := hid (show common l0 l1 = (lcs l0 l1 : Nat) by unfold common; rw [if_pos (diffOk_yes h)])
    obtain ⟨h1, h2⟩ := h
    go_enter Try.func37, Try.ntmps37
    go_wp2_with fail
    refine hc.mono ?_; rintro e w1 ⟨rfl, ht⟩
    have t0 := ht.top.cell (i := 0) (by omega)
    rw [if_pos rfl] at t0
    have r0 := (ht.rows 0 rfl (by omega)).cell (i := 0) (by omega)
    simp only [Nat.sub_zero, Nat.add_zero] at t0 r0
    have hb := ht.below
    clear ht hc
    go_wp2_with fail
    go_ret
    exact ⟨ret_int (by rw [hcm.out]; rfl), hb⟩
  · have hcm := hid (show common l0 l1 = 0 by unfold common; rw [if_neg (diffOk_no h)])
    clear hc
    by_cases h1 : l0.length ≤ 200
    · have h2 : 200 < l1.length := by omega
      clear h
      go_enter Try.func37, Try.ntmps37
      go_wp2_with fail
      go_ret
      exact ⟨ret_int hcm.out.symm, Below.refl _ _⟩
    · clear h
      have h1 : 200 < l0.length := by omega
      go_enter Try.func37, Try.ntmps37
      go_wp2_with fail
      go_ret
      exact ⟨ret_int hcm.out.symm, Below.refl _ _⟩

end Go.Proofs.Ytdnjjgidlpmgjaa
