/- Walks and lemmas of this seat (FNumEnd): what each theorem says of the functions that it names. Conditions: those that each theorem states. -/
import Derived.Test.YtkelhmgdajiocaaGreatDoorGC
namespace Go.Proofs.YtkelhmgdajiocaaGreatDoor
set_option linter.unusedVariables false
set_option linter.unusedSimpArgs false
open Go.RowKit


set_option maxRecDepth 100000 in
set_option maxHeartbeats 6400000 in
theorem specNumEnd_zero (s : ByteArray) (w : World) (hs : s.size ≤ 1048576) : Calls Tryz.prog 154 #[.string s, .int .i64 0] w fun e w' => e = .returned (.int .i64 (numEnd s.data.toList)) ∧ w' = w := by
  have hl : s.data.toList.length = s.size := rfl
  have hD : ∀ k : Int, 0 ≤ k → k ≤ 2097152 → Calls Tryz.prog 170 #[.string s, .int .i64 k] w fun e w' => e = .returned (.int .i64 (k + digI s.data.toList k)) ∧ w' = w := fun k h0 hk => specl4Digits_any s k w hs h0 hk
  have hB : ∀ k : Int, Calls Tryz.prog 171 #[.string s, .int .i64 k] w fun e w' => e = .returned (.int .i64 (byteI s.data.toList k)) ∧ w' = w := fun k => specl4Byte_any s k w hs
  generalize s.data.toList = L at hl hD hB ⊢
  have hR0 : numEnd L = if byteI L (digI L 0) = 46 then (if digI L 0 = 0 ∧ digI L (digI L 0 + 1) = 0 then -1 else numExp L (digI L 0 + 1 + digI L (digI L 0 + 1))) else if digI L 0 = 0 then -1 else numExp L (digI L 0) := rfl
  generalize numEnd L = ans at hR0 ⊢
  have f0 := digI_facts L _ hl 0
  have g0 := digI_facts2 L _ hl 0 (by omega)
  have C0 := hD 0 (by omega) (by omega)
  rw [Int.zero_add] at C0 g0
  generalize digI L 0 = d0 at hR0 f0 g0 C0
  have B0 := hB d0
  generalize hb0 : byteI L d0 = b0 at hR0 B0
  replace hb0 := hid hb0
  by_cases hb : b0 = 46
  · rw [if_pos hb] at hR0
    have f1 := digI_facts L _ hl (d0 + 1)
    have g1 := digI_facts2 L _ hl (d0 + 1) (by omega)
    have C1 := hD (d0 + 1) (by omega) (by omega)
    generalize digI L (d0 + 1) = d1 at hR0 f1 g1 C1
    by_cases hdd : d0 = 0 ∧ d1 = 0
    · rw [if_pos hdd] at hR0
      obtain ⟨rfl, rfl⟩ := hdd
      simp only [Int.zero_add, Int.add_zero] at C1
      have hR := hid (hR0)
      clear hR0 hD hB
      try clear g0
      try clear g1
      try clear g2
      try clear g3
      try clear hl
      go_enter Tryz.func154, Tryz.ntmps154
      go_wp2_with (first | (go_at_call 170; refine Calls.mono (by with_reducible assumption) ?_; rintro e w' ⟨rfl, rfl⟩) | (go_at_call 171; refine Calls.mono (by with_reducible assumption) ?_; rintro e w' ⟨rfl, rfl⟩))
      all_goals first | go_ret | fail
      all_goals first | exact ⟨ret_int hR.out.symm, rfl⟩ | (exfalso; simp only [beq_iff_eq, beq_eq_false_iff_ne, ne_eq] at *; omega) | (exfalso; have hE2 := hE.out; simp only [beq_iff_eq, beq_eq_false_iff_ne, ne_eq] at *; omega)
    · rw [if_neg hdd] at hR0
      obtain ⟨E, hE⟩ : ∃ E : Int, E = d0 + 1 + d1 := ⟨_, rfl⟩
      rw [← hE] at hR0 C1
      have hE0 : 1 ≤ E ∧ E ≤ 1048577 ∧ d0 + 1 ≤ E := by omega
      replace hE := hid hE
      have hX : ans = numExp L (E) := hR0
      have B1 := hB (E)
      have hU : numExp L (E) = if byteI L (E) = 101 ∨ byteI L (E) = 69 then (if byteI L (E + 1) = 43 ∨ byteI L (E + 1) = 45 then (if 0 < digI L (E + 1 + 1) then E + 1 + 1 + digI L (E + 1 + 1) else E) else if 0 < digI L (E + 1) then E + 1 + digI L (E + 1) else E) else E := rfl
      have B2 := hB (E + 1)
      have f2 := digI_facts L _ hl (E + 1)
      have g2 := digI_facts2 L _ hl (E + 1) (by omega)
      have C2 := hD (E + 1) (by omega) (by omega)
      have f3 := digI_facts L _ hl (E + 1 + 1)
      have g3 := digI_facts2 L _ hl (E + 1 + 1) (by omega)
      have C3 := hD (E + 1 + 1) (by omega) (by omega)
      generalize digI L (E + 1) = d2 at hU f2 g2 C2
      generalize digI L (E + 1 + 1) = d3 at hU f3 g3 C3
      generalize byteI L (E) = b1 at hU B1
      generalize byteI L (E + 1) = b2 at hU B2
      rw [← hX] at hU
      clear hX
      by_cases h1 : b1 = 101 ∨ b1 = 69
      · rw [if_pos h1] at hU
        by_cases h2 : b2 = 43 ∨ b2 = 45
        · rw [if_pos h2] at hU
          by_cases h3 : 0 < d3
          · rw [if_pos h3] at hU
            rcases h1 with h1 | h1 <;> rcases h2 with h2 | h2
            all_goals
              have hR := hid (hU)
              clear hR0 hD hB
              try clear g0
              try clear g1
              try clear g2
              try clear g3
              try clear hl
              go_enter Tryz.func154, Tryz.ntmps154
              go_wp2_with (first | (go_at_call 170; refine Calls.mono (by with_reducible assumption) ?_; rintro e w' ⟨rfl, rfl⟩) | (go_at_call 171; refine Calls.mono (by with_reducible assumption) ?_; rintro e w' ⟨rfl, rfl⟩))
              all_goals first | go_ret | fail
              all_goals first | exact ⟨ret_int hR.out.symm, rfl⟩ | (exfalso; simp only [beq_iff_eq, beq_eq_false_iff_ne, ne_eq] at *; omega) | (exfalso; have hE2 := hE.out; simp only [beq_iff_eq, beq_eq_false_iff_ne, ne_eq] at *; omega)
          · rw [if_neg h3] at hU
            rcases h1 with h1 | h1 <;> rcases h2 with h2 | h2
            all_goals
              have hR := hid (hU)
              clear hR0 hD hB
              try clear g0
              try clear g1
              try clear g2
              try clear g3
              try clear hl
              go_enter Tryz.func154, Tryz.ntmps154
              go_wp2_with (first | (go_at_call 170; refine Calls.mono (by with_reducible assumption) ?_; rintro e w' ⟨rfl, rfl⟩) | (go_at_call 171; refine Calls.mono (by with_reducible assumption) ?_; rintro e w' ⟨rfl, rfl⟩))
              all_goals first | go_ret | fail
              all_goals first | exact ⟨ret_int hR.out.symm, rfl⟩ | (exfalso; simp only [beq_iff_eq, beq_eq_false_iff_ne, ne_eq] at *; omega) | (exfalso; have hE2 := hE.out; simp only [beq_iff_eq, beq_eq_false_iff_ne, ne_eq] at *; omega)
        · rw [if_neg h2] at hU
          have h21 : ¬ b2 = 43 := fun h => h2 (.inl h)
          have h22 : ¬ b2 = 45 := fun h => h2 (.inr h)
          clear h2
          by_cases h3 : 0 < d2
          · rw [if_pos h3] at hU
            rcases h1 with h1 | h1
            all_goals
              have hR := hid (hU)
              clear hR0 hD hB
              try clear g0
              try clear g1
              try clear g2
              try clear g3
              try clear hl
              go_enter Tryz.func154, Tryz.ntmps154
              go_wp2_with (first | (go_at_call 170; refine Calls.mono (by with_reducible assumption) ?_; rintro e w' ⟨rfl, rfl⟩) | (go_at_call 171; refine Calls.mono (by with_reducible assumption) ?_; rintro e w' ⟨rfl, rfl⟩))
              all_goals first | go_ret | fail
              all_goals first | exact ⟨ret_int hR.out.symm, rfl⟩ | (exfalso; simp only [beq_iff_eq, beq_eq_false_iff_ne, ne_eq] at *; omega) | (exfalso; have hE2 := hE.out; simp only [beq_iff_eq, beq_eq_false_iff_ne, ne_eq] at *; omega)
          · rw [if_neg h3] at hU
            rcases h1 with h1 | h1
            all_goals
              have hR := hid (hU)
              clear hR0 hD hB
              try clear g0
              try clear g1
              try clear g2
              try clear g3
              try clear hl
              go_enter Tryz.func154, Tryz.ntmps154
              go_wp2_with (first | (go_at_call 170; refine Calls.mono (by with_reducible assumption) ?_; rintro e w' ⟨rfl, rfl⟩) | (go_at_call 171; refine Calls.mono (by with_reducible assumption) ?_; rintro e w' ⟨rfl, rfl⟩))
              all_goals first | go_ret | fail
              all_goals first | exact ⟨ret_int hR.out.symm, rfl⟩ | (exfalso; simp only [beq_iff_eq, beq_eq_false_iff_ne, ne_eq] at *; omega) | (exfalso; have hE2 := hE.out; simp only [beq_iff_eq, beq_eq_false_iff_ne, ne_eq] at *; omega)
      · rw [if_neg h1] at hU
        have h11 : ¬ b1 = 101 := fun h => h1 (.inl h)
        have h12 : ¬ b1 = 69 := fun h => h1 (.inr h)
        clear h1
        have hR := hid (hU)
        clear hR0 hD hB
        try clear g0
        try clear g1
        try clear g2
        try clear g3
        try clear hl
        go_enter Tryz.func154, Tryz.ntmps154
        go_wp2_with (first | (go_at_call 170; refine Calls.mono (by with_reducible assumption) ?_; rintro e w' ⟨rfl, rfl⟩) | (go_at_call 171; refine Calls.mono (by with_reducible assumption) ?_; rintro e w' ⟨rfl, rfl⟩))
        all_goals first | go_ret | fail
        all_goals first | exact ⟨ret_int hR.out.symm, rfl⟩ | (exfalso; simp only [beq_iff_eq, beq_eq_false_iff_ne, ne_eq] at *; omega) | (exfalso; have hE2 := hE.out; simp only [beq_iff_eq, beq_eq_false_iff_ne, ne_eq] at *; omega)
  · rw [if_neg hb] at hR0
    by_cases hdd : d0 = 0
    · rw [if_pos hdd] at hR0
      subst hdd
      have hR := hid (hR0)
      clear hR0 hD hB
      try clear g0
      try clear g1
      try clear g2
      try clear g3
      try clear hl
      go_enter Tryz.func154, Tryz.ntmps154
      go_wp2_with (first | (go_at_call 170; refine Calls.mono (by with_reducible assumption) ?_; rintro e w' ⟨rfl, rfl⟩) | (go_at_call 171; refine Calls.mono (by with_reducible assumption) ?_; rintro e w' ⟨rfl, rfl⟩))
      all_goals first | go_ret | fail
      all_goals first | exact ⟨ret_int hR.out.symm, rfl⟩ | (exfalso; simp only [beq_iff_eq, beq_eq_false_iff_ne, ne_eq] at *; omega) | (exfalso; have hE2 := hE.out; simp only [beq_iff_eq, beq_eq_false_iff_ne, ne_eq] at *; omega)
    · rw [if_neg hdd] at hR0
      have hX : ans = numExp L (d0) := hR0
      have hU : numExp L (d0) = if byteI L (d0) = 101 ∨ byteI L (d0) = 69 then (if byteI L (d0 + 1) = 43 ∨ byteI L (d0 + 1) = 45 then (if 0 < digI L (d0 + 1 + 1) then d0 + 1 + 1 + digI L (d0 + 1 + 1) else d0) else if 0 < digI L (d0 + 1) then d0 + 1 + digI L (d0 + 1) else d0) else d0 := rfl
      have B2 := hB (d0 + 1)
      have f2 := digI_facts L _ hl (d0 + 1)
      have g2 := digI_facts2 L _ hl (d0 + 1) (by omega)
      have C2 := hD (d0 + 1) (by omega) (by omega)
      have f3 := digI_facts L _ hl (d0 + 1 + 1)
      have g3 := digI_facts2 L _ hl (d0 + 1 + 1) (by omega)
      have C3 := hD (d0 + 1 + 1) (by omega) (by omega)
      generalize digI L (d0 + 1) = d2 at hU f2 g2 C2
      generalize digI L (d0 + 1 + 1) = d3 at hU f3 g3 C3
      rw [hb0.out] at hU
      clear hb0
      generalize byteI L (d0 + 1) = b2 at hU B2
      rw [← hX] at hU
      clear hX
      by_cases h1 : b0 = 101 ∨ b0 = 69
      · rw [if_pos h1] at hU
        by_cases h2 : b2 = 43 ∨ b2 = 45
        · rw [if_pos h2] at hU
          by_cases h3 : 0 < d3
          · rw [if_pos h3] at hU
            rcases h1 with h1 | h1 <;> rcases h2 with h2 | h2
            all_goals
              have hR := hid (hU)
              clear hR0 hD hB
              try clear g0
              try clear g1
              try clear g2
              try clear g3
              try clear hl
              go_enter Tryz.func154, Tryz.ntmps154
              go_wp2_with (first | (go_at_call 170; refine Calls.mono (by with_reducible assumption) ?_; rintro e w' ⟨rfl, rfl⟩) | (go_at_call 171; refine Calls.mono (by with_reducible assumption) ?_; rintro e w' ⟨rfl, rfl⟩))
              all_goals first | go_ret | fail
              all_goals first | exact ⟨ret_int hR.out.symm, rfl⟩ | (exfalso; simp only [beq_iff_eq, beq_eq_false_iff_ne, ne_eq] at *; omega) | (exfalso; have hE2 := hE.out; simp only [beq_iff_eq, beq_eq_false_iff_ne, ne_eq] at *; omega)
          · rw [if_neg h3] at hU
            rcases h1 with h1 | h1 <;> rcases h2 with h2 | h2
            all_goals
              have hR := hid (hU)
              clear hR0 hD hB
              try clear g0
              try clear g1
              try clear g2
              try clear g3
              try clear hl
              go_enter Tryz.func154, Tryz.ntmps154
              go_wp2_with (first | (go_at_call 170; refine Calls.mono (by with_reducible assumption) ?_; rintro e w' ⟨rfl, rfl⟩) | (go_at_call 171; refine Calls.mono (by with_reducible assumption) ?_; rintro e w' ⟨rfl, rfl⟩))
              all_goals first | go_ret | fail
              all_goals first | exact ⟨ret_int hR.out.symm, rfl⟩ | (exfalso; simp only [beq_iff_eq, beq_eq_false_iff_ne, ne_eq] at *; omega) | (exfalso; have hE2 := hE.out; simp only [beq_iff_eq, beq_eq_false_iff_ne, ne_eq] at *; omega)
        · rw [if_neg h2] at hU
          have h21 : ¬ b2 = 43 := fun h => h2 (.inl h)
          have h22 : ¬ b2 = 45 := fun h => h2 (.inr h)
          clear h2
          by_cases h3 : 0 < d2
          · rw [if_pos h3] at hU
            rcases h1 with h1 | h1
            all_goals
              have hR := hid (hU)
              clear hR0 hD hB
              try clear g0
              try clear g1
              try clear g2
              try clear g3
              try clear hl
              go_enter Tryz.func154, Tryz.ntmps154
              go_wp2_with (first | (go_at_call 170; refine Calls.mono (by with_reducible assumption) ?_; rintro e w' ⟨rfl, rfl⟩) | (go_at_call 171; refine Calls.mono (by with_reducible assumption) ?_; rintro e w' ⟨rfl, rfl⟩))
              all_goals first | go_ret | fail
              all_goals first | exact ⟨ret_int hR.out.symm, rfl⟩ | (exfalso; simp only [beq_iff_eq, beq_eq_false_iff_ne, ne_eq] at *; omega) | (exfalso; have hE2 := hE.out; simp only [beq_iff_eq, beq_eq_false_iff_ne, ne_eq] at *; omega)
          · rw [if_neg h3] at hU
            rcases h1 with h1 | h1
            all_goals
              have hR := hid (hU)
              clear hR0 hD hB
              try clear g0
              try clear g1
              try clear g2
              try clear g3
              try clear hl
              go_enter Tryz.func154, Tryz.ntmps154
              go_wp2_with (first | (go_at_call 170; refine Calls.mono (by with_reducible assumption) ?_; rintro e w' ⟨rfl, rfl⟩) | (go_at_call 171; refine Calls.mono (by with_reducible assumption) ?_; rintro e w' ⟨rfl, rfl⟩))
              all_goals first | go_ret | fail
              all_goals first | exact ⟨ret_int hR.out.symm, rfl⟩ | (exfalso; simp only [beq_iff_eq, beq_eq_false_iff_ne, ne_eq] at *; omega) | (exfalso; have hE2 := hE.out; simp only [beq_iff_eq, beq_eq_false_iff_ne, ne_eq] at *; omega)
      · rw [if_neg h1] at hU
        have h11 : ¬ b0 = 101 := fun h => h1 (.inl h)
        have h12 : ¬ b0 = 69 := fun h => h1 (.inr h)
        clear h1
        have hR := hid (hU)
        clear hR0 hD hB
        try clear g0
        try clear g1
        try clear g2
        try clear g3
        try clear hl
        go_enter Tryz.func154, Tryz.ntmps154
        go_wp2_with (first | (go_at_call 170; refine Calls.mono (by with_reducible assumption) ?_; rintro e w' ⟨rfl, rfl⟩) | (go_at_call 171; refine Calls.mono (by with_reducible assumption) ?_; rintro e w' ⟨rfl, rfl⟩))
        all_goals first | go_ret | fail
        all_goals first | exact ⟨ret_int hR.out.symm, rfl⟩ | (exfalso; simp only [beq_iff_eq, beq_eq_false_iff_ne, ne_eq] at *; omega) | (exfalso; have hE2 := hE.out; simp only [beq_iff_eq, beq_eq_false_iff_ne, ne_eq] at *; omega)
end Go.Proofs.YtkelhmgdajiocaaGreatDoor
/- Walks and lemmas of this seat (FNumEnd2): what each theorem says of the functions that it names. Conditions: those that each theorem states. -/
namespace Go.Proofs.YtkelhmgdajiocaaGreatDoor
set_option linter.unusedVariables false
set_option linter.unusedSimpArgs false
open Go.RowKit


set_option maxRecDepth 100000 in
set_option maxHeartbeats 6400000 in
theorem implNumEnd_zero (s : ByteArray) (w : World) (hs : s.size ≤ 1048576) : Calls Tryz.prog 177 #[.string s, .int .i64 0] w fun e w' => e = .returned (.int .i64 (numEnd s.data.toList)) ∧ w' = w := by
  have hl : s.data.toList.length = s.size := rfl
  have hD : ∀ k : Int, 0 ≤ k → k ≤ 2097152 → Calls Tryz.prog 186 #[.string s, .int .i64 k] w fun e w' => e = .returned (.int .i64 (k + digI s.data.toList k)) ∧ w' = w := fun k h0 hk => impldigitsEnd_any s k w hs h0 hk
  have hB : ∀ k : Int, Calls Tryz.prog 187 #[.string s, .int .i64 k] w fun e w' => e = .returned (.int .i64 (byteI s.data.toList k)) ∧ w' = w := fun k => implbyteAt_any s k w hs
  generalize s.data.toList = L at hl hD hB ⊢
  have hR0 : numEnd L = if byteI L (digI L 0) = 46 then (if digI L 0 = 0 ∧ digI L (digI L 0 + 1) = 0 then -1 else numExp L (digI L 0 + 1 + digI L (digI L 0 + 1))) else if digI L 0 = 0 then -1 else numExp L (digI L 0) := rfl
  generalize numEnd L = ans at hR0 ⊢
  have f0 := digI_facts L _ hl 0
  have g0 := digI_facts2 L _ hl 0 (by omega)
  have C0 := hD 0 (by omega) (by omega)
  rw [Int.zero_add] at C0 g0
  generalize digI L 0 = d0 at hR0 f0 g0 C0
  have B0 := hB d0
  generalize hb0 : byteI L d0 = b0 at hR0 B0
  replace hb0 := hid hb0
  by_cases hz : s.size = 0
  · have hin : inB (0 : Int) 0 ((s.size : Int) - 1) = false := by unfold inB; simp; omega
    have hR : Hid (ans = -1) := hid (by
      have e0 : d0 = 0 := by omega
      have e1 : digI L (d0 + 1) = 0 := by have := digI_facts L _ hl (d0 + 1); omega
      rw [hR0, e0] at *
      simp only [true_and] at *
      split <;> simp_all)
    clear hR0 hD hB C0 B0 f0 g0
    replace hz := hid hz
    go_enter Tryz.func177, Tryz.ntmps177
    go_wp2_with (go_at_call 45; refine (implwithin_any _ _ _ _).mono ?_; rintro e w' ⟨rfl, rfl⟩; rw [hin])
    go_ret
    exact ⟨ret_int hR.out.symm, rfl⟩
  have hin : inB (0 : Int) 0 ((s.size : Int) - 1) = true := by unfold inB; simp; omega
  by_cases hb : b0 = 46
  · rw [if_pos hb] at hR0
    have f1 := digI_facts L _ hl (d0 + 1)
    have g1 := digI_facts2 L _ hl (d0 + 1) (by omega)
    have C1 := hD (d0 + 1) (by omega) (by omega)
    generalize digI L (d0 + 1) = d1 at hR0 f1 g1 C1
    by_cases hdd : d0 = 0 ∧ d1 = 0
    · rw [if_pos hdd] at hR0
      obtain ⟨rfl, rfl⟩ := hdd
      simp only [Int.zero_add, Int.add_zero] at C1
      have hR := hid (hR0)
      clear hR0 hD hB
      try clear g0
      try clear g1
      try clear g2
      try clear g3
      try clear hl
      go_enter Tryz.func177, Tryz.ntmps177
      go_wp2_with (first | (go_at_call 186; refine Calls.mono (by with_reducible assumption) ?_; rintro e w' ⟨rfl, rfl⟩) | (go_at_call 187; refine Calls.mono (by with_reducible assumption) ?_; rintro e w' ⟨rfl, rfl⟩) | (go_at_call 45; refine (implwithin_any _ _ _ _).mono ?_; rintro e w' ⟨rfl, rfl⟩; rw [hin]))
      all_goals first | go_ret | fail
      all_goals first | exact ⟨ret_int hR.out.symm, rfl⟩ | (exfalso; simp only [beq_iff_eq, beq_eq_false_iff_ne, ne_eq] at *; omega) | (exfalso; have hE2 := hE.out; simp only [beq_iff_eq, beq_eq_false_iff_ne, ne_eq] at *; omega)
    · rw [if_neg hdd] at hR0
      obtain ⟨E, hE⟩ : ∃ E : Int, E = d0 + 1 + d1 := ⟨_, rfl⟩
      rw [← hE] at hR0 C1
      have hE0 : 1 ≤ E ∧ E ≤ 1048577 ∧ d0 + 1 ≤ E := by omega
      replace hE := hid hE
      have hX : ans = numExp L (E) := hR0
      have B1 := hB (E)
      have hU : numExp L (E) = if byteI L (E) = 101 ∨ byteI L (E) = 69 then (if byteI L (E + 1) = 43 ∨ byteI L (E + 1) = 45 then (if 0 < digI L (E + 1 + 1) then E + 1 + 1 + digI L (E + 1 + 1) else E) else if 0 < digI L (E + 1) then E + 1 + digI L (E + 1) else E) else E := rfl
      have B2 := hB (E + 1)
      have f2 := digI_facts L _ hl (E + 1)
      have g2 := digI_facts2 L _ hl (E + 1) (by omega)
      have C2 := hD (E + 1) (by omega) (by omega)
      have f3 := digI_facts L _ hl (E + 1 + 1)
      have g3 := digI_facts2 L _ hl (E + 1 + 1) (by omega)
      have C3 := hD (E + 1 + 1) (by omega) (by omega)
      generalize digI L (E + 1) = d2 at hU f2 g2 C2
      generalize digI L (E + 1 + 1) = d3 at hU f3 g3 C3
      generalize byteI L (E) = b1 at hU B1
      generalize byteI L (E + 1) = b2 at hU B2
      rw [← hX] at hU
      clear hX
      by_cases h1 : b1 = 101 ∨ b1 = 69
      · rw [if_pos h1] at hU
        by_cases h2 : b2 = 43 ∨ b2 = 45
        · rw [if_pos h2] at hU
          by_cases h3 : 0 < d3
          · rw [if_pos h3] at hU
            rcases h1 with h1 | h1 <;> rcases h2 with h2 | h2
            all_goals
              have hR := hid (hU)
              clear hR0 hD hB
              try clear g0
              try clear g1
              try clear g2
              try clear g3
              try clear hl
              go_enter Tryz.func177, Tryz.ntmps177
              go_wp2_with (first | (go_at_call 186; refine Calls.mono (by with_reducible assumption) ?_; rintro e w' ⟨rfl, rfl⟩) | (go_at_call 187; refine Calls.mono (by with_reducible assumption) ?_; rintro e w' ⟨rfl, rfl⟩) | (go_at_call 45; refine (implwithin_any _ _ _ _).mono ?_; rintro e w' ⟨rfl, rfl⟩; rw [hin]))
              all_goals first | go_ret | fail
              all_goals first | exact ⟨ret_int hR.out.symm, rfl⟩ | (exfalso; simp only [beq_iff_eq, beq_eq_false_iff_ne, ne_eq] at *; omega) | (exfalso; have hE2 := hE.out; simp only [beq_iff_eq, beq_eq_false_iff_ne, ne_eq] at *; omega)
          · rw [if_neg h3] at hU
            rcases h1 with h1 | h1 <;> rcases h2 with h2 | h2
            all_goals
              have hR := hid (hU)
              clear hR0 hD hB
              try clear g0
              try clear g1
              try clear g2
              try clear g3
              try clear hl
              go_enter Tryz.func177, Tryz.ntmps177
              go_wp2_with (first | (go_at_call 186; refine Calls.mono (by with_reducible assumption) ?_; rintro e w' ⟨rfl, rfl⟩) | (go_at_call 187; refine Calls.mono (by with_reducible assumption) ?_; rintro e w' ⟨rfl, rfl⟩) | (go_at_call 45; refine (implwithin_any _ _ _ _).mono ?_; rintro e w' ⟨rfl, rfl⟩; rw [hin]))
              all_goals first | go_ret | fail
              all_goals first | exact ⟨ret_int hR.out.symm, rfl⟩ | (exfalso; simp only [beq_iff_eq, beq_eq_false_iff_ne, ne_eq] at *; omega) | (exfalso; have hE2 := hE.out; simp only [beq_iff_eq, beq_eq_false_iff_ne, ne_eq] at *; omega)
        · rw [if_neg h2] at hU
          have h21 : ¬ b2 = 43 := fun h => h2 (.inl h)
          have h22 : ¬ b2 = 45 := fun h => h2 (.inr h)
          clear h2
          by_cases h3 : 0 < d2
          · rw [if_pos h3] at hU
            rcases h1 with h1 | h1
            all_goals
              have hR := hid (hU)
              clear hR0 hD hB
              try clear g0
              try clear g1
              try clear g2
              try clear g3
              try clear hl
              go_enter Tryz.func177, Tryz.ntmps177
              go_wp2_with (first | (go_at_call 186; refine Calls.mono (by with_reducible assumption) ?_; rintro e w' ⟨rfl, rfl⟩) | (go_at_call 187; refine Calls.mono (by with_reducible assumption) ?_; rintro e w' ⟨rfl, rfl⟩) | (go_at_call 45; refine (implwithin_any _ _ _ _).mono ?_; rintro e w' ⟨rfl, rfl⟩; rw [hin]))
              all_goals first | go_ret | fail
              all_goals first | exact ⟨ret_int hR.out.symm, rfl⟩ | (exfalso; simp only [beq_iff_eq, beq_eq_false_iff_ne, ne_eq] at *; omega) | (exfalso; have hE2 := hE.out; simp only [beq_iff_eq, beq_eq_false_iff_ne, ne_eq] at *; omega)
          · rw [if_neg h3] at hU
            rcases h1 with h1 | h1
            all_goals
              have hR := hid (hU)
              clear hR0 hD hB
              try clear g0
              try clear g1
              try clear g2
              try clear g3
              try clear hl
              go_enter Tryz.func177, Tryz.ntmps177
              go_wp2_with (first | (go_at_call 186; refine Calls.mono (by with_reducible assumption) ?_; rintro e w' ⟨rfl, rfl⟩) | (go_at_call 187; refine Calls.mono (by with_reducible assumption) ?_; rintro e w' ⟨rfl, rfl⟩) | (go_at_call 45; refine (implwithin_any _ _ _ _).mono ?_; rintro e w' ⟨rfl, rfl⟩; rw [hin]))
              all_goals first | go_ret | fail
              all_goals first | exact ⟨ret_int hR.out.symm, rfl⟩ | (exfalso; simp only [beq_iff_eq, beq_eq_false_iff_ne, ne_eq] at *; omega) | (exfalso; have hE2 := hE.out; simp only [beq_iff_eq, beq_eq_false_iff_ne, ne_eq] at *; omega)
      · rw [if_neg h1] at hU
        have h11 : ¬ b1 = 101 := fun h => h1 (.inl h)
        have h12 : ¬ b1 = 69 := fun h => h1 (.inr h)
        clear h1
        have hR := hid (hU)
        clear hR0 hD hB
        try clear g0
        try clear g1
        try clear g2
        try clear g3
        try clear hl
        go_enter Tryz.func177, Tryz.ntmps177
        go_wp2_with (first | (go_at_call 186; refine Calls.mono (by with_reducible assumption) ?_; rintro e w' ⟨rfl, rfl⟩) | (go_at_call 187; refine Calls.mono (by with_reducible assumption) ?_; rintro e w' ⟨rfl, rfl⟩) | (go_at_call 45; refine (implwithin_any _ _ _ _).mono ?_; rintro e w' ⟨rfl, rfl⟩; rw [hin]))
        all_goals first | go_ret | fail
        all_goals first | exact ⟨ret_int hR.out.symm, rfl⟩ | (exfalso; simp only [beq_iff_eq, beq_eq_false_iff_ne, ne_eq] at *; omega) | (exfalso; have hE2 := hE.out; simp only [beq_iff_eq, beq_eq_false_iff_ne, ne_eq] at *; omega)
  · rw [if_neg hb] at hR0
    by_cases hdd : d0 = 0
    · rw [if_pos hdd] at hR0
      subst hdd
      have hR := hid (hR0)
      clear hR0 hD hB
      try clear g0
      try clear g1
      try clear g2
      try clear g3
      try clear hl
      go_enter Tryz.func177, Tryz.ntmps177
      go_wp2_with (first | (go_at_call 186; refine Calls.mono (by with_reducible assumption) ?_; rintro e w' ⟨rfl, rfl⟩) | (go_at_call 187; refine Calls.mono (by with_reducible assumption) ?_; rintro e w' ⟨rfl, rfl⟩) | (go_at_call 45; refine (implwithin_any _ _ _ _).mono ?_; rintro e w' ⟨rfl, rfl⟩; rw [hin]))
      all_goals first | go_ret | fail
      all_goals first | exact ⟨ret_int hR.out.symm, rfl⟩ | (exfalso; simp only [beq_iff_eq, beq_eq_false_iff_ne, ne_eq] at *; omega) | (exfalso; have hE2 := hE.out; simp only [beq_iff_eq, beq_eq_false_iff_ne, ne_eq] at *; omega)
    · rw [if_neg hdd] at hR0
      have hX : ans = numExp L (d0) := hR0
      have hU : numExp L (d0) = if byteI L (d0) = 101 ∨ byteI L (d0) = 69 then (if byteI L (d0 + 1) = 43 ∨ byteI L (d0 + 1) = 45 then (if 0 < digI L (d0 + 1 + 1) then d0 + 1 + 1 + digI L (d0 + 1 + 1) else d0) else if 0 < digI L (d0 + 1) then d0 + 1 + digI L (d0 + 1) else d0) else d0 := rfl
      have B2 := hB (d0 + 1)
      have f2 := digI_facts L _ hl (d0 + 1)
      have g2 := digI_facts2 L _ hl (d0 + 1) (by omega)
      have C2 := hD (d0 + 1) (by omega) (by omega)
      have f3 := digI_facts L _ hl (d0 + 1 + 1)
      have g3 := digI_facts2 L _ hl (d0 + 1 + 1) (by omega)
      have C3 := hD (d0 + 1 + 1) (by omega) (by omega)
      generalize digI L (d0 + 1) = d2 at hU f2 g2 C2
      generalize digI L (d0 + 1 + 1) = d3 at hU f3 g3 C3
      rw [hb0.out] at hU
      clear hb0
      generalize byteI L (d0 + 1) = b2 at hU B2
      rw [← hX] at hU
      clear hX
      by_cases h1 : b0 = 101 ∨ b0 = 69
      · rw [if_pos h1] at hU
        by_cases h2 : b2 = 43 ∨ b2 = 45
        · rw [if_pos h2] at hU
          by_cases h3 : 0 < d3
          · rw [if_pos h3] at hU
            rcases h1 with h1 | h1 <;> rcases h2 with h2 | h2
            all_goals
              have hR := hid (hU)
              clear hR0 hD hB
              try clear g0
              try clear g1
              try clear g2
              try clear g3
              try clear hl
              go_enter Tryz.func177, Tryz.ntmps177
              go_wp2_with (first | (go_at_call 186; refine Calls.mono (by with_reducible assumption) ?_; rintro e w' ⟨rfl, rfl⟩) | (go_at_call 187; refine Calls.mono (by with_reducible assumption) ?_; rintro e w' ⟨rfl, rfl⟩) | (go_at_call 45; refine (implwithin_any _ _ _ _).mono ?_; rintro e w' ⟨rfl, rfl⟩; rw [hin]))
              all_goals first | go_ret | fail
              all_goals first | exact ⟨ret_int hR.out.symm, rfl⟩ | (exfalso; simp only [beq_iff_eq, beq_eq_false_iff_ne, ne_eq] at *; omega) | (exfalso; have hE2 := hE.out; simp only [beq_iff_eq, beq_eq_false_iff_ne, ne_eq] at *; omega)
          · rw [if_neg h3] at hU
            rcases h1 with h1 | h1 <;> rcases h2 with h2 | h2
            all_goals
              have hR := hid (hU)
              clear hR0 hD hB
              try clear g0
              try clear g1
              try clear g2
              try clear g3
              try clear hl
              go_enter Tryz.func177, Tryz.ntmps177
              go_wp2_with (first | (go_at_call 186; refine Calls.mono (by with_reducible assumption) ?_; rintro e w' ⟨rfl, rfl⟩) | (go_at_call 187; refine Calls.mono (by with_reducible assumption) ?_; rintro e w' ⟨rfl, rfl⟩) | (go_at_call 45; refine (implwithin_any _ _ _ _).mono ?_; rintro e w' ⟨rfl, rfl⟩; rw [hin]))
              all_goals first | go_ret | fail
              all_goals first | exact ⟨ret_int hR.out.symm, rfl⟩ | (exfalso; simp only [beq_iff_eq, beq_eq_false_iff_ne, ne_eq] at *; omega) | (exfalso; have hE2 := hE.out; simp only [beq_iff_eq, beq_eq_false_iff_ne, ne_eq] at *; omega)
        · rw [if_neg h2] at hU
          have h21 : ¬ b2 = 43 := fun h => h2 (.inl h)
          have h22 : ¬ b2 = 45 := fun h => h2 (.inr h)
          clear h2
          by_cases h3 : 0 < d2
          · rw [if_pos h3] at hU
            rcases h1 with h1 | h1
            all_goals
              have hR := hid (hU)
              clear hR0 hD hB
              try clear g0
              try clear g1
              try clear g2
              try clear g3
              try clear hl
              go_enter Tryz.func177, Tryz.ntmps177
              go_wp2_with (first | (go_at_call 186; refine Calls.mono (by with_reducible assumption) ?_; rintro e w' ⟨rfl, rfl⟩) | (go_at_call 187; refine Calls.mono (by with_reducible assumption) ?_; rintro e w' ⟨rfl, rfl⟩) | (go_at_call 45; refine (implwithin_any _ _ _ _).mono ?_; rintro e w' ⟨rfl, rfl⟩; rw [hin]))
              all_goals first | go_ret | fail
              all_goals first | exact ⟨ret_int hR.out.symm, rfl⟩ | (exfalso; simp only [beq_iff_eq, beq_eq_false_iff_ne, ne_eq] at *; omega) | (exfalso; have hE2 := hE.out; simp only [beq_iff_eq, beq_eq_false_iff_ne, ne_eq] at *; omega)
          · rw [if_neg h3] at hU
            rcases h1 with h1 | h1
            all_goals
              have hR := hid (hU)
              clear hR0 hD hB
              try clear g0
              try clear g1
              try clear g2
              try clear g3
              try clear hl
              go_enter Tryz.func177, Tryz.ntmps177
              go_wp2_with (first | (go_at_call 186; refine Calls.mono (by with_reducible assumption) ?_; rintro e w' ⟨rfl, rfl⟩) | (go_at_call 187; refine Calls.mono (by with_reducible assumption) ?_; rintro e w' ⟨rfl, rfl⟩) | (go_at_call 45; refine (implwithin_any _ _ _ _).mono ?_; rintro e w' ⟨rfl, rfl⟩; rw [hin]))
              all_goals first | go_ret | fail
              all_goals first | exact ⟨ret_int hR.out.symm, rfl⟩ | (exfalso; simp only [beq_iff_eq, beq_eq_false_iff_ne, ne_eq] at *; omega) | (exfalso; have hE2 := hE.out; simp only [beq_iff_eq, beq_eq_false_iff_ne, ne_eq] at *; omega)
      · rw [if_neg h1] at hU
        have h11 : ¬ b0 = 101 := fun h => h1 (.inl h)
        have h12 : ¬ b0 = 69 := fun h => h1 (.inr h)
        clear h1
        have hR := hid (hU)
        clear hR0 hD hB
        try clear g0
        try clear g1
        try clear g2
        try clear g3
        try clear hl
        go_enter Tryz.func177, Tryz.ntmps177
        go_wp2_with (first | (go_at_call 186; refine Calls.mono (by with_reducible assumption) ?_; rintro e w' ⟨rfl, rfl⟩) | (go_at_call 187; refine Calls.mono (by with_reducible assumption) ?_; rintro e w' ⟨rfl, rfl⟩) | (go_at_call 45; refine (implwithin_any _ _ _ _).mono ?_; rintro e w' ⟨rfl, rfl⟩; rw [hin]))
        all_goals first | go_ret | fail
        all_goals first | exact ⟨ret_int hR.out.symm, rfl⟩ | (exfalso; simp only [beq_iff_eq, beq_eq_false_iff_ne, ne_eq] at *; omega) | (exfalso; have hE2 := hE.out; simp only [beq_iff_eq, beq_eq_false_iff_ne, ne_eq] at *; omega)
end Go.Proofs.YtkelhmgdajiocaaGreatDoor
