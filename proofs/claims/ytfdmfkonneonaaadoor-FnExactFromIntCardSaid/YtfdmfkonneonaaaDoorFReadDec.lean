/- Walks and lemmas of this seat (FReadDec): what each theorem says of the functions that it names. Conditions: those that each theorem states. -/
import Derived.Test.YtfdmfkonneonaaaDoorFDec
import Derived.WalkSmall
namespace Go.Proofs.YtfdmfkonneonaaaDoor
set_option linter.unusedVariables false
set_option linter.unusedSimpArgs false
open Go.RowKit Go.Lib

theorem sByte' {s : ByteArray} {k : Nat} (h : k < s.size) : s.data.toList[k]? = some s[k] := by
  rw [List.getElem?_eq_getElem (by simpa using h)]; rfl
theorem take_snoc {s : ByteArray} {j : Nat} (h : j < s.size) : s.data.toList.take (j + 1) = s.data.toList.take j ++ [s[j]] := by
  rw [List.take_add_one, List.getElem?_eq_getElem (by simpa using h)]; rfl
theorem dval_step {s : ByteArray} {j : Nat} (h : j < s.size) (hd : isDg s[j] = true) : dval 0 (s.data.toList.take (j + 1)) = dval 0 (s.data.toList.take j) * 10 + (s[j].toNat - 48) := by
  rw [take_snoc h, dval_append]; simp only [dval, hd, if_true]
theorem dval_skip {s : ByteArray} {j : Nat} (h : j < s.size) (hd : isDg s[j] = false) : dval 0 (s.data.toList.take (j + 1)) = dval 0 (s.data.toList.take j) := by
  rw [take_snoc h, dval_append]; simp only [dval, hd, Bool.false_eq_true, if_false]
theorem dcnt_step {s : ByteArray} {j : Nat} (h : j < s.size) (hd : isDg s[j] = true) : dcnt (s.data.toList.take (j + 1)) = dcnt (s.data.toList.take j) + 1 := by
  rw [take_snoc h, dcnt_append]; simp only [dcnt, hd, if_true]
theorem dcnt_skip {s : ByteArray} {j : Nat} (h : j < s.size) (hd : isDg s[j] = false) : dcnt (s.data.toList.take (j + 1)) = dcnt (s.data.toList.take j) := by
  rw [take_snoc h, dcnt_append]; simp only [dcnt, hd, Bool.false_eq_true, if_false]; omega
theorem dval_lt (l : List UInt8) : ∀ a k, a < 10 ^ k → dval a l < 10 ^ (k + l.length) := by
  induction l with
  | nil => intro a k h; simpa [dval] using h
  | cons c l ih =>
    intro a k h
    simp only [dval, List.length_cons]
    rw [show k + (l.length + 1) = (k + 1) + l.length by omega]
    refine ih _ _ ?_
    split
    · rename_i hc; unfold isDg at hc; simp at hc; rw [Nat.pow_succ]; omega
    · rw [Nat.pow_succ]; omega
theorem dval_11 (l : List UInt8) (j : Nat) (h : j ≤ 11) : dval 0 (l.take j) ≤ 99999999999 := by
  have := dval_lt (l.take j) 0 0 (by simp)
  have h2 : (l.take j).length ≤ 11 := by rw [List.length_take]; omega
  have h3 : 10 ^ (0 + (l.take j).length) ≤ 10 ^ 11 := Nat.pow_le_pow_right (by omega) (by omega)
  omega
theorem dcnt_le (l : List UInt8) : dcnt l ≤ l.length := by
  induction l with
  | nil => simp [dcnt]
  | cons c l ih => simp only [dcnt, List.length_cons]; split <;> omega
theorem dcnt_11 (l : List UInt8) (j : Nat) (h : j ≤ 11) : dcnt (l.take j) ≤ 11 := by
  have := dcnt_le (l.take j); rw [List.length_take] at this; omega
theorem take_end (s : ByteArray) {j : Nat} (h : j ≤ 11) (h1 : j ≤ s.size) (h2 : ¬ (j < s.size ∧ j < 11)) : s.data.toList.take j = s.data.toList.take 11 := by
  have e : s.data.toList.length = s.size := rfl
  by_cases hj : j = 11
  · rw [hj]
  · rw [List.take_of_length_le (by omega), List.take_of_length_le (by omega)]
/-- The answer of ReadDec. -/
def readEnd (s : ByteArray) : Ending := .returned (.tuple #[.int .i64 (if rdOk s.data.toList then rdVal s.data.toList else 0), .bool (rdOk s.data.toList)])

theorem rd_ret_no {c : Prop} [Decidable c] {n : Int} (h : c) : Ending.returned (.tuple #[.int .i64 0, .bool false]) = .returned (.tuple #[.int .i64 (if c then 0 else n), .bool (!decide c)]) := by rw [if_pos h]; simp [h]
theorem rd_ret_ok {c : Prop} [Decidable c] {n : Int} (h : ¬ c) : Ending.returned (.tuple #[.int .i64 n, .bool true]) = .returned (.tuple #[.int .i64 (if c then 0 else n), .bool (!decide c)]) := by rw [if_neg h]; simp [h]

set_option maxRecDepth 100000 in
set_option maxHeartbeats 1600000 in
theorem specReadDec_any (s : ByteArray) (w : World) (hs : s.size ≤ 1048576) : Calls Tryd.prog 21 #[.string s] w fun e w' => e = readEnd s ∧ Below w.heap.size w w' := by
  go_enter Tryd.func21, Tryd.ntmps21
  go_wp2
  go_loopw [4, 5, 6] (fun n k i wr => ∃ (j : Nat), i = .int .i64 j ∧ j ≤ 11 ∧ j ≤ s.size ∧ n = .int .i64 (dval 0 (s.data.toList.take j)) ∧ k = .int .i64 (dcnt (s.data.toList.take j)) ∧ Below w.heap.size w wr) (fun _ _ i _ => 11 - (RowKit.intOf i).toNat)
  case atStart => exact ⟨0, rfl, by omega, by omega, rfl, rfl, by repeat (first | exact Below.refl _ _ | refine Below.alloc ?_ (by first | omega | (simp; done) | (simp; omega)) _ | refine Below.drew ?_)⟩
  obtain ⟨j, rfl, hj, hjs, rfl, rfl, hb⟩ := hrel
  have hbs := hb.size
  have hv := dval_11 s.data.toList j hj
  have hk := dcnt_11 s.data.toList j hj
  by_cases hend : j < s.size ∧ j < 11
  · obtain ⟨h1, h2⟩ := hend
    cases hd : isDg s[j] with
    | true =>
      have hv2 := hid (dval_step h1 hd)
      have hk2 := hid (dcnt_step h1 hd)
      have hd1 : 48 ≤ s[j].toNat ∧ s[j].toNat ≤ 57 := by unfold isDg at hd; simpa using hd
      generalize dval 0 (s.data.toList.take j) = V at hv hv2
      generalize dcnt (s.data.toList.take j) = C at hk hk2
      clear hd
      go_wp2_with fail
      all_goals go_roundw
      all_goals first
        | (simp only [RowKit.intOf]; omega)
        | exact ⟨j + 1, by go_num, by omega, by omega, by rw [hv2.out] <;> go_num, by rw [hk2.out] <;> go_num, hb⟩
    | false =>
      have hv2 := hid (dval_skip h1 hd)
      have hk2 := hid (dcnt_skip h1 hd)
      have hd1 : ¬ (48 ≤ s[j].toNat ∧ s[j].toNat ≤ 57) := by unfold isDg at hd; simp at hd; omega
      generalize dval 0 (s.data.toList.take j) = V at hv hv2
      generalize dcnt (s.data.toList.take j) = C at hk hk2
      clear hd
      go_wp2_with fail
      all_goals go_roundw
      all_goals first
        | (simp only [RowKit.intOf]; omega)
        | exact ⟨j + 1, by go_num, by omega, by omega, by rw [hv2.out] <;> go_num, by rw [hk2.out] <;> go_num, hb⟩
  · have ht := take_end s hj hjs hend
    rw [ht] at hv hk ⊢
    clear ht
    have hve : ∀ n : Int, sgnd s.data.toList (dval 0 (s.data.toList.take 11)) = n → readEnd s = .returned (.tuple #[.int .i64 (if (9 < dcnt (s.data.toList.take 11) ∨ 10 < s.size ∨ itoa n ≠ s.toList) then 0 else n), .bool (!decide (9 < dcnt (s.data.toList.take 11) ∨ 10 < s.size ∨ itoa n ≠ s.toList))]) := fun n hn => by
      have e1 : rdVal s.data.toList = n := hn
      have e2 : rdOk s.data.toList = !decide (9 < dcnt (s.data.toList.take 11) ∨ 10 < s.size ∨ itoa n ≠ s.toList) := by
        unfold rdOk
        rw [e1]
        have e3 : (itoa n != s.data.toList) = decide (itoa n ≠ s.toList) := by
          rw [Bool.eq_iff_iff, ByteArray.toList_eq]; simp only [bne_iff_ne, ne_eq, decide_eq_true_eq]
        have e4 : s.data.toList.length = s.size := rfl
        rw [e3, e4]
        simp [Bool.or_assoc]
      unfold readEnd
      rw [e1, e2]
      by_cases hc : (9 < dcnt (s.data.toList.take 11) ∨ 10 < s.size ∨ itoa n ≠ s.toList)
      · rw [if_pos hc]; simp [hc]
      · rw [if_neg hc]; simp [hc]
    have hv0 : (dval 0 (s.data.toList.take 11) : Int) ≤ 99999999999 := by omega
    generalize hC : dcnt (s.data.toList.take 11) = C at hk hve
    generalize hV : dval 0 (s.data.toList.take 11) = V at hv hve hv0
    clear hC hV
    by_cases hneg : s.data.toList.head? = some 45
    · have hve' := hid (hve (-(V : Int)) (by unfold sgnd; rw [if_pos hneg]))
      have hs0 : 0 < s.size := by
        have e4 : s.data.toList.length = s.size := rfl
        rcases Nat.eq_zero_or_pos s.size with h | h
        · rw [List.eq_nil_of_length_eq_zero (l := s.data.toList) (by omega)] at hneg; simp at hneg
        · exact h
      have hb0 : s[0].toNat = 45 := by
        have := sByte' (s := s) (k := 0) hs0
        rw [← List.head?_eq_getElem?, hneg] at this
        rw [← Option.some.inj this]; rfl
      clear hneg hve
      go_wp2_with (go_at_call 13; refine (specDec_any _ _ (by omega) (by omega)).mono ?_; rintro e w' ⟨rfl, hb2⟩)
      all_goals (first
        | (exfalso; omega)
        | (go_ret2
           refine ⟨?_, by first | exact hb | exact hb.trans (hb2.mono hbs)⟩
           rw [hve'.out]
           first
             | exact rd_ret_no (by first | (left; omega) | (right; left; omega) | (right; right; assumption) | (right; right; intro hx; simp_all; omega) | (right; right; intro hx; simp_all; done))
             | exact rd_ret_ok (by rename_i h1; obtain ⟨⟨_, _⟩, h2⟩ := h1; rintro (h | h | h); omega; omega; exact h (by simpa using h2))))
    · have hve' := hid (hve (V : Int) (by unfold sgnd; rw [if_neg hneg]))
      have hb0 : ∀ h : 0 < s.size, s[0].toNat ≠ 45 := fun h e => by
        have := sByte' (s := s) (k := 0) h
        apply hneg
        rw [List.head?_eq_getElem?, this]
        congr 1
        exact UInt8.toNat_inj.1 e
      clear hneg hve
      by_cases hs0 : 0 < s.size
      · have hb0 := hb0 hs0
        go_wp2_with (go_at_call 13; refine (specDec_any _ _ (by omega) (by omega)).mono ?_; rintro e w' ⟨rfl, hb2⟩)
        all_goals (first
        | (exfalso; omega)
        | (go_ret2
           refine ⟨?_, by first | exact hb | exact hb.trans (hb2.mono hbs)⟩
           rw [hve'.out]
           first
             | exact rd_ret_no (by first | (left; omega) | (right; left; omega) | (right; right; assumption) | (right; right; intro hx; simp_all; omega) | (right; right; intro hx; simp_all; done))
             | exact rd_ret_ok (by rename_i h1; obtain ⟨⟨_, _⟩, h2⟩ := h1; rintro (h | h | h); omega; omega; exact h (by simpa using h2))))
      · clear hb0
        go_wp2_with (go_at_call 13; refine (specDec_any _ _ (by omega) (by omega)).mono ?_; rintro e w' ⟨rfl, hb2⟩)
        all_goals (first
        | (exfalso; omega)
        | (go_ret2
           refine ⟨?_, by first | exact hb | exact hb.trans (hb2.mono hbs)⟩
           rw [hve'.out]
           first
             | exact rd_ret_no (by first | (left; omega) | (right; left; omega) | (right; right; assumption) | (right; right; intro hx; simp_all; omega) | (right; right; intro hx; simp_all; done))
             | exact rd_ret_ok (by rename_i h1; obtain ⟨⟨_, _⟩, h2⟩ := h1; rintro (h | h | h); omega; omega; exact h (by simpa using h2))))
end Go.Proofs.YtfdmfkonneonaaaDoor
