/- Walks and lemmas of this seat (FTokenOk): what each theorem says of the functions that it names. Conditions: those that each theorem states. -/
import Derived.Test.YtkelhmgdajiocaaGreatDoorGC
import Derived.Test.YtkelhmgdajiocaaGreatDoorGNE
import Derived.Test.YtkelhmgdajiocaaGreatDoorGD
import Derived.Test.YtkelhmgdajiocaaGreatDoorGKS
import Derived.Test.YtkelhmgdajiocaaGreatDoorGA
namespace Go.Proofs.YtkelhmgdajiocaaGreatDoor
set_option linter.unusedVariables false
set_option linter.unusedSimpArgs false
open Go.RowKit Go.Lib

/-! The texts of tokens, both sides. -/
theorem implStrEnd_zero (s : ByteArray) (w : World) (hs : s.size ≤ 1048576) : Calls Tryz.prog 178 #[.string s, .int .i64 0] w fun e w' => e = .returned (.int .i64 (quoted 34 s.data.toList)) ∧ w' = w := by
  go_enter Tryz.func178, Tryz.ntmps178
  go_wp2_with (go_at_call 188; refine (implquotedEnd_zero s 34 _ hs (by decide) (by decide)).mono ?_; rintro e w' ⟨rfl, rfl⟩)
  go_ret
  exact ⟨rfl, rfl⟩
theorem implEreEnd_zero (s : ByteArray) (w : World) (hs : s.size ≤ 1048576) : Calls Tryz.prog 179 #[.string s, .int .i64 0] w fun e w' => e = .returned (.int .i64 (ereEnd s.data.toList)) ∧ w' = w := by
  have hq := implquotedEnd_zero s 47 w hs (by decide) (by decide)
  unfold ereEnd
  generalize quoted 47 s.data.toList = q at hq ⊢
  go_enter Tryz.func179, Tryz.ntmps179
  go_wp2_with (go_at_call 188; refine hq.mono ?_; rintro e w' ⟨rfl, rfl⟩)
  all_goals go_ret
  all_goals exact ⟨ret_int (by simp_all), rfl⟩
theorem specStrEnd_zero (s : ByteArray) (w : World) (hs : s.size ≤ 1048576) : Calls Tryz.prog 155 #[.string s, .int .i64 0] w fun e w' => e = .returned (.int .i64 (quoted 34 s.data.toList)) ∧ w' = w := by
  go_enter Tryz.func155, Tryz.ntmps155
  go_wp2_with (go_at_call 172; refine (specl4Quoted_zero s 34 _ hs (by decide) (by decide)).mono ?_; rintro e w' ⟨rfl, rfl⟩)
  go_ret
  exact ⟨rfl, rfl⟩
theorem specEreEnd_zero (s : ByteArray) (w : World) (hs : s.size ≤ 1048576) : Calls Tryz.prog 156 #[.string s, .int .i64 0] w fun e w' => e = .returned (.int .i64 (ereEnd s.data.toList)) ∧ w' = w := by
  have hq := specl4Quoted_zero s 47 w hs (by decide) (by decide)
  unfold ereEnd
  generalize quoted 47 s.data.toList = q at hq ⊢
  go_enter Tryz.func156, Tryz.ntmps156
  go_wp2_with (go_at_call 172; refine hq.mono ?_; rintro e w' ⟨rfl, rfl⟩)
  all_goals go_ret
  all_goals exact ⟨ret_int (by simp_all), rfl⟩

theorem quoted_nil (q : Int) (h : 11 ≤ q) : quoted q [] = -1 := by unfold quoted; rw [if_neg (by show ¬ (-1 : Int) = q; omega)]
theorem size_nil {s : ByteArray} (h : s.size = 0) : s.data.toList = [] := List.eq_nil_of_length_eq_zero h
theorem numOk_nil {s : ByteArray} (h : s.size = 0) : numOk s = false := by unfold numOk; rw [size_nil h, h]; decide
theorem strOk_nil {s : ByteArray} (h : s.size = 0) : strOk s = false := by unfold strOk; rw [size_nil h, h, quoted_nil _ (by decide)]; decide
theorem ereOk_nil {s : ByteArray} (h : s.size = 0) : ereOk s = false := by unfold ereOk ereEnd; rw [size_nil h, h, quoted_nil _ (by decide)]; decide
theorem comOk_nil {s : ByteArray} (h : s.size = 0) : comOk s = false := by unfold comOk; rw [size_nil h]; rfl

set_option maxRecDepth 100000 in
theorem implTokenOk_num (s : ByteArray) (at0 : Int) (w : World) (hs : s.size ≤ 1048576) : Calls Tryz.prog 161 #[.agg #[.int .i64 3, .string s, .int .i64 at0]] w fun e w' => e = .returned (.bool (numOk s)) ∧ Below w.heap.size w w' := by
  have hq := hid fun w => implNumEnd_zero s w hs
  by_cases hz : s.size = 0
  · have hR := hid (numOk_nil hz)
    have he : (s.toList == ([] : List UInt8)) = true := by rw [ByteArray.toList_eq, size_nil hz]; rfl
    go_enter Tryz.func161, Tryz.ntmps161
    go_wp2_with fail
    go_ret
    exact ⟨ret_bool hR.out.symm, (Below.refl _ _).alloc (Nat.le_refl _) _⟩
  · have hR : Hid (numOk s = decide (numEnd s.data.toList = (s.size : Int))) := hid rfl
    generalize numEnd s.data.toList = q at hq hR
    have he : (s.toList == ([] : List UInt8)) = false := by
      rw [ByteArray.toList_eq]
      cases h : s.data.toList with
      | nil => exact absurd (show s.data.toList.length = 0 by rw [h]; rfl) hz
      | cons _ _ => rfl
    go_enter Tryz.func161, Tryz.ntmps161
    go_wp2_with fail
    go_quiet ((go_at_call 177; exact Calls.quiet_of_same (hq.out _)))
    go_wp2
    go_ret
    exact ⟨ret_bool (by rw [hR.out]; first | rfl | (rw [Bool.eq_iff_iff]; simp)), below_drewN ((Below.refl _ _).alloc (Nat.le_refl _) _) _⟩
set_option maxRecDepth 100000 in
theorem implTokenOk_str (s : ByteArray) (at0 : Int) (w : World) (hs : s.size ≤ 1048576) : Calls Tryz.prog 161 #[.agg #[.int .i64 4, .string s, .int .i64 at0]] w fun e w' => e = .returned (.bool (strOk s)) ∧ Below w.heap.size w w' := by
  have hq := hid fun w => implStrEnd_zero s w hs
  by_cases hz : s.size = 0
  · have hR := hid (strOk_nil hz)
    have he : (s.toList == ([] : List UInt8)) = true := by rw [ByteArray.toList_eq, size_nil hz]; rfl
    go_enter Tryz.func161, Tryz.ntmps161
    go_wp2_with fail
    go_ret
    exact ⟨ret_bool hR.out.symm, (Below.refl _ _).alloc (Nat.le_refl _) _⟩
  · have hR : Hid (strOk s = decide (quoted 34 s.data.toList = (s.size : Int))) := hid rfl
    generalize quoted 34 s.data.toList = q at hq hR
    have he : (s.toList == ([] : List UInt8)) = false := by
      rw [ByteArray.toList_eq]
      cases h : s.data.toList with
      | nil => exact absurd (show s.data.toList.length = 0 by rw [h]; rfl) hz
      | cons _ _ => rfl
    go_enter Tryz.func161, Tryz.ntmps161
    go_wp2_with fail
    go_quiet ((go_at_call 178; exact Calls.quiet_of_same (hq.out _)))
    go_wp2
    go_ret
    exact ⟨ret_bool (by rw [hR.out]; first | rfl | (rw [Bool.eq_iff_iff]; simp)), below_drewN ((Below.refl _ _).alloc (Nat.le_refl _) _) _⟩
set_option maxRecDepth 100000 in
theorem implTokenOk_ere (s : ByteArray) (at0 : Int) (w : World) (hs : s.size ≤ 1048576) : Calls Tryz.prog 161 #[.agg #[.int .i64 5, .string s, .int .i64 at0]] w fun e w' => e = .returned (.bool (ereOk s)) ∧ Below w.heap.size w w' := by
  have hq := hid fun w => implEreEnd_zero s w hs
  by_cases hz : s.size = 0
  · have hR := hid (ereOk_nil hz)
    have he : (s.toList == ([] : List UInt8)) = true := by rw [ByteArray.toList_eq, size_nil hz]; rfl
    go_enter Tryz.func161, Tryz.ntmps161
    go_wp2_with fail
    go_ret
    exact ⟨ret_bool hR.out.symm, (Below.refl _ _).alloc (Nat.le_refl _) _⟩
  · have hR : Hid (ereOk s = decide (ereEnd s.data.toList = (s.size : Int))) := hid rfl
    generalize ereEnd s.data.toList = q at hq hR
    have he : (s.toList == ([] : List UInt8)) = false := by
      rw [ByteArray.toList_eq]
      cases h : s.data.toList with
      | nil => exact absurd (show s.data.toList.length = 0 by rw [h]; rfl) hz
      | cons _ _ => rfl
    go_enter Tryz.func161, Tryz.ntmps161
    go_wp2_with fail
    go_quiet ((go_at_call 179; exact Calls.quiet_of_same (hq.out _)))
    go_wp2
    go_ret
    exact ⟨ret_bool (by rw [hR.out]; first | rfl | (rw [Bool.eq_iff_iff]; simp)), below_drewN ((Below.refl _ _).alloc (Nat.le_refl _) _) _⟩
set_option maxRecDepth 100000 in
theorem specTokenOk_num (s : ByteArray) (at0 : Int) (w : World) (hs : s.size ≤ 1048576) : Calls Tryz.prog 128 #[.agg #[.int .i64 3, .string s, .int .i64 at0]] w fun e w' => e = .returned (.bool (numOk s)) ∧ Below w.heap.size w w' := by
  have hq := hid fun w => specNumEnd_zero s w hs
  have hR : Hid (numOk s = decide (numEnd s.data.toList = (s.size : Int))) := hid rfl
  have hz0 := hid (numOk_nil (s := s))
  generalize numEnd s.data.toList = q at hq hR
  go_enter Tryz.func128, Tryz.ntmps128
  go_wp2_with (go_at_call 154; refine (hq.out _).mono ?_; rintro e w' ⟨rfl, rfl⟩)
  all_goals first | go_ret | fail
  all_goals first
    | exact ⟨ret_bool (hz0.out (by omega)).symm, (Below.refl _ _).alloc (Nat.le_refl _) _⟩
    | exact ⟨ret_bool (hR.out.trans (by first | rfl | (rw [Bool.eq_iff_iff]; simp; done))).symm, (Below.refl _ _).alloc (Nat.le_refl _) _⟩
set_option maxRecDepth 100000 in
theorem specTokenOk_str (s : ByteArray) (at0 : Int) (w : World) (hs : s.size ≤ 1048576) : Calls Tryz.prog 128 #[.agg #[.int .i64 4, .string s, .int .i64 at0]] w fun e w' => e = .returned (.bool (strOk s)) ∧ Below w.heap.size w w' := by
  have hq := hid fun w => specStrEnd_zero s w hs
  have hR : Hid (strOk s = decide (quoted 34 s.data.toList = (s.size : Int))) := hid rfl
  have hz0 := hid (strOk_nil (s := s))
  generalize quoted 34 s.data.toList = q at hq hR
  go_enter Tryz.func128, Tryz.ntmps128
  go_wp2_with (go_at_call 155; refine (hq.out _).mono ?_; rintro e w' ⟨rfl, rfl⟩)
  all_goals first | go_ret | fail
  all_goals first
    | exact ⟨ret_bool (hz0.out (by omega)).symm, (Below.refl _ _).alloc (Nat.le_refl _) _⟩
    | exact ⟨ret_bool (hR.out.trans (by first | rfl | (rw [Bool.eq_iff_iff]; simp; done))).symm, (Below.refl _ _).alloc (Nat.le_refl _) _⟩
set_option maxRecDepth 100000 in
theorem specTokenOk_ere (s : ByteArray) (at0 : Int) (w : World) (hs : s.size ≤ 1048576) : Calls Tryz.prog 128 #[.agg #[.int .i64 5, .string s, .int .i64 at0]] w fun e w' => e = .returned (.bool (ereOk s)) ∧ Below w.heap.size w w' := by
  have hq := hid fun w => specEreEnd_zero s w hs
  have hR : Hid (ereOk s = decide (ereEnd s.data.toList = (s.size : Int))) := hid rfl
  have hz0 := hid (ereOk_nil (s := s))
  generalize ereEnd s.data.toList = q at hq hR
  go_enter Tryz.func128, Tryz.ntmps128
  go_wp2_with (go_at_call 156; refine (hq.out _).mono ?_; rintro e w' ⟨rfl, rfl⟩)
  all_goals first | go_ret | fail
  all_goals first
    | exact ⟨ret_bool (hz0.out (by omega)).symm, (Below.refl _ _).alloc (Nat.le_refl _) _⟩
    | exact ⟨ret_bool (hR.out.trans (by first | rfl | (rw [Bool.eq_iff_iff]; simp; done))).symm, (Below.refl _ _).alloc (Nat.le_refl _) _⟩
theorem sByte0 {s : ByteArray} (h : 0 < s.size) : byteI s.data.toList 0 = ((s[0]).toNat : Int) := byteI_s h
set_option maxRecDepth 100000 in
theorem implTokenOk_com (s : ByteArray) (at0 : Int) (w : World) (hs : s.size ≤ 1048576) : Calls Tryz.prog 161 #[.agg #[.int .i64 2, .string s, .int .i64 at0]] w fun e w' => e = .returned (.bool (comOk s)) ∧ Below w.heap.size w w' := by
  have hq := hid fun w => Tryz.strings_Contains_one s 10 w
  by_cases hz : s.size = 0
  · have hR := hid (comOk_nil hz)
    have he : (s.toList == ([] : List UInt8)) = true := by rw [ByteArray.toList_eq, size_nil hz]; rfl
    go_enter Tryz.func161, Tryz.ntmps161
    go_wp2_with fail
    go_ret
    exact ⟨ret_bool hR.out.symm, (Below.refl _ _).alloc (Nat.le_refl _) _⟩
  · have he : (s.toList == ([] : List UInt8)) = false := by
      rw [ByteArray.toList_eq]
      cases h : s.data.toList with
      | nil => exact absurd (show s.data.toList.length = 0 by rw [h]; rfl) hz
      | cons _ _ => rfl
    have h0 : 0 < s.size := by omega
    have hR : Hid (comOk s = (((s[0]).toNat : Int) == 35 && plain s)) := hid (by unfold comOk; rw [sByte0 h0])
    have hpl : decide (0 ≤ Lib.indexByte s.data.toList 10) = !plain s := indexByte_plain _
    rw [hpl] at hq
    clear hpl
    generalize plain s = pl at hq hR
    go_enter Tryz.func161, Tryz.ntmps161
    go_wp2_with (go_at_call 176; refine (hq.out _).mono ?_; rintro e w' ⟨rfl, rfl⟩)
    all_goals first | go_ret | fail
    all_goals exact ⟨ret_bool (hR.out.trans (by simp_all)).symm, (Below.refl _ _).alloc (Nat.le_refl _) _⟩
set_option maxRecDepth 100000 in
theorem specTokenOk_com (s : ByteArray) (at0 : Int) (w : World) (hs : s.size ≤ 1048576) : Calls Tryz.prog 128 #[.agg #[.int .i64 2, .string s, .int .i64 at0]] w fun e w' => e = .returned (.bool (comOk s)) ∧ Below w.heap.size w w' := by
  have hq := hid fun w => specl4Plain_any s w hs
  by_cases hz : s.size = 0
  · have hR := hid (comOk_nil hz)
    clear hq
    go_enter Tryz.func128, Tryz.ntmps128
    go_wp2_with fail
    go_ret
    exact ⟨ret_bool hR.out.symm, (Below.refl _ _).alloc (Nat.le_refl _) _⟩
  · have h0 : 0 < s.size := by omega
    have hR : Hid (comOk s = (((s[0]).toNat : Int) == 35 && plain s)) := hid (by unfold comOk; rw [sByte0 h0])
    generalize plain s = pl at hq hR
    go_enter Tryz.func128, Tryz.ntmps128
    go_wp2_with (go_at_call 153; refine (hq.out _).mono ?_; rintro e w' ⟨rfl, rfl⟩)
    all_goals first | go_ret | fail
    all_goals exact ⟨ret_bool (hR.out.trans (by simp_all)).symm, (Below.refl _ _).alloc (Nat.le_refl _) _⟩
end Go.Proofs.YtkelhmgdajiocaaGreatDoor
/- Walks and lemmas of this seat (FMany): what each theorem says of the functions that it names. Conditions: those that each theorem states. -/
namespace Go.Proofs.YtkelhmgdajiocaaGreatDoor
set_option linter.unusedVariables false
set_option linter.unusedSimpArgs false
open Go.RowKit Go.Lib

/-! How many kids, the reference's side. -/
theorem many_cases (k : Int) : k = 5 ∨ k = 13 ∨ k = 7 ∨ k = 8 ∨ k = 27 ∨ k = 6 ∨ k = 9 ∨ k = 10 ∨ k = 11 ∨ k = 20 ∨ k = 32 ∨ k = 40 ∨ k = 41 ∨ k = 12 ∨ k = 15 ∨ k = 29 ∨ k = 30 ∨ k = 14 ∨ k = 21 ∨ k = 23 ∨ k = 24 ∨ k = 28 ∨ k = 31 ∨ k = 33 ∨ k = 45 ∨ k = 42 ∨ k = 43 ∨ k = 44 ∨ (¬ k = 5 ∧ ¬ k = 13 ∧ ¬ k = 7 ∧ ¬ k = 8 ∧ ¬ k = 27 ∧ ¬ k = 6 ∧ ¬ k = 9 ∧ ¬ k = 10 ∧ ¬ k = 11 ∧ ¬ k = 20 ∧ ¬ k = 32 ∧ ¬ k = 40 ∧ ¬ k = 41 ∧ ¬ k = 12 ∧ ¬ k = 15 ∧ ¬ k = 29 ∧ ¬ k = 30 ∧ ¬ k = 14 ∧ ¬ k = 21 ∧ ¬ k = 23 ∧ ¬ k = 24 ∧ ¬ k = 28 ∧ ¬ k = 31 ∧ ¬ k = 33 ∧ ¬ k = 45 ∧ ¬ k = 42 ∧ ¬ k = 43 ∧ ¬ k = 44) := by omega
theorem emp_iff (s : ByteArray) : (s.toList == ([] : List UInt8)) = (s.size == 0) := by
  rw [ByteArray.toList_eq, Bool.eq_iff_iff, beq_iff_eq, beq_iff_eq]
  constructor
  · intro h; show s.data.toList.length = 0; rw [h]; rfl
  · intro h; exact List.eq_nil_of_length_eq_zero h
theorem ret_pair {a b c d : Int} (h1 : a = c) (h2 : b = d) : Ending.returned (.tuple #[.int .i64 a, .int .i64 b]) = .returned (.tuple #[.int .i64 c, .int .i64 d]) := by rw [h1, h2]
theorem isEmp_iff (s : ByteArray) : s.toList.isEmpty = (s.size == 0) := by
  rw [← emp_iff]; cases s.toList <;> rfl
def least7 (k op : Int) (e : Bool) : Int := if k = 42 then wrap64 (1 + wrap64 (op.tdiv 3)) else if k = 43 then wrap64 (2 + wrap64 (op.tdiv 3)) else if k = 21 then (if e then op else wrap64 (op + 1)) else least k op e
def most7 (k op : Int) (e : Bool) (n : Int) : Int := if k = 42 then wrap64 (1 + wrap64 (op.tdiv 3)) else if k = 43 then wrap64 (2 + wrap64 (op.tdiv 3)) else if k = 33 ∨ k = 45 then n else most k op e
theorem fields7_eq (k op n : Int) (s : Says) (h0 : 0 ≤ n) (hn : n ≤ 400) : (knownB k && (opOk k op && (textsOk k s && inB n (least7 k op s.emp2) (most7 k op s.emp2 n)))) = fieldsOk k op s n := by
  unfold fieldsOk
  rw [Bool.and_assoc, Bool.and_assoc]
  congr 1
  cases ho : opOk k op with
  | false => rfl
  | true =>
    rw [Bool.true_and, Bool.true_and]
    congr 1
    by_cases h42 : k = 42
    · subst h42
      have h1 : 1 ≤ op ∧ op ≤ 3 := by simpa [opOk, inB] using ho
      rcases (show op = 1 ∨ op = 2 ∨ op = 3 by omega) with rfl | rfl | rfl <;> simp [least7, most7, least, most, wrap64]
    by_cases h43 : k = 43
    · subst h43
      have h1 : op = 1 ∨ op = 3 := by simpa [opOk] using ho
      rcases h1 with rfl | rfl <;> simp [least7, most7, least, most, wrap64]
    by_cases h21 : k = 21
    · subst h21
      have h1 : op = 0 ∨ op = 1 := by simpa [opOk] using ho
      rcases h1 with rfl | rfl <;> cases s.emp2 <;> simp [least7, most7, least, most, wrap64]
    by_cases h33 : k = 33 ∨ k = 45
    · have e1 : least7 k op s.emp2 = least k op s.emp2 := by unfold least7; rw [if_neg h42, if_neg h43, if_neg h21]
      have e2 : most7 k op s.emp2 n = n := by unfold most7; rw [if_neg h42, if_neg h43, if_pos h33]
      have e3 : most k op s.emp2 = 400 := by rcases h33 with rfl | rfl <;> rfl
      rw [e1, e2, e3]
      unfold inB
      rw [show decide (n ≤ n) = true from by simp, show decide (n ≤ 400) = true from by simpa using hn]
    · have e1 : least7 k op s.emp2 = least k op s.emp2 := by unfold least7; rw [if_neg h42, if_neg h43, if_neg h21]
      have e2 : most7 k op s.emp2 n = most k op s.emp2 := by unfold most7; rw [if_neg h42, if_neg h43, if_neg h33]
      rw [e1, e2]
set_option maxRecDepth 100000 in
set_option maxHeartbeats 6400000 in
theorem specl7Many_any (k op : Int) (text other : ByteArray) (ka : Option Addr) (kn kc : Nat) (w : World) (hop : I64 op) : Calls Tryz.prog 96 #[.agg #[.int .i64 k, .int .i64 op, .string text, .string other, .slice ka kn kc]] w fun e w' => e = .returned (.tuple #[.int .i64 (least7 k op (other.size == 0)), .int .i64 (most7 k op (other.size == 0) kn)]) ∧ Below w.heap.size w w' := by
  rcases many_cases k with rfl | rfl | rfl | rfl | rfl | rfl | rfl | rfl | rfl | rfl | rfl | rfl | rfl | rfl | rfl | rfl | rfl | rfl | rfl | rfl | rfl | rfl | rfl | rfl | rfl | rfl | rfl | rfl | hn
  all_goals go_enter Tryz.func96, Tryz.ntmps96
  all_goals go_wp2
  all_goals first | (go_ret2; done) | go_ret2 | (go_quiet (fail); go_wp2; go_ret2)
  all_goals refine ⟨?_, ?_⟩
  all_goals first
    | exact Below.refl _ _
    | exact (Below.refl _ _).alloc (Nat.le_refl _) _
    | exact below_drewN ((Below.refl _ _).alloc (Nat.le_refl _) _) _
    | skip
  all_goals refine ret_pair ?_ ?_
  all_goals first
    | rfl
    | (simp_all [least7, most7, least, most, isEmp_iff]; done)
    | (simp_all [least7, most7, least, most, isEmp_iff]; trace_state; sorry)

end Go.Proofs.YtkelhmgdajiocaaGreatDoor
/- Walks and lemmas of this seat (PForm): what each theorem says of the functions that it names. Conditions: those that each theorem states. -/
namespace Go.Proofs.YtkelhmgdajiocaaGreatDoor
set_option linter.unusedVariables false
set_option linter.unusedSimpArgs false
open Go.RowKit Go.Lib

/-! The form of a node, the program's side. -/
/-- What a form says of a node's own text. -/
def textE (k : Int) (s : Says) : Bool :=
  if k = 1 ∨ k = 5 ∨ k = 7 ∨ k = 13 ∨ k = 27 ∨ k = 44 ∨ k = 32 then s.name else if k = 2 then s.num else if k = 3 then s.str else if k = 4 then s.ere else if k = 34 then s.com else if k = 8 then s.blt else s.emp
/-- And of its other text. -/
def otherE (k : Int) (s : Says) : Bool := if k = 32 then s.name2 else if k = 21 then s.out else s.emp2
theorem texts_split (k : Int) (s : Says) : textsOk k s = (textE k s && otherE k s) := by
  unfold textsOk textE otherE
  by_cases h1 : k = 1 ∨ k = 5 ∨ k = 7 ∨ k = 13 ∨ k = 27 ∨ k = 44
  · rw [if_pos h1, if_pos (by omega), if_neg (by omega), if_neg (by omega)]
  rw [if_neg h1]
  by_cases h2 : k = 2
  · subst h2; simp
  rw [if_neg h2]
  by_cases h3 : k = 3
  · subst h3; simp
  rw [if_neg h3]
  by_cases h4 : k = 4
  · subst h4; simp
  rw [if_neg h4]
  by_cases h5 : k = 34
  · subst h5; simp
  rw [if_neg h5]
  by_cases h6 : k = 8
  · subst h6; simp
  rw [if_neg h6]
  by_cases h7 : k = 32
  · subst h7; simp
  rw [if_neg h7]
  by_cases h8 : k = 21
  · subst h8; simp
  rw [if_neg h8, if_neg (by omega), if_neg h2, if_neg h3, if_neg h4, if_neg h5, if_neg h6, if_neg h7, if_neg h8]
def formV (k op : Int) (text other : ByteArray) (o : Bool) : Value := .agg #[.bool (opOk k op), .bool (textE k (saysOf text other)), .bool o, .int .i64 (least k op (other.size == 0)), .int .i64 (most k op (other.size == 0))]
theorem tx_name {k : Int} {a b : ByteArray} (h : k = 1 ∨ k = 5 ∨ k = 7 ∨ k = 13 ∨ k = 27 ∨ k = 44 ∨ k = 32) : textE k (saysOf a b) = nameOkB a := by unfold textE; rw [if_pos h]; rfl
theorem expr_cases {k : Int} (h0 : 1 ≤ k) (h1 : k ≤ 15) : k = 1 ∨ k = 2 ∨ k = 3 ∨ k = 4 ∨ k = 5 ∨ k = 6 ∨ k = 7 ∨ k = 8 ∨ k = 9 ∨ k = 10 ∨ k = 11 ∨ k = 12 ∨ k = 13 ∨ k = 14 ∨ k = 15 := by omega
theorem heap_alloc_new1 (w : World) (o1 o2 : Obj) : ((w.alloc o1).alloc o2).heap[w.heap.size + 1]? = some o2 := by
  have := heap_alloc_new (w.alloc o1) o2
  simpa using this
theorem form_box {w W : World} {o1 o2 : Obj} (hb : Below ((w.alloc o1).alloc o2).drew.heap.size ((w.alloc o1).alloc o2).drew W) : W.heap[w.heap.size + 1]? = some o2 := (hb.block _ (by simp)).trans (heap_alloc_new1 w o1 o2)
theorem form_box0 {w W : World} {o1 o2 : Obj} (hb : Below ((w.alloc o1).alloc o2).drew.heap.size ((w.alloc o1).alloc o2).drew W) : W.heap[w.heap.size]? = some o1 := (hb.block _ (by simp; omega)).trans ((Below.heap_alloc (w.alloc o1) o2 _ (by simp)).trans (heap_alloc_new w o1))
end Go.Proofs.YtkelhmgdajiocaaGreatDoor
