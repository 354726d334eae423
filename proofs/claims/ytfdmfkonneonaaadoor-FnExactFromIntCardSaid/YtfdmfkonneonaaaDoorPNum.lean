/- Walks and lemmas of this seat (PNum): what each theorem says of the functions that it names. Conditions: those that each theorem states. -/
import Derived.Lib.ItoaNum
import Derived.Lib.AtoiAll
import Derived.Lib.Strings
import Derived.Lib.ItoaMem
namespace Go.Proofs.YtfdmfkonneonaaaDoor
set_option linter.unusedVariables false
set_option linter.unusedSimpArgs false
open Go.Lib

/-! Decimal numerals: the plain law of ReadDec. -/
def isDg (b : UInt8) : Bool := 48 ≤ b.toNat && b.toNat ≤ 57
/-- The number that the digits of a text spell, other bytes passed over. -/
def dval (a : Nat) : List UInt8 → Nat
  | [] => a
  | c :: l => dval (if isDg c then a * 10 + (c.toNat - 48) else a) l
def dcnt : List UInt8 → Nat
  | [] => 0
  | c :: l => (if isDg c then 1 else 0) + dcnt l

theorem dval_append (l m : List UInt8) : ∀ a, dval a (l ++ m) = dval (dval a l) m := by
  induction l with
  | nil => intro a; rfl
  | cons c l ih => intro a; simp only [List.cons_append, dval]; exact ih _
theorem dcnt_append (l m : List UInt8) : dcnt (l ++ m) = dcnt l + dcnt m := by
  induction l with
  | nil => simp [dcnt]
  | cons c l ih => simp only [List.cons_append, dcnt, ih]; omega
theorem dg_nat {k : Nat} (h : k < 10) : (UInt8.ofNat (48 + k)).toNat = 48 + k := by
  simp [UInt8.toNat_ofNat']; omega
theorem isDg_ofNat {k : Nat} (h : k < 10) : isDg (UInt8.ofNat (48 + k)) = true := by
  unfold isDg; rw [dg_nat h]; simp; omega
theorem dval_dec (u : Nat) : dval 0 (decDigits u) = u := by
  induction u using Nat.strongRecOn with
  | _ u ih =>
    by_cases h : u < 10
    · rw [decDigits, dif_pos h]; simp only [dval, isDg_ofNat h, if_true, dg_nat h]; omega
    · have hm : u % 10 < 10 := Nat.mod_lt _ (by omega)
      rw [decDigits, dif_neg h, dval_append, ih _ (by omega)]; simp only [dval, isDg_ofNat hm, if_true, dg_nat hm]; omega
theorem dcnt_dec (u : Nat) : dcnt (decDigits u) = nDigits u := by
  induction u using Nat.strongRecOn with
  | _ u ih =>
    by_cases h : u < 10
    · rw [decDigits, dif_pos h, nDigits_small h]; simp only [dcnt, isDg_ofNat h, if_true]
    · have hm : u % 10 < 10 := Nat.mod_lt _ (by omega)
      rw [decDigits, dif_neg h, dcnt_append, ih _ (by omega), nDigits_big h]; simp only [dcnt, isDg_ofNat hm, if_true]
theorem dec_head (u : Nat) : ∃ k r, k < 10 ∧ decDigits u = UInt8.ofNat (48 + k) :: r := by
  induction u using Nat.strongRecOn with
  | _ u ih =>
    by_cases h : u < 10
    · exact ⟨u, [], h, by rw [decDigits, dif_pos h]⟩
    · obtain ⟨k, r, hk, hr⟩ := ih (u / 10) (by omega)
      exact ⟨k, r ++ [UInt8.ofNat (48 + u % 10)], hk, by rw [decDigits, dif_neg h, hr]; rfl⟩
theorem pU_append (l m : List UInt8) : ∀ a u, parseUint10 a l = .ok u → parseUint10 a (l ++ m) = parseUint10 u m := by
  induction l with
  | nil => intro a u h; simp only [parseUint10] at h; injection h with h; subst h; rfl
  | cons c l ih =>
    intro a u h
    simp only [List.cons_append, parseUint10] at h ⊢
    split at h
    · rename_i hc; rw [if_pos hc]
      split at h
      · cases h
      · rename_i h1; rw [if_neg h1]
        split at h
        · cases h
        · rename_i h2; rw [if_neg h2]; exact ih _ _ h
    · cases h
theorem pU_dec (u : Nat) : u < 9223372036854775808 → parseUint10 0 (decDigits u) = .ok u := by
  induction u using Nat.strongRecOn with
  | _ u ih =>
    intro hu
    by_cases h : u < 10
    · rw [decDigits, dif_pos h]; simp only [parseUint10, dg_nat h]
      rw [if_pos (by omega), if_neg (by omega), if_neg (by omega)]; congr 1; omega
    · have hm : u % 10 < 10 := Nat.mod_lt _ (by omega)
      rw [decDigits, dif_neg h, pU_append _ _ _ _ (ih (u / 10) (by omega) (by omega))]; simp only [parseUint10, dg_nat hm]
      rw [if_pos (by omega), if_neg (by omega), if_neg (by omega)]; congr 1; omega
theorem pMag_dec (u : Nat) (hu : u < 9223372036854775808) : parseMag (decDigits u) = .ok u := by
  unfold parseMag
  obtain ⟨k, r, _, hr⟩ := dec_head u
  rw [if_neg (by rw [hr]; simp)]; exact pU_dec u hu
theorem itoa_pos (u : Nat) : itoa (u : Int) = decDigits u := itoa_nonneg u
theorem atoi_itoa (n : Int) (h0 : -9223372036854775808 < n) (h1 : n < 9223372036854775808) : atoiAll (itoa n) = .ok n := by
  rcases Int.lt_or_le n 0 with hn | hn
  · obtain ⟨u, rfl⟩ : ∃ u : Nat, n = -(u : Int) := ⟨n.natAbs, by omega⟩
    rw [itoa_neg u (by omega)]
    simp only [atoiAll]
    rw [show (45 : UInt8).toNat = 45 from rfl, if_pos (.inr rfl), pMag_dec u (by omega)]
    simp only [not_true, false_and, if_false, true_and, if_true]
    rw [if_neg (by omega)]
  · obtain ⟨u, rfl⟩ : ∃ u : Nat, n = (u : Int) := ⟨n.toNat, by omega⟩
    rw [itoa_nonneg u]
    obtain ⟨k, r, hk, hr⟩ := dec_head u
    have hp := pMag_dec u (by omega)
    rw [hr] at hp ⊢
    simp only [atoiAll]
    rw [dg_nat hk, if_neg (by omega), hp]
    simp only
    rw [if_neg (by omega), if_neg (by omega), if_neg (by omega)]

theorem lt_of_nD {u k : Nat} (h : nDigits u ≤ k) : u < 10 ^ k := Nat.lt_of_lt_of_le (lt_pow_nDigits u) (Nat.pow_le_pow_right (by omega) h)
theorem nD_of_lt {u k : Nat} (hk : 1 ≤ k) (h : u < 10 ^ k) : nDigits u ≤ k := by
  induction k generalizing u with
  | zero => omega
  | succ k ih =>
    by_cases hu : u < 10
    · rw [nDigits_small hu]; omega
    · rw [nDigits_big hu]
      have hk1 : 1 ≤ k := by
        rcases Nat.eq_zero_or_pos k with rfl | hk0
        · simp at h; omega
        · exact hk0
      have := ih (u := u / 10) hk1 (by rw [Nat.pow_succ] at h; omega)
      omega

/-- What ReadDec makes of a text: the reference's own way. -/
def sgnd (s : List UInt8) (n : Nat) : Int := if s.head? = some 45 then -(n : Int) else (n : Int)
def rdVal (s : List UInt8) : Int := sgnd s (dval 0 (s.take 11))
def rdOk (s : List UInt8) : Bool := !(decide (9 < dcnt (s.take 11)) || decide (10 < s.length) || (itoa (rdVal s) != s))
/-- What it means. -/
def IsDec (s : List UInt8) (n : Int) : Prop := s = itoa n ∧ -999999999 ≤ n ∧ n ≤ 999999999

theorem isDec_atoi {s : List UInt8} {n : Int} (h : IsDec s n) : atoiAll s = .ok n := by
  obtain ⟨rfl, h0, h1⟩ := h; exact atoi_itoa n (by omega) (by omega)
theorem itoa_cases (n : Int) : (∃ u : Nat, 1 ≤ u ∧ n = -(u : Int) ∧ itoa n = 45 :: decDigits u) ∨ ∃ u : Nat, n = (u : Int) ∧ itoa n = decDigits u := by
  rcases Int.lt_or_le n 0 with hn | hn
  · exact .inl ⟨n.natAbs, by omega, by omega, by rw [show n = -((n.natAbs : Nat) : Int) by omega, itoa_neg _ (by omega)]; congr 2; omega⟩
  · exact .inr ⟨n.toNat, by omega, by rw [show n = ((n.toNat : Nat) : Int) by omega, itoa_nonneg]; congr 1⟩
theorem dec_not_minus (u : Nat) : (decDigits u).head? ≠ some 45 := by
  obtain ⟨k, r, hk, hr⟩ := dec_head u
  rw [hr]; intro hh; simp only [List.head?_cons, Option.some.injEq] at hh
  have := congrArg UInt8.toNat hh; rw [dg_nat hk] at this; simp at this; omega
theorem isDec_rd {s : List UInt8} {n : Int} (h : IsDec s n) : rdVal s = n ∧ rdOk s = true := by
  obtain ⟨hs, h0, h1⟩ := h
  rcases itoa_cases n with ⟨u, hu, hn, hi⟩ | ⟨u, hn, hi⟩
  · have hd : nDigits u ≤ 9 := nD_of_lt (by omega) (by omega)
    have hl := decDigits_length u
    have ht : s.take 11 = 45 :: decDigits u := by rw [hs, hi]; exact List.take_of_length_le (by simp [hl]; omega)
    have hv : rdVal s = n := by
      unfold rdVal sgnd; rw [ht, hs, hi]; simp only [List.head?_cons, if_true, dval, show isDg 45 = false from rfl, Bool.false_eq_true, if_false, dval_dec, hn]
    refine ⟨hv, ?_⟩
    unfold rdOk; rw [hv, ht]
    have hc : dcnt (45 :: decDigits u) = nDigits u := by simp only [dcnt, show isDg 45 = false from rfl, Bool.false_eq_true, if_false, dcnt_dec]; omega
    have hl2 : s.length = nDigits u + 1 := by rw [hs, hi, List.length_cons, hl]
    rw [hc, hl2, ← hs]; simp; omega
  · have hd : nDigits u ≤ 9 := nD_of_lt (by omega) (by omega)
    have hl := decDigits_length u
    have ht : s.take 11 = decDigits u := by rw [hs, hi]; exact List.take_of_length_le (by rw [hl]; omega)
    have hv : rdVal s = n := by
      unfold rdVal sgnd; rw [ht, hs, hi, if_neg (dec_not_minus u), dval_dec, hn]
    refine ⟨hv, ?_⟩
    unfold rdOk; rw [hv, ht]
    have hl2 : s.length = nDigits u := by rw [hs, hi, hl]
    rw [dcnt_dec, hl2, ← hs]; simp; omega
theorem rdOk_isDec {s : List UInt8} (h : rdOk s = true) : IsDec s (rdVal s) := by
  unfold rdOk at h
  simp only [Bool.not_eq_true', Bool.or_eq_false_iff, decide_eq_false_iff_not, bne_eq_false_iff_eq] at h
  obtain ⟨⟨h1, h2⟩, h3⟩ := h
  refine ⟨h3.symm, ?_⟩
  have ht : s.take 11 = s := List.take_of_length_le (by omega)
  rw [ht] at h1
  rcases itoa_cases (rdVal s) with ⟨u, hu, hn, hi⟩ | ⟨u, hn, hi⟩
  · rw [← h3, hi] at h1
    have hc : dcnt (45 :: decDigits u) = nDigits u := by simp only [dcnt, show isDg 45 = false from rfl, Bool.false_eq_true, if_false, dcnt_dec]; omega
    rw [hc] at h1
    have := lt_of_nD (u := u) (k := 9) (by omega)
    omega
  · rw [← h3, hi, dcnt_dec] at h1
    have := lt_of_nD (u := u) (k := 9) (by omega)
    omega
/-- The program's test: what Atoi read, written again, is the text; at most 9 digits. -/
theorem atoi_isDec {s : List UInt8} {v : Int} (h2 : itoa v = s) (h3 : (trimPrefix s [45]).length ≤ 9) : IsDec s v := by
  refine ⟨h2.symm, ?_⟩
  rcases itoa_cases v with ⟨u, hu, hn, hi⟩ | ⟨u, hn, hi⟩
  · have ht : trimPrefix s [45] = decDigits u := by rw [← h2, hi]; unfold trimPrefix hasPrefix; simp
    rw [ht, decDigits_length] at h3
    have := lt_of_nD h3
    omega
  · have ht : (trimPrefix s [45]) = decDigits u := by
      rw [← h2, hi]; unfold trimPrefix hasPrefix
      obtain ⟨k, r, hk, hr⟩ := dec_head u
      rw [if_neg]
      rw [hr]; simp only [List.isPrefixOf, Bool.and_true, beq_iff_eq]
      intro hh; have := congrArg UInt8.toNat hh; rw [dg_nat hk] at this; simp at this; omega
    rw [ht, decDigits_length] at h3
    have := lt_of_nD h3
    omega
theorem isDec_trim {s : List UInt8} {v : Int} (h : IsDec s v) : (trimPrefix s [45]).length ≤ 9 := by
  obtain ⟨hs, h0, h1⟩ := h
  rcases itoa_cases v with ⟨u, hu, hn, hi⟩ | ⟨u, hn, hi⟩
  · have ht : trimPrefix s [45] = decDigits u := by rw [hs, hi]; unfold trimPrefix hasPrefix; simp
    rw [ht, decDigits_length]; exact nD_of_lt (by omega) (by omega)
  · have ht : (trimPrefix s [45]) = decDigits u := by
      rw [hs, hi]; unfold trimPrefix hasPrefix
      obtain ⟨k, r, hk, hr⟩ := dec_head u
      rw [if_neg]
      rw [hr]; simp only [List.isPrefixOf, Bool.and_true, beq_iff_eq]
      intro hh; have := congrArg UInt8.toNat hh; rw [dg_nat hk] at this; simp at this; omega
    rw [ht, decDigits_length]; exact nD_of_lt (by omega) (by omega)
/-- WHERE ATOI READS v: the program's answer is the reference's. -/
theorem rd_ok {s : List UInt8} {v : Int} (h : atoiAll s = .ok v) : (itoa v = s ∧ (trimPrefix s [45]).length ≤ 9) ↔ rdOk s = true := by
  constructor
  · rintro ⟨h2, h3⟩; exact (isDec_rd (atoi_isDec h2 h3)).2
  · intro hr
    have hd := rdOk_isDec hr
    have hv : v = rdVal s := by have := isDec_atoi hd; rw [h] at this; exact NumEnd.ok.inj this
    rw [hv]; exact ⟨hd.1.symm, isDec_trim hd⟩
theorem rd_val {s : List UInt8} {v : Int} (h : atoiAll s = .ok v) (hr : rdOk s = true) : rdVal s = v := by
  have := isDec_atoi (rdOk_isDec hr); rw [h] at this; exact (NumEnd.ok.inj this).symm
theorem rd_no {s : List UInt8} (h : ∀ v, atoiAll s ≠ .ok v) : rdOk s = false := by
  cases hr : rdOk s with
  | false => rfl
  | true => exact absurd (isDec_atoi (rdOk_isDec hr)) (h _)
end Go.Proofs.YtfdmfkonneonaaaDoor
