/- Walks and lemmas of this seat (PNum): what each theorem says of the functions that it names. Conditions: those that each theorem states. -/
import Derived.Lib.ItoaNum
import Derived.Lib.AtoiAll
import Derived.Lib.Strings
import Derived.Lib.ItoaMem
import Derived.Test.YtmemgmcopnaogaaGreatDoorGA
import Derived.Lib.SlBytesRow
import Derived.WalkSmall
import Derived.Test.YtmemgmcopnaogaaGreatDoorShelf
import Derived.Test.YtmemgmcopnaogaaGreatDoorRows
import Derived.Stop.LaidErr
import Derived.MakeChecks
namespace Go.Proofs.YtmemgmcopnaogaaGreatDoor
set_option linter.unusedVariables false
set_option linter.unusedSimpArgs false
open Go.Lib

/-! Decimal numerals: the plain law of ReadDec. -/
def isDg (b : UInt8) : Bool := 48 ≤ b.toNat && b.toNat ≤ 57
/-- The number that the digits of a text spell, other bytes passed over. -/
def dval (a : Nat) : List UInt8 → Nat
  | [] => a
  | c :: l => dval (if isDg c then a * 10 + (c.toNat - 48) else a) l
def dcnt : List UInt8 → Nat
  | [] => 0
  | c :: l => (if isDg c then 1 else 0) + dcnt l

theorem dval_append (l m : List UInt8) : ∀ a, dval a (l ++ m) = dval (dval a l) m := by
  induction l with
  | nil => intro a; rfl
  | cons c l ih => intro a; simp only [List.cons_append, dval]; exact ih _
theorem dcnt_append (l m : List UInt8) : dcnt (l ++ m) = dcnt l + dcnt m := by
  induction l with
  | nil => simp [dcnt]
  | cons c l ih => simp only [List.cons_append, dcnt, ih]; omega
theorem dg_nat {k : Nat} (h : k < 10) : (UInt8.ofNat (48 + k)).toNat = 48 + k := by
  simp [UInt8.toNat_ofNat']; omega
theorem isDg_ofNat {k : Nat} (h : k < 10) : isDg (UInt8.ofNat (48 + k)) = true := by
  unfold isDg; rw [dg_nat h]; simp; omega
theorem dval_dec (u : Nat) : dval 0 (decDigits u) = u := by
  induction u using Nat.strongRecOn with
  | _ u ih =>
    by_cases h : u < 10
    · rw [decDigits, dif_pos h]; simp only [dval, isDg_ofNat h, if_true, dg_nat h]; omega
    · have hm : u % 10 < 10 := Nat.mod_lt _ (by omega)
      rw [decDigits, dif_neg h, dval_append, ih _ (by omega)]; simp only [dval, isDg_ofNat hm, if_true, dg_nat hm]; omega
theorem dcnt_dec (u : Nat) : dcnt (decDigits u) = nDigits u := by
  induction u using Nat.strongRecOn with
  | _ u ih =>
    by_cases h : u < 10
    · rw [decDigits, dif_pos h, nDigits_small h]; simp only [dcnt, isDg_ofNat h, if_true]
    · have hm : u % 10 < 10 := Nat.mod_lt _ (by omega)
      rw [decDigits, dif_neg h, dcnt_append, ih _ (by omega), nDigits_big h]; simp only [dcnt, isDg_ofNat hm, if_true]
theorem dec_head (u : Nat) : ∃ k r, k < 10 ∧ decDigits u = UInt8.ofNat (48 + k) :: r := by
  induction u using Nat.strongRecOn with
  | _ u ih =>
    by_cases h : u < 10
    · exact ⟨u, [], h, by rw [decDigits, dif_pos h]⟩
    · obtain ⟨k, r, hk, hr⟩ := ih (u / 10) (by omega)
      exact ⟨k, r ++ [UInt8.ofNat (48 + u % 10)], hk, by rw [decDigits, dif_neg h, hr]; rfl⟩
theorem pU_append (l m : List UInt8) : ∀ a u, parseUint10 a l = .ok u → parseUint10 a (l ++ m) = parseUint10 u m := by
  induction l with
  | nil => intro a u h; simp only [parseUint10] at h; injection h with h; subst h; rfl
  | cons c l ih =>
    intro a u h
    simp only [List.cons_append, parseUint10] at h ⊢
    split at h
    · rename_i hc; rw [if_pos hc]
      split at h
      · cases h
      · rename_i h1; rw [if_neg h1]
        split at h
        · cases h
        · rename_i h2; rw [if_neg h2]; exact ih _ _ h
    · cases h
theorem pU_dec (u : Nat) : u < 9223372036854775808 → parseUint10 0 (decDigits u) = .ok u := by
  induction u using Nat.strongRecOn with
  | _ u ih =>
    intro hu
    by_cases h : u < 10
    · rw [decDigits, dif_pos h]; simp only [parseUint10, dg_nat h]
      rw [if_pos (by omega), if_neg (by omega), if_neg (by omega)]; congr 1; omega
    · have hm : u % 10 < 10 := Nat.mod_lt _ (by omega)
      rw [decDigits, dif_neg h, pU_append _ _ _ _ (ih (u / 10) (by omega) (by omega))]; simp only [parseUint10, dg_nat hm]
      rw [if_pos (by omega), if_neg (by omega), if_neg (by omega)]; congr 1; omega
theorem pMag_dec (u : Nat) (hu : u < 9223372036854775808) : parseMag (decDigits u) = .ok u := by
  unfold parseMag
  obtain ⟨k, r, _, hr⟩ := dec_head u
  rw [if_neg (by rw [hr]; simp)]; exact pU_dec u hu
theorem itoa_pos (u : Nat) : itoa (u : Int) = decDigits u := itoa_nonneg u
theorem atoi_itoa (n : Int) (h0 : -9223372036854775808 < n) (h1 : n < 9223372036854775808) : atoiAll (itoa n) = .ok n := by
  rcases Int.lt_or_le n 0 with hn | hn
  · obtain ⟨u, rfl⟩ : ∃ u : Nat, n = -(u : Int) := ⟨n.natAbs, by omega⟩
    rw [itoa_neg u (by omega)]
    simp only [atoiAll]
    rw [show (45 : UInt8).toNat = 45 from rfl, if_pos (.inr rfl), pMag_dec u (by omega)]
    simp only [not_true, false_and, if_false, true_and, if_true]
    rw [if_neg (by omega)]
  · obtain ⟨u, rfl⟩ : ∃ u : Nat, n = (u : Int) := ⟨n.toNat, by omega⟩
    rw [itoa_nonneg u]
    obtain ⟨k, r, hk, hr⟩ := dec_head u
    have hp := pMag_dec u (by omega)
    rw [hr] at hp ⊢
    simp only [atoiAll]
    rw [dg_nat hk, if_neg (by omega), hp]
    simp only
    rw [if_neg (by omega), if_neg (by omega), if_neg (by omega)]

theorem lt_of_nD {u k : Nat} (h : nDigits u ≤ k) : u < 10 ^ k := Nat.lt_of_lt_of_le (lt_pow_nDigits u) (Nat.pow_le_pow_right (by omega) h)
theorem nD_of_lt {u k : Nat} (hk : 1 ≤ k) (h : u < 10 ^ k) : nDigits u ≤ k := by
  induction k generalizing u with
  | zero => omega
  | succ k ih =>
    by_cases hu : u < 10
    · rw [nDigits_small hu]; omega
    · rw [nDigits_big hu]
      have hk1 : 1 ≤ k := by
        rcases Nat.eq_zero_or_pos k with rfl | hk0
        · simp at h; omega
        · exact hk0
      have := ih (u := u / 10) hk1 (by rw [Nat.pow_succ] at h; omega)
      omega

/-- What ReadDec makes of a text: the reference's own way. -/
def sgnd (s : List UInt8) (n : Nat) : Int := if s.head? = some 45 then -(n : Int) else (n : Int)
def rdVal (s : List UInt8) : Int := sgnd s (dval 0 (s.take 11))
def rdOk (s : List UInt8) : Bool := !(decide (9 < dcnt (s.take 11)) || decide (10 < s.length) || (itoa (rdVal s) != s))
/-- What it means. -/
def IsDec (s : List UInt8) (n : Int) : Prop := s = itoa n ∧ -999999999 ≤ n ∧ n ≤ 999999999

theorem isDec_atoi {s : List UInt8} {n : Int} (h : IsDec s n) : atoiAll s = .ok n := by
  obtain ⟨rfl, h0, h1⟩ := h; exact atoi_itoa n (by omega) (by omega)
theorem itoa_cases (n : Int) : (∃ u : Nat, 1 ≤ u ∧ n = -(u : Int) ∧ itoa n = 45 :: decDigits u) ∨ ∃ u : Nat, n = (u : Int) ∧ itoa n = decDigits u := by
  rcases Int.lt_or_le n 0 with hn | hn
  · exact .inl ⟨n.natAbs, by omega, by omega, by rw [show n = -((n.natAbs : Nat) : Int) by omega, itoa_neg _ (by omega)]; congr 2; omega⟩
  · exact .inr ⟨n.toNat, by omega, by rw [show n = ((n.toNat : Nat) : Int) by omega, itoa_nonneg]; congr 1⟩
theorem dec_not_minus (u : Nat) : (decDigits u).head? ≠ some 45 := by
  obtain ⟨k, r, hk, hr⟩ := dec_head u
  rw [hr]; intro hh; simp only [List.head?_cons, Option.some.injEq] at hh
  have := congrArg UInt8.toNat hh; rw [dg_nat hk] at this; simp at this; omega
theorem isDec_rd {s : List UInt8} {n : Int} (h : IsDec s n) : rdVal s = n ∧ rdOk s = true := by
  obtain ⟨hs, h0, h1⟩ := h
  rcases itoa_cases n with ⟨u, hu, hn, hi⟩ | ⟨u, hn, hi⟩
  · have hd : nDigits u ≤ 9 := nD_of_lt (by omega) (by omega)
    have hl := decDigits_length u
    have ht : s.take 11 = 45 :: decDigits u := by rw [hs, hi]; exact List.take_of_length_le (by simp [hl]; omega)
    have hv : rdVal s = n := by
      unfold rdVal sgnd; rw [ht, hs, hi]; simp only [List.head?_cons, if_true, dval, show isDg 45 = false from rfl, Bool.false_eq_true, if_false, dval_dec, hn]
    refine ⟨hv, ?_⟩
    unfold rdOk; rw [hv, ht]
    have hc : dcnt (45 :: decDigits u) = nDigits u := by simp only [dcnt, show isDg 45 = false from rfl, Bool.false_eq_true, if_false, dcnt_dec]; omega
    have hl2 : s.length = nDigits u + 1 := by rw [hs, hi, List.length_cons, hl]
    rw [hc, hl2, ← hs]; simp; omega
  · have hd : nDigits u ≤ 9 := nD_of_lt (by omega) (by omega)
    have hl := decDigits_length u
    have ht : s.take 11 = decDigits u := by rw [hs, hi]; exact List.take_of_length_le (by rw [hl]; omega)
    have hv : rdVal s = n := by
      unfold rdVal sgnd; rw [ht, hs, hi, if_neg (dec_not_minus u), dval_dec, hn]
    refine ⟨hv, ?_⟩
    unfold rdOk; rw [hv, ht]
    have hl2 : s.length = nDigits u := by rw [hs, hi, hl]
    rw [dcnt_dec, hl2, ← hs]; simp; omega
theorem rdOk_isDec {s : List UInt8} (h : rdOk s = true) : IsDec s (rdVal s) := by
  unfold rdOk at h
  simp only [Bool.not_eq_true', Bool.or_eq_false_iff, decide_eq_false_iff_not, bne_eq_false_iff_eq] at h
  obtain ⟨⟨h1, h2⟩, h3⟩ := h
  refine ⟨h3.symm, ?_⟩
  have ht : s.take 11 = s := List.take_of_length_le (by omega)
  rw [ht] at h1
  rcases itoa_cases (rdVal s) with ⟨u, hu, hn, hi⟩ | ⟨u, hn, hi⟩
  · rw [← h3, hi] at h1
    have hc : dcnt (45 :: decDigits u) = nDigits u := by simp only [dcnt, show isDg 45 = false from rfl, Bool.false_eq_true, if_false, dcnt_dec]; omega
    rw [hc] at h1
    have := lt_of_nD (u := u) (k := 9) (by omega)
    omega
  · rw [← h3, hi, dcnt_dec] at h1
    have := lt_of_nD (u := u) (k := 9) (by omega)
    omega
/-- The program's test: what Atoi read, written again, is the text; at most 9 digits. -/
theorem atoi_isDec {s : List UInt8} {v : Int} (h2 : itoa v = s) (h3 : (trimPrefix s [45]).length ≤ 9) : IsDec s v := by
  refine ⟨h2.symm, ?_⟩
  rcases itoa_cases v with ⟨u, hu, hn, hi⟩ | ⟨u, hn, hi⟩
  · have ht : trimPrefix s [45] = decDigits u := by rw [← h2, hi]; unfold trimPrefix hasPrefix; simp
    rw [ht, decDigits_length] at h3
    have := lt_of_nD h3
    omega
  · have ht : (trimPrefix s [45]) = decDigits u := by
      rw [← h2, hi]; unfold trimPrefix hasPrefix
      obtain ⟨k, r, hk, hr⟩ := dec_head u
      rw [if_neg]
      rw [hr]; simp only [List.isPrefixOf, Bool.and_true, beq_iff_eq]
      intro hh; have := congrArg UInt8.toNat hh; rw [dg_nat hk] at this; simp at this; omega
    rw [ht, decDigits_length] at h3
    have := lt_of_nD h3
    omega
theorem isDec_trim {s : List UInt8} {v : Int} (h : IsDec s v) : (trimPrefix s [45]).length ≤ 9 := by
  obtain ⟨hs, h0, h1⟩ := h
  rcases itoa_cases v with ⟨u, hu, hn, hi⟩ | ⟨u, hn, hi⟩
  · have ht : trimPrefix s [45] = decDigits u := by rw [hs, hi]; unfold trimPrefix hasPrefix; simp
    rw [ht, decDigits_length]; exact nD_of_lt (by omega) (by omega)
  · have ht : (trimPrefix s [45]) = decDigits u := by
      rw [hs, hi]; unfold trimPrefix hasPrefix
      obtain ⟨k, r, hk, hr⟩ := dec_head u
      rw [if_neg]
      rw [hr]; simp only [List.isPrefixOf, Bool.and_true, beq_iff_eq]
      intro hh; have := congrArg UInt8.toNat hh; rw [dg_nat hk] at this; simp at this; omega
    rw [ht, decDigits_length]; exact nD_of_lt (by omega) (by omega)
/-- WHERE ATOI READS v: the program's answer is the reference's. -/
theorem rd_ok {s : List UInt8} {v : Int} (h : atoiAll s = .ok v) : (itoa v = s ∧ (trimPrefix s [45]).length ≤ 9) ↔ rdOk s = true := by
  constructor
  · rintro ⟨h2, h3⟩; exact (isDec_rd (atoi_isDec h2 h3)).2
  · intro hr
    have hd := rdOk_isDec hr
    have hv : v = rdVal s := by have := isDec_atoi hd; rw [h] at this; exact NumEnd.ok.inj this
    rw [hv]; exact ⟨hd.1.symm, isDec_trim hd⟩
theorem rd_val {s : List UInt8} {v : Int} (h : atoiAll s = .ok v) (hr : rdOk s = true) : rdVal s = v := by
  have := isDec_atoi (rdOk_isDec hr); rw [h] at this; exact (NumEnd.ok.inj this).symm
theorem rd_no {s : List UInt8} (h : ∀ v, atoiAll s ≠ .ok v) : rdOk s = false := by
  cases hr : rdOk s with
  | false => rfl
  | true => exact absurd (isDec_atoi (rdOk_isDec hr)) (h _)
end Go.Proofs.YtmemgmcopnaogaaGreatDoor
/- Walks and lemmas of this seat (FDec): what each theorem says of the functions that it names. Conditions: those that each theorem states. -/
namespace Go.Proofs.YtmemgmcopnaogaaGreatDoor
set_option linter.unusedVariables false
set_option linter.unusedSimpArgs false
open Go.RowKit Go.Lib

/-- The digits of a number, none at 0. -/
def dec0 (u : Nat) : List UInt8 := if u = 0 then [] else decDigits u
theorem dec0_step {u : Nat} (h : u ≠ 0) : dec0 u = dec0 (u / 10) ++ [UInt8.ofNat (48 + u % 10)] := by
  unfold dec0
  rw [if_neg h]
  by_cases h10 : u < 10
  · rw [if_pos (by omega), decDigits, dif_pos h10, show u % 10 = u by omega]; rfl
  · rw [if_neg (by omega), decDigits, dif_neg h10]
theorem dec0_len {u : Nat} (h : u < 1000000000000) : (dec0 u).length ≤ 12 := by
  unfold dec0
  split
  · simp
  · rw [decDigits_length]; exact nD_of_lt (by omega) (by omega)
theorem run_conv_one (w : World) (x : Int) (hx : 0 ≤ x ∧ x < 256) (N : Nat) (cap : Nat) (hc : w.cell? ⟨N, 0, none⟩ = some (.int .u8 x)) : (convert 22 9 (.slice (some ⟨N, 0, none⟩) 1 cap)).run Tryz.prog w = Result.ok (.string ⟨#[UInt8.ofNat x.toNat]⟩) w := by
  have hl : (1 : Nat) = (⟨#[UInt8.ofNat x.toNat]⟩ : ByteArray).size := rfl
  rw [hl]
  refine Lib.run_convert_whole w _ _ _ Tryz.underlying22 Tryz.underlying5 Tryz.underlying9 N 0 ⟨#[UInt8.ofNat x.toNat]⟩ (fun i hi => ?_) cap
  have hi' : i < 1 := hi
  obtain rfl : i = 0 := by omega
  rw [Nat.zero_add, hc]
  have e : (⟨#[UInt8.ofNat x.toNat]⟩ : ByteArray)[0] = UInt8.ofNat x.toNat := rfl
  rw [e, UInt8.toNat_ofNat']
  congr 2
  omega

theorem run_conv_lit (w : World) (k : Nat) (hk : k < 256) : (convert 22 9 (.slice (some ⟨w.heap.size, 0, none⟩) 1 1)).run Tryz.prog (w.alloc (.cells #[.int .u8 (k : Int)] 5)) = Result.ok (.string ⟨#[UInt8.ofNat k]⟩) (w.alloc (.cells #[.int .u8 (k : Int)] 5)) := by
  have h := run_conv_one (w.alloc (.cells #[.int .u8 (k : Int)] 5)) (k : Int) (by omega) w.heap.size 1 (by rw [World.cell?_alloc_at _ _ _ _ rfl]; rfl)
  rw [h]; rfl
theorem tmod_neg {m : Int} (h : m < 0) : m.tmod 10 = -((m.natAbs % 10 : Nat) : Int) := by
  obtain ⟨u, rfl⟩ : ∃ u : Nat, m = -(u : Int) := ⟨m.natAbs, by omega⟩
  rw [Int.neg_tmod, show ((u : Int).tmod 10) = ((u % 10 : Nat) : Int) from rfl]; congr 2; omega
theorem tmod_pos {m : Int} (h : 0 ≤ m) : m.tmod 10 = ((m.natAbs % 10 : Nat) : Int) := by
  obtain ⟨u, rfl⟩ : ∃ u : Nat, m = (u : Int) := ⟨m.natAbs, by omega⟩
  rfl
theorem tdiv_neg {m : Int} (h : m < 0) : m.tdiv 10 = -((m.natAbs / 10 : Nat) : Int) := by
  obtain ⟨u, rfl⟩ : ∃ u : Nat, m = -(u : Int) := ⟨m.natAbs, by omega⟩
  rw [Int.neg_tdiv, show ((u : Int).tdiv 10) = ((u / 10 : Nat) : Int) from rfl]; congr 2; omega
theorem tdiv_pos {m : Int} (h : 0 ≤ m) : m.tdiv 10 = ((m.natAbs / 10 : Nat) : Int) := by
  obtain ⟨u, rfl⟩ : ∃ u : Nat, m = (u : Int) := ⟨m.natAbs, by omega⟩
  rfl
theorem byte_of_neg {m : Int} (h : m < 0) : wrap64 (48 + wrap64 (-m.tmod 10)) % 256 = ((48 + m.natAbs % 10 : Nat) : Int) := by
  rw [tmod_neg h]; unfold wrap64; omega
theorem byte_of_pos {m : Int} (h : ¬ m.tmod 10 < 0) : wrap64 (48 + m.tmod 10) % 256 = ((48 + m.natAbs % 10 : Nat) : Int) := by
  rcases Int.lt_or_le m 0 with hm | hm
  · rw [tmod_neg hm] at h ⊢; unfold wrap64; omega
  · rw [tmod_pos hm]; unfold wrap64; omega

set_option maxRecDepth 100000 in
set_option maxHeartbeats 1600000 in
theorem specDec_any (n : Int) (w : World) (h0 : -999999999999 ≤ n) (h1 : n ≤ 999999999999) : Calls Tryz.prog 155 #[.int .i64 n] w fun e w' => e = .returned (.string ⟨(itoa n).toArray⟩) ∧ Below w.heap.size w w' := by
  by_cases hz : n = 0
  · subst hz
    go_enter Tryz.func155, Tryz.ntmps155
    go_wp2
    go_ret
    exact ⟨ret_string (by rw [show itoa 0 = [48] from by decide +kernel]), by repeat (first | exact Below.refl _ _ | refine Below.alloc ?_ (by first | omega | (simp; done) | (simp; omega)) _ | refine Below.drew ?_)⟩
  have hL := dec0_len (u := n.natAbs) (by omega)
  go_enter Tryz.func155, Tryz.ntmps155
  have hn0 : (n == 0) = false := by simpa using hz
  go_wp2
  go_loopw [3, 0] (fun v i wr => ∃ (m : Int) (acc : List UInt8), i = .int .i64 m ∧ v = .string ⟨acc.toArray⟩ ∧ (0 ≤ n → 0 ≤ m) ∧ (n ≤ 0 → m ≤ 0) ∧ m.natAbs ≤ n.natAbs ∧ Below w.heap.size w wr ∧ Hid (dec0 n.natAbs = dec0 m.natAbs ++ acc)) (fun _ i _ => (RowKit.intOf i).natAbs)
  case atStart => exact ⟨n, [], rfl, rfl, by omega, by omega, by omega, by repeat (first | exact Below.refl _ _ | refine Below.alloc ?_ (by first | omega | (simp; done) | (simp; omega)) _ | refine Below.drew ?_), hid (by simp)⟩
  obtain ⟨m, acc, rfl, rfl, hm0, hm1, hm2, hb, hrel⟩ := hrel
  have hal : acc.length ≤ 12 := by have := congrArg List.length hrel.out; rw [List.length_append] at this; omega
  have has : (⟨acc.toArray⟩ : ByteArray).size ≤ 12 := hal
  have hbs := hb.size
  by_cases hm : m = 0
  · subst hm
    have hR : Hid (acc = decDigits n.natAbs) := hid (by have := hrel.out; unfold dec0 at this; rw [if_neg (by omega), show Int.natAbs 0 = 0 from rfl, if_pos rfl] at this; simpa using this.symm)
    by_cases hn : n < 0
    · go_wp2_with fail
      go_ret
      exact ⟨ret_string (by rw [hR.out]; unfold itoa; rw [if_pos hn]; apply ByteArray.ext; simp), by repeat (first | exact hb | refine Below.alloc ?_ (by first | omega | (simp; done) | (simp; omega)) _ | refine Below.drew ?_)⟩
    · go_wp2_with fail
      go_ret
      exact ⟨ret_string (by rw [hR.out]; unfold itoa; rw [if_neg (by omega)]; congr 3; omega), by repeat (first | exact hb | refine Below.alloc ?_ (by first | omega | (simp; done) | (simp; omega)) _ | refine Below.drew ?_)⟩
  · have hst := hid (dec0_step (u := m.natAbs) (by omega))
    have hx1 : ∀ a : List UInt8, (⟨#[48 + UInt8.ofNat (m.natAbs % 10)]⟩ : ByteArray) ++ ⟨a.toArray⟩ = ⟨(UInt8.ofNat (48 + m.natAbs % 10) :: a).toArray⟩ := fun a => by apply ByteArray.ext; simp
    have hbx := hb.alloc hbs (.cells #[.int .u8 ((48 + m.natAbs % 10 : Nat) : Int)] 5)
    by_cases hs : m < 0
    · have htd := tdiv_neg hs
      go_wp2_with (first | rw [byte_of_neg hs, run_conv_lit _ _ (by omega)] | rw [byte_of_pos (by first | assumption | omega), run_conv_lit _ _ (by omega)])
      all_goals (go_roundw)
      all_goals first
        | (simp only [RowKit.intOf]; omega)
        | (simp [RowKit.intOf]; omega)
        | exact ⟨m.tdiv 10, UInt8.ofNat (48 + m.natAbs % 10) :: acc, by rw [htd]; first | rfl | (congr 1 <;> omega), by simp, by rw [htd]; omega, by rw [htd]; omega, by rw [htd]; omega, hbx, hid (by rw [hrel.out, hst.out, show (m.tdiv 10).natAbs = m.natAbs / 10 by rw [htd]; omega]; simp)⟩
    · have htd := tdiv_pos (m := m) (by omega)
      go_wp2_with (rw [show 48 + m % 10 = ((48 + m.natAbs % 10 : Nat) : Int) by omega, run_conv_lit _ _ (by omega)])
      all_goals (go_roundw)
      all_goals first
        | (simp only [RowKit.intOf]; omega)
        | (simp [RowKit.intOf]; omega)
        | exact ⟨m.tdiv 10, UInt8.ofNat (48 + m.natAbs % 10) :: acc, by rw [htd]; first | rfl | (congr 1 <;> omega), by simp, by rw [htd]; omega, by rw [htd]; omega, by rw [htd]; omega, hbx, hid (by rw [hrel.out, hst.out, show (m.tdiv 10).natAbs = m.natAbs / 10 by rw [htd]; omega]; simp)⟩
end Go.Proofs.YtmemgmcopnaogaaGreatDoor
/- Walks and lemmas of this seat (FReadDec): what each theorem says of the functions that it names. Conditions: those that each theorem states. -/
namespace Go.Proofs.YtmemgmcopnaogaaGreatDoor
set_option linter.unusedVariables false
set_option linter.unusedSimpArgs false
open Go.RowKit Go.Lib

theorem sByte' {s : ByteArray} {k : Nat} (h : k < s.size) : s.data.toList[k]? = some s[k] := by
  rw [List.getElem?_eq_getElem (by simpa using h)]; rfl
theorem take_snoc {s : ByteArray} {j : Nat} (h : j < s.size) : s.data.toList.take (j + 1) = s.data.toList.take j ++ [s[j]] := by
  rw [List.take_add_one, List.getElem?_eq_getElem (by simpa using h)]; rfl
theorem dval_step {s : ByteArray} {j : Nat} (h : j < s.size) (hd : isDg s[j] = true) : dval 0 (s.data.toList.take (j + 1)) = dval 0 (s.data.toList.take j) * 10 + (s[j].toNat - 48) := by
  rw [take_snoc h, dval_append]; simp only [dval, hd, if_true]
theorem dval_skip {s : ByteArray} {j : Nat} (h : j < s.size) (hd : isDg s[j] = false) : dval 0 (s.data.toList.take (j + 1)) = dval 0 (s.data.toList.take j) := by
  rw [take_snoc h, dval_append]; simp only [dval, hd, Bool.false_eq_true, if_false]
theorem dcnt_step {s : ByteArray} {j : Nat} (h : j < s.size) (hd : isDg s[j] = true) : dcnt (s.data.toList.take (j + 1)) = dcnt (s.data.toList.take j) + 1 := by
  rw [take_snoc h, dcnt_append]; simp only [dcnt, hd, if_true]
theorem dcnt_skip {s : ByteArray} {j : Nat} (h : j < s.size) (hd : isDg s[j] = false) : dcnt (s.data.toList.take (j + 1)) = dcnt (s.data.toList.take j) := by
  rw [take_snoc h, dcnt_append]; simp only [dcnt, hd, Bool.false_eq_true, if_false]; omega
theorem dval_lt (l : List UInt8) : ∀ a k, a < 10 ^ k → dval a l < 10 ^ (k + l.length) := by
  induction l with
  | nil => intro a k h; simpa [dval] using h
  | cons c l ih =>
    intro a k h
    simp only [dval, List.length_cons]
    rw [show k + (l.length + 1) = (k + 1) + l.length by omega]
    refine ih _ _ ?_
    split
    · rename_i hc; unfold isDg at hc; simp at hc; rw [Nat.pow_succ]; omega
    · rw [Nat.pow_succ]; omega
theorem dval_11 (l : List UInt8) (j : Nat) (h : j ≤ 11) : dval 0 (l.take j) ≤ 99999999999 := by
  have := dval_lt (l.take j) 0 0 (by simp)
  have h2 : (l.take j).length ≤ 11 := by rw [List.length_take]; omega
  have h3 : 10 ^ (0 + (l.take j).length) ≤ 10 ^ 11 := Nat.pow_le_pow_right (by omega) (by omega)
  omega
theorem dcnt_le (l : List UInt8) : dcnt l ≤ l.length := by
  induction l with
  | nil => simp [dcnt]
  | cons c l ih => simp only [dcnt, List.length_cons]; split <;> omega
theorem dcnt_11 (l : List UInt8) (j : Nat) (h : j ≤ 11) : dcnt (l.take j) ≤ 11 := by
  have := dcnt_le (l.take j); rw [List.length_take] at this; omega
theorem take_end (s : ByteArray) {j : Nat} (h : j ≤ 11) (h1 : j ≤ s.size) (h2 : ¬ (j < s.size ∧ j < 11)) : s.data.toList.take j = s.data.toList.take 11 := by
  have e : s.data.toList.length = s.size := rfl
  by_cases hj : j = 11
  · rw [hj]
  · rw [List.take_of_length_le (by omega), List.take_of_length_le (by omega)]
/-- The answer of ReadDec. -/
def readEnd (s : ByteArray) : Ending := .returned (.tuple #[.int .i64 (if rdOk s.data.toList then rdVal s.data.toList else 0), .bool (rdOk s.data.toList)])

theorem rd_ret_no {c : Prop} [Decidable c] {n : Int} (h : c) : Ending.returned (.tuple #[.int .i64 0, .bool false]) = .returned (.tuple #[.int .i64 (if c then 0 else n), .bool (!decide c)]) := by rw [if_pos h]; simp [h]
theorem rd_ret_ok {c : Prop} [Decidable c] {n : Int} (h : ¬ c) : Ending.returned (.tuple #[.int .i64 n, .bool true]) = .returned (.tuple #[.int .i64 (if c then 0 else n), .bool (!decide c)]) := by rw [if_neg h]; simp [h]

set_option maxRecDepth 100000 in
set_option maxHeartbeats 1600000 in
theorem specReadDec_any (s : ByteArray) (w : World) (hs : s.size ≤ 1048576) : Calls Tryz.prog 203 #[.string s] w fun e w' => e = readEnd s ∧ Below w.heap.size w w' := by
  go_enter Tryz.func203, Tryz.ntmps203
  go_wp2
  go_loopw [4, 5, 6] (fun n k i wr => ∃ (j : Nat), i = .int .i64 j ∧ j ≤ 11 ∧ j ≤ s.size ∧ n = .int .i64 (dval 0 (s.data.toList.take j)) ∧ k = .int .i64 (dcnt (s.data.toList.take j)) ∧ Below w.heap.size w wr) (fun _ _ i _ => 11 - (RowKit.intOf i).toNat)
  case atStart => exact ⟨0, rfl, by omega, by omega, rfl, rfl, by repeat (first | exact Below.refl _ _ | refine Below.alloc ?_ (by first | omega | (simp; done) | (simp; omega)) _ | refine Below.drew ?_)⟩
  obtain ⟨j, rfl, hj, hjs, rfl, rfl, hb⟩ := hrel
  have hbs := hb.size
  have hv := dval_11 s.data.toList j hj
  have hk := dcnt_11 s.data.toList j hj
  by_cases hend : j < s.size ∧ j < 11
  · obtain ⟨h1, h2⟩ := hend
    cases hd : isDg s[j] with
    | true =>
      have hv2 := hid (dval_step h1 hd)
      have hk2 := hid (dcnt_step h1 hd)
      have hd1 : 48 ≤ s[j].toNat ∧ s[j].toNat ≤ 57 := by unfold isDg at hd; simpa using hd
      generalize dval 0 (s.data.toList.take j) = V at hv hv2
      generalize dcnt (s.data.toList.take j) = C at hk hk2
      clear hd
      go_wp2_with fail
      all_goals go_roundw
      all_goals first
        | (simp only [RowKit.intOf]; omega)
        | exact ⟨j + 1, by go_num, by omega, by omega, by rw [hv2.out] <;> go_num, by rw [hk2.out] <;> go_num, hb⟩
    | false =>
      have hv2 := hid (dval_skip h1 hd)
      have hk2 := hid (dcnt_skip h1 hd)
      have hd1 : ¬ (48 ≤ s[j].toNat ∧ s[j].toNat ≤ 57) := by unfold isDg at hd; simp at hd; omega
      generalize dval 0 (s.data.toList.take j) = V at hv hv2
      generalize dcnt (s.data.toList.take j) = C at hk hk2
      clear hd
      go_wp2_with fail
      all_goals go_roundw
      all_goals first
        | (simp only [RowKit.intOf]; omega)
        | exact ⟨j + 1, by go_num, by omega, by omega, by rw [hv2.out] <;> go_num, by rw [hk2.out] <;> go_num, hb⟩
  · have ht := take_end s hj hjs hend
    rw [ht] at hv hk ⊢
    clear ht
    have hve : ∀ n : Int, sgnd s.data.toList (dval 0 (s.data.toList.take 11)) = n → readEnd s = .returned (.tuple #[.int .i64 (if (9 < dcnt (s.data.toList.take 11) ∨ 10 < s.size ∨ itoa n ≠ s.toList) then 0 else n), .bool (!decide (9 < dcnt (s.data.toList.take 11) ∨ 10 < s.size ∨ itoa n ≠ s.toList))]) := fun n hn => by
      have e1 : rdVal s.data.toList = n := hn
      have e2 : rdOk s.data.toList = !decide (9 < dcnt (s.data.toList.take 11) ∨ 10 < s.size ∨ itoa n ≠ s.toList) := by
        unfold rdOk
        rw [e1]
        have e3 : (itoa n != s.data.toList) = decide (itoa n ≠ s.toList) := by
          rw [Bool.eq_iff_iff, ByteArray.toList_eq]; simp only [bne_iff_ne, ne_eq, decide_eq_true_eq]
        have e4 : s.data.toList.length = s.size := rfl
        rw [e3, e4]
        simp [Bool.or_assoc]
      unfold readEnd
      rw [e1, e2]
      by_cases hc : (9 < dcnt (s.data.toList.take 11) ∨ 10 < s.size ∨ itoa n ≠ s.toList)
      · rw [if_pos hc]; simp [hc]
      · rw [if_neg hc]; simp [hc]
    have hv0 : (dval 0 (s.data.toList.take 11) : Int) ≤ 99999999999 := by omega
    generalize hC : dcnt (s.data.toList.take 11) = C at hk hve
    generalize hV : dval 0 (s.data.toList.take 11) = V at hv hve hv0
    clear hC hV
    by_cases hneg : s.data.toList.head? = some 45
    · have hve' := hid (hve (-(V : Int)) (by unfold sgnd; rw [if_pos hneg]))
      have hs0 : 0 < s.size := by
        have e4 : s.data.toList.length = s.size := rfl
        rcases Nat.eq_zero_or_pos s.size with h | h
        · rw [List.eq_nil_of_length_eq_zero (l := s.data.toList) (by omega)] at hneg; simp at hneg
        · exact h
      have hb0 : s[0].toNat = 45 := by
        have := sByte' (s := s) (k := 0) hs0
        rw [← List.head?_eq_getElem?, hneg] at this
        rw [← Option.some.inj this]; rfl
      clear hneg hve
      go_wp2_with (go_at_call 155; refine (specDec_any _ _ (by omega) (by omega)).mono ?_; rintro e w' ⟨rfl, hb2⟩)
      all_goals (first
        | (exfalso; omega)
        | (go_ret2
           refine ⟨?_, by first | exact hb | exact hb.trans (hb2.mono hbs)⟩
           rw [hve'.out]
           first
             | exact rd_ret_no (by first | (left; omega) | (right; left; omega) | (right; right; assumption) | (right; right; intro hx; simp_all; omega) | (right; right; intro hx; simp_all; done))
             | exact rd_ret_ok (by rename_i h1; obtain ⟨⟨_, _⟩, h2⟩ := h1; rintro (h | h | h); omega; omega; exact h (by simpa using h2))))
    · have hve' := hid (hve (V : Int) (by unfold sgnd; rw [if_neg hneg]))
      have hb0 : ∀ h : 0 < s.size, s[0].toNat ≠ 45 := fun h e => by
        have := sByte' (s := s) (k := 0) h
        apply hneg
        rw [List.head?_eq_getElem?, this]
        congr 1
        exact UInt8.toNat_inj.1 e
      clear hneg hve
      by_cases hs0 : 0 < s.size
      · have hb0 := hb0 hs0
        go_wp2_with (go_at_call 155; refine (specDec_any _ _ (by omega) (by omega)).mono ?_; rintro e w' ⟨rfl, hb2⟩)
        all_goals (first
        | (exfalso; omega)
        | (go_ret2
           refine ⟨?_, by first | exact hb | exact hb.trans (hb2.mono hbs)⟩
           rw [hve'.out]
           first
             | exact rd_ret_no (by first | (left; omega) | (right; left; omega) | (right; right; assumption) | (right; right; intro hx; simp_all; omega) | (right; right; intro hx; simp_all; done))
             | exact rd_ret_ok (by rename_i h1; obtain ⟨⟨_, _⟩, h2⟩ := h1; rintro (h | h | h); omega; omega; exact h (by simpa using h2))))
      · clear hb0
        go_wp2_with (go_at_call 155; refine (specDec_any _ _ (by omega) (by omega)).mono ?_; rintro e w' ⟨rfl, hb2⟩)
        all_goals (first
        | (exfalso; omega)
        | (go_ret2
           refine ⟨?_, by first | exact hb | exact hb.trans (hb2.mono hbs)⟩
           rw [hve'.out]
           first
             | exact rd_ret_no (by first | (left; omega) | (right; left; omega) | (right; right; assumption) | (right; right; intro hx; simp_all; omega) | (right; right; intro hx; simp_all; done))
             | exact rd_ret_ok (by rename_i h1; obtain ⟨⟨_, _⟩, h2⟩ := h1; rintro (h | h | h); omega; omega; exact h (by simpa using h2))))
end Go.Proofs.YtmemgmcopnaogaaGreatDoor
/- Walks and lemmas of this seat (FNumeral): what each theorem says of the functions that it names. Conditions: those that each theorem states. -/
namespace Go.Proofs.YtmemgmcopnaogaaGreatDoor
set_option linter.unusedVariables false
set_option linter.unusedSimpArgs false
open Go.RowKit Go.Lib

theorem cell_small {w : World} {a : Addr} {v : Value} (h : w.cell? a = some v) : a.block < w.heap.size := World.block_lt_of_cell? w _ h
/-- The library's table of powers of ten. -/
def PowEnv (w : World) : Prop := TabIs Tryz.prog w "internal/strconv.uint64pow10" .u64 pow10Tab
/-- And its two errors. -/
def NumEnv (w : World) : Prop := PowEnv w ∧ (∃ v, w.cell? ⟨1, 0, none⟩ = some v ∧ (v = .nilIface ∨ ∃ te pe, v = .iface te pe)) ∧ ∃ v, w.cell? ⟨2, 0, none⟩ = some v ∧ (v = .nilIface ∨ ∃ te pe, v = .iface te pe)
theorem gPow : Tryz.prog.globalNamed "internal/strconv.uint64pow10" = some 3 := by kernel_rfl
theorem PowEnv.below {w w' : World} (h : PowEnv w) (hb : Below w.heap.size w w') : PowEnv w' := by
  unfold PowEnv TabIs at h ⊢
  have hlt : 3 < w.heap.size := cell_small (TabIs.cell h gPow 0 (by decide))
  unfold World.var? at h ⊢
  rw [gPow] at h ⊢
  simp only [Option.bind_eq_bind, Option.bind_some] at h ⊢
  rw [hb.block _ hlt]
  exact h
theorem NumEnv.below {w w' : World} (h : NumEnv w) (hb : Below w.heap.size w w') : NumEnv w' := by
  obtain ⟨h1, ⟨v, h2, h3⟩, ⟨u, h4, h5⟩⟩ := h
  exact ⟨h1.below hb, ⟨v, (hb.cell (cell_small h2)).trans h2, h3⟩, ⟨u, (hb.cell (cell_small h4)).trans h4, h5⟩⟩

theorem grow_draw_below (w : World) (k : Nat) (os : Array Obj) : Below w.heap.size w (Sort.grow (w.drewN k) os) := by
  refine ⟨rfl, rfl, rfl, ?_, fun i hi => ?_⟩
  · show w.heap.size ≤ ((w.drewN k).heap ++ os).size
    rw [Array.size_append]; exact Nat.le_add_right _ _
  · show ((w.drewN k).heap ++ os)[i]? = _
    have : i < (w.drewN k).heap.size := hi
    rw [Array.getElem?_append_left this]; rfl
theorem atoi_range {s : List UInt8} {v : Int} (h : atoiAll s = .ok v) : -9223372036854775808 ≤ v ∧ v ≤ 9223372036854775807 := by
  unfold atoiAll at h
  split at h
  · cases h
  · simp only at h
    split at h
    · cases h
    · cases h
    · split at h
      · cases h
      · split at h
        · cases h
        · have := NumEnd.ok.inj h
          split at this <;> omega

set_option maxRecDepth 100000 in
theorem implDec_any (n : Int) (w : World) (h0 : -9223372036854775808 ≤ n) (h1 : n ≤ 9223372036854775807) (hE : PowEnv w) : Calls Tryz.prog 20 #[.int .i64 n] w fun e w' => e = .returned (.string ⟨(itoa n).toArray⟩) ∧ Below w.heap.size w w' := by
  go_enter Tryz.func20, Tryz.ntmps20
  go_wp2_with (go_at_call 67; refine (Tryz.strconv_Itoa n h0 h1 _ hE).mono ?_; rintro e w' ⟨rfl, k, os, rfl⟩)
  go_ret
  exact ⟨rfl, grow_draw_below _ _ _⟩

theorem readEnd_no {s : ByteArray} (h : rdOk s.data.toList = false) : Ending.returned (.tuple #[.int .i64 0, .bool false]) = readEnd s := by unfold readEnd; rw [h]; rfl
theorem readEnd_ok {s : ByteArray} {v : Int} (h : rdOk s.data.toList = true) (hv : rdVal s.data.toList = v) : Ending.returned (.tuple #[.int .i64 v, .bool true]) = readEnd s := by unfold readEnd; rw [h, hv]; rfl

set_option maxRecDepth 100000 in
theorem implReadDec_any (s : ByteArray) (w : World) (hs : s.size ≤ 1048576) (hE : NumEnv w) : Calls Tryz.prog 63 #[.string s] w fun e w' => e = readEnd s ∧ Below w.heap.size w w' := by
  cases h : atoiAll s.data.toList with
  | ok v =>
    have hr := atoi_range h
    have hok := hid (rd_ok h)
    have hval := hid (fun hr => rd_val h hr)
    go_enter Tryz.func63, Tryz.ntmps63
    go_wp2_with (go_at_call 112; refine (Tryz.strconv_Atoi_ok s (by omega) v h _).mono ?_; rintro e w' ⟨rfl, hw⟩)
    have hb1 : Below w.heap.size w w' := by
      rcases hw with rfl | ⟨t, rfl⟩
      · exact Below.refl _ _
      · exact bytesWorld_below _ _ _
    clear hw h
    refine (implDec_any v w' hr.1 hr.2 (hE.1.below hb1)).mono ?_; rintro e w2 ⟨rfl, hb2⟩
    have hb3 := hb1.trans (hb2.mono hb1.size)
    clear hb1 hb2 hE
    have hsl : s.toList = s.data.toList := ByteArray.toList_eq s
    by_cases he : itoa v = s.toList
    · have hbe : (itoa v == s.toList) = true := by simpa using he
      rw [hsl] at he
      replace he := hid he
      go_wp2_with (go_at_call 113; refine (Tryz.strings_TrimPrefix _ _ _).mono ?_; rintro e w3 ⟨rfl, rfl⟩)
      all_goals go_ret2
      all_goals refine ⟨?_, hb3⟩
      all_goals first
        | (refine readEnd_no ?_
           cases hr2 : rdOk s.data.toList with
           | false => rfl
           | true => exfalso; have := (hok.out.2 hr2).2; omega)
        | (have hr2 := hok.out.1 ⟨he.out, by omega⟩
           exact readEnd_ok hr2 (hval.out hr2))
    · have hbe : (itoa v == s.toList) = false := by simpa using he
      rw [hsl] at he
      replace he := hid he
      go_wp2_with fail
      all_goals go_ret2
      all_goals refine ⟨?_, hb3⟩
      all_goals
        refine readEnd_no ?_
        cases hr2 : rdOk s.data.toList with
        | false => rfl
        | true => exact absurd (hok.out.2 hr2).1 he.out
  | «syntax» =>
    have hno := rd_no (s := s.data.toList) (fun v e => by rw [h] at e; cases e)
    obtain ⟨ev, hv, he⟩ := hE.2.1
    go_enter Tryz.func63, Tryz.ntmps63
    go_wp2_with (go_at_call 112; refine (Tryz.strconv_Atoi_syntax s (by omega) h ev _ hv he).mono ?_; rintro e w' ⟨N, rfl, -, -, hb⟩)
    go_ret2
    exact ⟨readEnd_no hno, hb⟩
  | range =>
    have hno := rd_no (s := s.data.toList) (fun v e => by rw [h] at e; cases e)
    obtain ⟨ev, hv, he⟩ := hE.2.2
    go_enter Tryz.func63, Tryz.ntmps63
    go_wp2_with (go_at_call 112; refine (Tryz.strconv_Atoi_range s (by omega) h ev _ hv he).mono ?_; rintro e w' ⟨N, rfl, -, -, hb⟩)
    go_ret2
    exact ⟨readEnd_no hno, hb⟩

/-- The answer of Numeral. -/
def numeralEnd (s : ByteArray) : Ending := .returned (.tuple #[.int .i64 (if rdOk s.data.toList && decide (0 ≤ rdVal s.data.toList) then rdVal s.data.toList else 0), .bool (rdOk s.data.toList && decide (0 ≤ rdVal s.data.toList))])

set_option maxRecDepth 100000 in
theorem implNumeral_any (s : ByteArray) (w : World) (hs : s.size ≤ 1048576) (hE : NumEnv w) : Calls Tryz.prog 17 #[.string s] w fun e w' => e = numeralEnd s ∧ Below w.heap.size w w' := by
  have hc := implReadDec_any s w hs hE
  unfold readEnd at hc
  cases hr : rdOk s.data.toList with
  | false =>
    have hR : Hid (numeralEnd s = .returned (.tuple #[.int .i64 0, .bool false])) := hid (by unfold numeralEnd; simp [hr])
    simp only [hr, Bool.false_eq_true, if_false] at hc
    go_enter Tryz.func17, Tryz.ntmps17
    go_wp2_with (go_at_call 63; refine hc.mono ?_; rintro e w' ⟨rfl, hb⟩)
    go_ret2
    exact ⟨hR.out.symm, hb⟩
  | true =>
    simp only [hr, if_true] at hc
    have hR : Hid (numeralEnd s = .returned (.tuple #[.int .i64 (if 0 ≤ rdVal s.data.toList then rdVal s.data.toList else 0), .bool (decide (0 ≤ rdVal s.data.toList))])) := hid (by unfold numeralEnd; simp [hr])
    generalize rdVal s.data.toList = v at hc hR
    by_cases hv : 0 ≤ v
    · have hR : Hid (numeralEnd s = .returned (.tuple #[.int .i64 v, .bool true])) := hid (by rw [hR.out]; simp [hv])
      go_enter Tryz.func17, Tryz.ntmps17
      go_wp2_with (go_at_call 63; refine hc.mono ?_; rintro e w' ⟨rfl, hb⟩)
      go_ret2
      exact ⟨hR.out.symm, hb⟩
    · have hR : Hid (numeralEnd s = .returned (.tuple #[.int .i64 0, .bool false])) := hid (by rw [hR.out]; simp [hv])
      go_enter Tryz.func17, Tryz.ntmps17
      go_wp2_with (go_at_call 63; refine hc.mono ?_; rintro e w' ⟨rfl, hb⟩)
      go_ret2
      exact ⟨hR.out.symm, hb⟩

set_option maxRecDepth 100000 in
theorem specNumeral_any (s : ByteArray) (w : World) (hs : s.size ≤ 1048576) : Calls Tryz.prog 153 #[.string s] w fun e w' => e = numeralEnd s ∧ Below w.heap.size w w' := by
  have hc := specReadDec_any s w hs
  unfold readEnd at hc
  cases hr : rdOk s.data.toList with
  | false =>
    have hR : Hid (numeralEnd s = .returned (.tuple #[.int .i64 0, .bool false])) := hid (by unfold numeralEnd; simp [hr])
    simp only [hr, Bool.false_eq_true, if_false] at hc
    go_enter Tryz.func153, Tryz.ntmps153
    go_wp2_with (go_at_call 203; refine hc.mono ?_; rintro e w' ⟨rfl, hb⟩)
    go_ret2
    exact ⟨hR.out.symm, hb⟩
  | true =>
    simp only [hr, if_true] at hc
    have hR : Hid (numeralEnd s = .returned (.tuple #[.int .i64 (if 0 ≤ rdVal s.data.toList then rdVal s.data.toList else 0), .bool (decide (0 ≤ rdVal s.data.toList))])) := hid (by unfold numeralEnd; simp [hr])
    generalize rdVal s.data.toList = v at hc hR
    by_cases hv : 0 ≤ v
    · have hR : Hid (numeralEnd s = .returned (.tuple #[.int .i64 v, .bool true])) := hid (by rw [hR.out]; simp [hv])
      go_enter Tryz.func153, Tryz.ntmps153
      go_wp2_with (go_at_call 203; refine hc.mono ?_; rintro e w' ⟨rfl, hb⟩)
      go_ret2
      exact ⟨hR.out.symm, hb⟩
    · have hR : Hid (numeralEnd s = .returned (.tuple #[.int .i64 0, .bool false])) := hid (by rw [hR.out]; simp [hv])
      go_enter Tryz.func153, Tryz.ntmps153
      go_wp2_with (go_at_call 203; refine hc.mono ?_; rintro e w' ⟨rfl, hb⟩)
      go_ret2
      exact ⟨hR.out.symm, hb⟩
end Go.Proofs.YtmemgmcopnaogaaGreatDoor
/- Walks and lemmas of this seat (FNumLaid): what each theorem says of the functions that it names. Conditions: those that each theorem states. -/
namespace Go.Proofs.YtmemgmcopnaogaaGreatDoor
set_option linter.unusedVariables false
set_option linter.unusedSimpArgs false
open Go.RowKit Go.Lib

/-! What the listed variables of a card give a walk. -/
theorem starErr : "*" ++ "errors.errorString" = "*errors.errorString" := by decide
theorem rowErr (u : TypeId) (h : Tryz.prog.typeName? 3 u = some "*errors.errorString") : u = 211 :=
  typeName_ptr_named (nm := "errors.errorString") (by rw [starErr]; kernel_rfl) (by kernel_rfl) (by decide) u (by rw [starErr]; exact h)
theorem gES : Tryz.prog.globalNamed "strconv.ErrSyntax" = some 1 := by kernel_rfl
theorem gER : Tryz.prog.globalNamed "strconv.ErrRange" = some 2 := by kernel_rfl
theorem gESType : (Tryz.prog.globals[1]?).map (·.type) = some 124 := by kernel_rfl
theorem gERType : (Tryz.prog.globals[2]?).map (·.type) = some 124 := by kernel_rfl
theorem gPowType : (Tryz.prog.globals[3]?).map (·.type) = some 201 := by kernel_rfl
theorem cellsErr : Tryz.prog.cellsOf 213 = 1 := by kernel_rfl
theorem cellsStr : Tryz.prog.cellsOf 9 = 1 := by kernel_rfl
theorem powEnv_of {W : World} {r : List (String × DataW Unit)} (h : laidMet Tryz.prog (("internal/strconv.uint64pow10", Rows.laid_internal_strconv_uint64pow10) :: r) W) : PowEnv W :=
  tabIs_of_head (k := .u64) (zs := pow10Tab) gPow gPowType Tryz.underlying201 Tryz.underlying182 (by kernel_rfl) (by kernel_rfl) h
theorem numEnv_of {W : World} {a b : String × DataW Unit} {r : List (String × DataW Unit)} (hL : laidMet Tryz.prog (a :: b :: ("internal/strconv.uint64pow10", Rows.laid_internal_strconv_uint64pow10) :: ("strconv.ErrRange", Rows.laid_strconv_ErrRange) :: ("strconv.ErrSyntax", Rows.laid_strconv_ErrSyntax) :: r) W) : NumEnv W := by
  have h2 := hL.tail.tail
  obtain ⟨a1, s1, hv1, -, -, -⟩ := laid_sentinel h2.tail gER gERType Tryz.underlying124 rowErr Tryz.underlying211 Tryz.underlying213 rfl rfl Tryz.underlying9 cellsErr cellsStr
  obtain ⟨a0, s0, hv0, -, -, -⟩ := laid_sentinel h2.tail.tail gES gESType Tryz.underlying124 rowErr Tryz.underlying211 Tryz.underlying213 rfl rfl Tryz.underlying9 cellsErr cellsStr
  exact ⟨powEnv_of h2, ⟨_, by have h0 := World.var?_cell gES hv0 0; simpa using h0, Or.inr ⟨_, _, rfl⟩⟩, ⟨_, by have h0 := World.var?_cell gER hv1 0; simpa using h0, Or.inr ⟨_, _, rfl⟩⟩⟩
theorem powEnv_of3 {W : World} {a b : String × DataW Unit} (hL : laidMet Tryz.prog [a, b, ("internal/strconv.uint64pow10", Rows.laid_internal_strconv_uint64pow10)] W) : PowEnv W := powEnv_of hL.tail.tail
end Go.Proofs.YtmemgmcopnaogaaGreatDoor
