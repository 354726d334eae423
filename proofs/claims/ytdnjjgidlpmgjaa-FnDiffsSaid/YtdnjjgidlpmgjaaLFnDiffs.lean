/- Walks and lemmas of this seat (LFnDiffs): what each theorem says of the functions that it names. Conditions: those that each theorem states. -/
import Derived.Test.YtdnjjgidlpmgjaaPDiff
import Derived.Test.YtdnjjgidlpmgjaaFCommon
import Derived.Test.YtdnjjgidlpmgjaaFDrawDiff
import Derived.Test.YtdnjjgidlpmgjaaFSameTexts
import Derived.Test.YtdnjjgidlpmgjaaHByte
namespace Go.Proofs.Ytdnjjgidlpmgjaa
set_option linter.unusedVariables false
set_option linter.unusedSimpArgs false
open Go.RowKit

theorem bulk_small {l : List ByteArray} {c : Nat} (h : ∀ x ∈ l, x.size ≤ c) : bulk ByteArray.size l ≤ l.length * (c + 1) := by
  induction l with
  | nil => simp [bulk]
  | cons x l ih =>
    have h1 := h x (List.mem_cons_self ..)
    have h2 := ih (fun y hy => h y (List.mem_cons_of_mem _ hy))
    simp only [bulk, List.map_cons, List.sum_cons, List.length_cons] at *
    rw [Nat.add_mul]
    omega
theorem diffL_size (c : Nat) : ∀ (a b : List ByteArray), (∀ x ∈ a, x.size ≤ c) → (∀ x ∈ b, x.size ≤ c) → ∀ z ∈ diffL a b, z.size ≤ c + 1
  | [], [], _, _ => by simp [diffL]
  | [], y :: b, ha, hb => by
    intro z hz; rw [diffL] at hz
    rcases List.mem_cons.1 hz with rfl | h
    · rw [pre_size]; have := hb y (List.mem_cons_self ..); omega
    · exact diffL_size c [] b ha (fun q hq => hb q (List.mem_cons_of_mem _ hq)) z h
  | x :: a, [], ha, hb => by
    intro z hz; rw [diffL] at hz
    rcases List.mem_cons.1 hz with rfl | h
    · rw [pre_size]; have := ha x (List.mem_cons_self ..); omega
    · exact diffL_size c a [] (fun q hq => ha q (List.mem_cons_of_mem _ hq)) hb z h
  | x :: a, y :: b, ha, hb => by
    have hx := ha x (List.mem_cons_self ..)
    have hy := hb y (List.mem_cons_self ..)
    have ha' : ∀ q ∈ a, q.size ≤ c := fun q hq => ha q (List.mem_cons_of_mem _ hq)
    have hb' : ∀ q ∈ b, q.size ≤ c := fun q hq => hb q (List.mem_cons_of_mem _ hq)
    have h1 := diffL_size c a b ha' hb'; have h2 := diffL_size c a (y :: b) ha' hb; have h3 := diffL_size c (x :: a) b ha hb'
    intro z hz; rw [diffL] at hz
    split at hz
    · rcases List.mem_cons.1 hz with rfl | h
      · rw [pre_size]; omega
      · exact h1 z h
    · split at hz
      · rcases List.mem_cons.1 hz with rfl | h
        · rw [pre_size]; omega
        · exact h2 z h
      · rcases List.mem_cons.1 hz with rfl | h
        · rw [pre_size]; omega
        · exact h3 z h
theorem isSame_pos {x : ByteArray} (h : 0 < x.size) : isSame x = decide ((x[0].toNat : Int) = 32) := by
  have e : x.data.toList.head? = some x[0] := by
    rw [List.head?_eq_getElem?, List.getElem?_eq_getElem (by simpa using h)]; rfl
  unfold isSame
  rw [decide_eq_true h, e, Bool.true_and, Bool.eq_iff_iff]
  simp only [beq_iff_eq, Option.some.injEq, decide_eq_true_eq]
  constructor
  · intro h; rw [h]; rfl
  · intro h; exact UInt8.toNat_inj.1 (by have : (32 : UInt8).toNat = 32 := rfl; omega)
theorem isSame_empty {x : ByteArray} (h : ¬ 0 < x.size) : isSame x = false := by
  unfold isSame; rw [decide_eq_false h]; rfl
theorem isSame_snoc (l : List ByteArray) (x : ByteArray) : (l ++ [x]).countP isSame = l.countP isSame + (if isSame x then 1 else 0) := by
  rw [List.countP_append]; simp [List.countP_cons]

set_option maxRecDepth 100000 in
set_option maxHeartbeats 3200000 in
theorem lawFnDiffs {w : World} (bs : List UInt8) (v0 : Value) (hv0 : Slc w v0 1 bs.length (bs.flatMap byte1)) :
    Calls Try.prog 9 #[v0] w fun e w' => e = .returned (.bool true) ∧ Below w.heap.size w w' := by
  have hbig := hid (lawsbig_any v0 bs w hv0)
  by_cases hs : 1048576 < bs.length
  · have hd : decide (1048576 < bs.length) = true := by simpa using hs
    rw [hd] at hbig
    obtain ⟨_, a, cap, rfl, hcap, hm, hrow⟩ := hv0
    go_enter Try.func9, Try.ntmps9
    go_wp2_with (go_at_call 26; refine hbig.out.mono ?_; rintro e w' ⟨rfl, rfl⟩)
    go_ret
    exact ⟨rfl, Below.refl _ _⟩
  have hd : decide (1048576 < bs.length) = false := by simpa using hs
  rw [hd] at hbig
  have hdraw := hid (specDrawDiff_any w v0 bs hv0 (by omega))
  obtain ⟨_, a, cap, rfl, hcap, hm, hrow⟩ := hv0
  clear hrow hd hs
  go_enter Try.func9, Try.ntmps9
  go_wp2_with (go_at_call 26; refine hbig.out.mono ?_; rintro e w' ⟨rfl, rfl⟩)
  refine hdraw.out.mono ?_; rintro e w1 ⟨u0, u1, l0, l1, hl0, hl1, hz0, hz1, rfl, hb1, hS0, hS1⟩
  have hB1 := hid hb1
  clear hdraw hbig hb1
  have hn0 : bulk ByteArray.size l0 ≤ 1048576 := by have := bulk_small hz0; omega
  have hn1 : bulk ByteArray.size l1 ≤ 1048576 := by have := bulk_small hz1; omega
  have hm0 : ∀ x ∈ l0, x.size ≤ maxLen := fun x h => by have := hz0 x h; unfold maxLen; omega
  have hm1 : ∀ x ∈ l1, x.size ≤ maxLen := fun x h => by have := hz1 x h; unfold maxLen; omega
  have hcD := hid (implDiff_any l0 u0 l1 u1 w1 hm0 hn0 hS0 hm1 hn1 hS1)
  have hcC := hid (fun (W : World) (hb : Below w1.heap.size w1 W) => implCommon_any l0 u0 l1 u1 W hm0 hn0 (hS0.mono hb (Nat.le_refl _)) hm1 hn1 (hS1.mono hb (Nat.le_refl _)))
  have hcC2 := hid (fun (W : World) (hb : Below w1.heap.size w1 W) => implCommon_any l1 u1 l0 u0 W hm1 hn1 (hS1.mono hb (Nat.le_refl _)) hm0 hn0 (hS0.mono hb (Nat.le_refl _)))
  have hcS := hid (fun (W : World) (hb : Below w1.heap.size w1 W) => specCommon_any l0 u0 l1 u1 W hm0 hn0 (hS0.mono hb (Nat.le_refl _)) hm1 hn1 (hS1.mono hb (Nat.le_refl _)))
  obtain ⟨_, a0, c0, rfl, hc0, hk0, _⟩ := id hS0
  obtain ⟨_, a1, c1, rfl, hc1, hk1, _⟩ := id hS1
  unfold maxLen at hk0 hk1
  replace hS0 := hid hS0
  replace hS1 := hid hS1
  go_wp2_with fail
  refine hcD.out.mono ?_; rintro e w2 ⟨vd, rfl, hb2, ho2⟩
  have hb12 := hid hb2
  have hB2 := hid (hB1.out.trans (hb2.mono hB1.out.size))
  obtain ⟨ad, cd, rfl, hmd⟩ := own_slice ho2
  have hSd := hid (Slc.of_own ho2)
  clear hcD hb2 ho2 hB1
  go_wp2_with fail
  refine (hcC.out w2 hb12.out).mono ?_; rintro e w3 ⟨rfl, hb3⟩
  have hb13 := hid (hb12.out.trans (hb3.mono hb12.out.size))
  have hB3 := hid (hB2.out.trans (hb3.mono hB2.out.size))
  have hSd3 := hid (hSd.out.mono hb3 (Nat.le_refl _))
  clear hcC hb3 hB2 hSd hb12
  by_cases hok : l0.length ≤ 200 ∧ l1.length ≤ 200
  · have hd : diff l0 l1 = diffL l0 l1 := by unfold diff; rw [if_pos (diffOk_yes hok)]
    have hc : common l0 l1 = (lcs l0 l1 : Nat) := by unfold common; rw [if_pos (diffOk_yes hok)]
    have hc2 : common l1 l0 = (lcs l0 l1 : Nat) := by unfold common; rw [if_pos (diffOk_yes ⟨hok.2, hok.1⟩), lcs_comm]
    rw [hd] at hSd3 ⊢
    rw [hc] at hcS ⊢
    rw [hc2] at hcC2
    have hsame := hid (diffL_same l0 l1)
    have hlen := diffL_length l0 l1
    have hsm := hid (side_minus l0 l1)
    have hsp := hid (side_plus l0 l1)
    have hdz := diffL_size 2 l0 l1 hz0 hz1
    have hdm : ∀ x ∈ diffL l0 l1, x.size ≤ maxLen := fun x h => by have := hdz x h; unfold maxLen; omega
    have hdb : bulk ByteArray.size (diffL l0 l1) ≤ 1048576 := by have := bulk_small hdz; omega
    clear hd hc hc2 hn0 hn1 hm0 hm1 hz0 hz1
    generalize diffL l0 l1 = D at *
    generalize lcs l0 l1 = N at *
    obtain ⟨_, ad3, cd3, hve, hcd3, hmd3, hrow⟩ := id hSd3.out
    obtain ⟨rfl, rfl⟩ : ad = ad3 ∧ cd = cd3 := by simp at hve; exact hve
    clear hve
    unfold maxLen at hmd3
    have hcM := hid (fun (W : World) (hb : Below w3.heap.size w3 W) => implSide_any D _ ⟨#[45]⟩ W hdm hdb (hSd3.out.mono hb (Nat.le_refl _)) (by decide))
    have hcP := hid (fun (W : World) (hb : Below w3.heap.size w3 W) => implSide_any D _ ⟨#[43]⟩ W hdm hdb (hSd3.out.mono hb (Nat.le_refl _)) (by decide))
    rw [hsm.out] at hcM
    rw [hsp.out] at hcP
    clear hdm hdb hdz hsm hsp hSd3
    go_wp2
    go_loopw [7, 8] (fun sv i wr => ∃ (k n : Nat), i = .int .i64 k ∧ k ≤ D.length ∧ sv = .int .i64 n ∧ n ≤ k ∧ Hid (n = (D.take k).countP isSame) ∧ wr = w3) (fun _ i _ => D.length - (intOf i).toNat)
    case atStart => exact ⟨0, 0, rfl, by omega, rfl, by omega, hid rfl, rfl⟩
    obtain ⟨k, n, rfl, hk, rfl, hnk, hcnt, rfl⟩ := hrel
    by_cases hlt : k < D.length
    · obtain ⟨x, hx⟩ := get_of_lt hlt
      obtain ⟨b, off, rfl, hro⟩ := slc_some hrow (by omega)
      have e0 := hro.one str1_len hx rfl
      have hsn := isSame_snoc (D.take k) x
      rw [← take_next hx, ← hcnt.out] at hsn
      clear hx hro hrow
      by_cases hx0 : 0 < x.size
      · by_cases hx1 : (x[0].toNat : Int) = 32
        · have hsn : Hid (n + 1 = (D.take (k + 1)).countP isSame) := hid (by rw [hsn, isSame_pos hx0]; simp [hx1])
          go_wp2
          all_goals go_roundw
          all_goals first
            | (simp [intOf]; omega)
            | exact ⟨k + 1, n + 1, by go_num, by omega, by go_num, by omega, hsn, by first | rfl | trivial⟩
        · have hsn : Hid (n = (D.take (k + 1)).countP isSame) := hid (by rw [hsn, isSame_pos hx0]; simp [hx1])
          go_wp2
          all_goals go_roundw
          all_goals first
            | (simp [intOf]; omega)
            | exact ⟨k + 1, n, by go_num, by omega, rfl, by omega, hsn, by first | rfl | trivial⟩
      · have hsn : Hid (n = (D.take (k + 1)).countP isSame) := hid (by rw [hsn, isSame_empty hx0]; simp)
        go_wp2
        all_goals go_roundw
        all_goals first
          | (simp [intOf]; omega)
          | exact ⟨k + 1, n, by go_num, by omega, rfl, by omega, hsn, by first | rfl | trivial⟩
    · obtain rfl : k = D.length := by omega
      rw [List.take_of_length_le (Nat.le_refl _), hsame.out] at hcnt
      have hnn := hcnt.out
      clear hcnt hrow
      go_wp2_with fail
      refine (hcM.out wr (Below.refl _ _)).mono ?_; rintro e w4 ⟨v4, rfl, hb4, ho4⟩
      obtain ⟨a4, c4, rfl, hm4⟩ := own_slice ho4
      have hB4 := hid (hB3.out.trans (hb4.mono hB3.out.size))
      have hb34 := hid hb4
      have hb14 := hid (hb13.out.trans (hb4.mono hb13.out.size))
      have hT := hid (lawssameTexts_self l0 _ _ w4 (Slc.of_own ho4) (hS0.out.mono hb14.out (Nat.le_refl _)))
      clear ho4 hcM hB3 hb4
      go_wp2_with fail
      refine hT.out.mono ?_; rintro e w5 ⟨rfl, hb5⟩
      have hB5 := hid (hB4.out.trans (hb5.mono hB4.out.size))
      have hb35 := hid (hb34.out.trans (hb5.mono hb34.out.size))
      have hb15 := hid (hb14.out.trans (hb5.mono hb14.out.size))
      clear hT hb5 hB4 hb34 hb14
      go_wp2_with fail
      refine (hcP.out w5 hb35.out).mono ?_; rintro e w6 ⟨v6, rfl, hb6, ho6⟩
      obtain ⟨a6, c6, rfl, hm6⟩ := own_slice ho6
      have hB6 := hid (hB5.out.trans (hb6.mono hB5.out.size))
      have hb16 := hid (hb15.out.trans (hb6.mono hb15.out.size))
      have hT := hid (lawssameTexts_self l1 _ _ w6 (Slc.of_own ho6) (hS1.out.mono hb16.out (Nat.le_refl _)))
      clear ho6 hcP hB5 hb6 hb35 hb15
      go_wp2_with fail
      refine hT.out.mono ?_; rintro e w7 ⟨rfl, hb7⟩
      have hB7 := hid (hB6.out.trans (hb7.mono hB6.out.size))
      have hb17 := hid (hb16.out.trans (hb7.mono hb16.out.size))
      clear hT hb7 hB6 hb16
      go_wp2_with fail
      refine (hcS.out w7 hb17.out).mono ?_; rintro e w8 ⟨rfl, hb8⟩
      have hB8 := hid (hB7.out.trans (hb8.mono hB7.out.size))
      have hb18 := hid (hb17.out.trans (hb8.mono hb17.out.size))
      clear hcS hb8 hB7 hb17
      go_wp2_with fail
      refine (hcC2.out w8 hb18.out).mono ?_; rintro e w9 ⟨rfl, hb9⟩
      have hB9 := hid (hB8.out.trans (hb9.mono hB8.out.size))
      clear hcC2 hb9 hB8 hb18
      go_wp2
      go_ret
      exact ⟨rfl, hB9.out⟩
  · have hd : diff l0 l1 = [] := by unfold diff; rw [if_neg (diffOk_no hok)]
    have hc : common l0 l1 = 0 := by unfold common; rw [if_neg (diffOk_no hok)]
    rw [hd, hc]
    clear hSd3
    by_cases h0 : l0.length ≤ 200
    · have h1 : 200 < l1.length := by omega
      go_wp2
      go_ret
      exact ⟨rfl, hB3.out⟩
    · go_wp2
      go_ret
      exact ⟨rfl, hB3.out⟩
end Go.Proofs.Ytdnjjgidlpmgjaa
