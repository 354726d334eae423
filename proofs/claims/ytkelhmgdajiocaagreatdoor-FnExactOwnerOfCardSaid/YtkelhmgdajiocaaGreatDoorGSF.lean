/- Walks and lemmas of this seat (FPos): what each theorem says of the functions that it names. Conditions: those that each theorem states. -/
import Derived.Test.YtkelhmgdajiocaaGreatDoorGSP
import Derived.Test.YtkelhmgdajiocaaGreatDoorGKS
import Derived.Deep.RegionLaw
import Derived.Deep.CutRange
namespace Go.Proofs.YtkelhmgdajiocaaGreatDoor
set_option linter.unusedVariables false
set_option linter.unusedSimpArgs false
open Go.RowKit

/-! Levels and positions, both sides. -/
theorem specOpLevel_any (op : Int) (w : World) : Calls Tryz.prog 106 #[.int .i64 op] w fun e w' => e = .returned (.int .i64 (opLevelB op)) ∧ w' = w := by
  go_enter Tryz.func106, Tryz.ntmps106
  go_wp2
  all_goals go_ret
  all_goals exact ⟨ret_int (by unfold opLevelB; simp_all), rfl⟩
theorem implTop_x (w : World) : Calls Tryz.prog 36 #[] w fun e w' => e = .returned (.agg #[.int .i64 1, .bool false, .bool false, .bool false, .bool false]) ∧ w' = w.alloc (.cells #[.int .i64 1, .bool false, .bool false, .bool false, .bool false] 36) := by
  go_enter Tryz.func36, Tryz.ntmps36
  go_wp2
  exact bodyPost_ret (v := posTop.val) (by simp [results, Tryz.results36, go_sem, posTop, Pos.val]) rfl ⟨rfl, rfl⟩
theorem implTop_any (w : World) : Calls Tryz.prog 36 #[] w fun e w' => e = .returned posTop.val ∧ Below w.heap.size w w' := by
  refine (implTop_x w).mono ?_
  rintro e w' ⟨rfl, rfl⟩
  exact ⟨rfl, (Below.refl _ _).alloc (Nat.le_refl _) _⟩
theorem specTop_x (w : World) : Calls Tryz.prog 56 #[] w fun e w' => e = .returned (.agg #[.int .i64 1, .bool false, .bool false, .bool false, .bool false]) ∧ w' = w.alloc (.cells #[.int .i64 1, .bool false, .bool false, .bool false, .bool false] 36) := by
  go_enter Tryz.func56, Tryz.ntmps56
  go_wp2
  exact bodyPost_ret (v := posTop.val) (by simp [results, Tryz.results56, go_sem, posTop, Pos.val]) rfl ⟨rfl, rfl⟩
theorem specTop_any (w : World) : Calls Tryz.prog 56 #[] w fun e w' => e = .returned posTop.val ∧ Below w.heap.size w w' := by
  refine (specTop_x w).mono ?_
  rintro e w' ⟨rfl, rfl⟩
  exact ⟨rfl, (Below.refl _ _).alloc (Nat.le_refl _) _⟩
set_option maxRecDepth 100000 in
set_option maxHeartbeats 1600000 in
theorem implLevelOf_any (k o : Int) (a b : ByteArray) (ka : Option Addr) (kn kc : Nat) (w : World) : Calls Tryz.prog 90 #[.agg #[.int .i64 k, .int .i64 o, .string a, .string b, .slice ka kn kc]] w fun e w' => e = .returned (.int .i64 (levelB k o)) ∧ w' = w.alloc (.cells #[.int .i64 k, .int .i64 o, .string a, .string b, .slice ka kn kc] 58) := by
  have h := hid (fun W => implOpLevel_any o W)
  have e : levelB k o = if (k == 15) = true then 1 else if (k == 14) = true then 2 else if (k == 13) = true then 5 else if (k == 12) = true then opLevelB o else if (k == 11) = true then 11 else if (k == 9) = true ∨ (k == 10) = true then 13 else if (k == 6) = true then 14 else if (k == 1) = true ∨ (k == 2) = true ∨ (k == 3) = true ∨ (k == 4) = true ∨ (k == 5) = true ∨ (k == 7) = true ∨ (k == 8) = true then 15 else 0 := by simp only [beq_iff_eq]; rfl
  generalize opLevelB o = lo at *
  generalize levelB k o = ans at *
  replace e := hid e
  go_enter Tryz.func90, Tryz.ntmps90
  go_wp2_with (go_at_call 121; refine (h.out _).mono ?_; rintro e w' ⟨rfl, hw'⟩; subst w')
  all_goals go_ret
  all_goals exact ⟨ret_int (by rw [e.out]; simp only [*, Bool.false_eq_true, if_true, if_false, true_or, or_true, or_self, or_false, false_or]), rfl⟩
set_option maxRecDepth 100000 in
set_option maxHeartbeats 1600000 in
theorem specLevelOf_any (k o : Int) (a b : ByteArray) (ka : Option Addr) (kn kc : Nat) (w : World) : Calls Tryz.prog 78 #[.agg #[.int .i64 k, .int .i64 o, .string a, .string b, .slice ka kn kc]] w fun e w' => e = .returned (.int .i64 (levelB k o)) ∧ w' = w.alloc (.cells #[.int .i64 k, .int .i64 o, .string a, .string b, .slice ka kn kc] 58) := by
  have h := hid (fun W => specOpLevel_any o W)
  have e : levelB k o = if (k == 15) = true then 1 else if (k == 14) = true then 2 else if (k == 13) = true then 5 else if (k == 12) = true then opLevelB o else if (k == 11) = true then 11 else if (k == 9) = true ∨ (k == 10) = true then 13 else if (k == 6) = true then 14 else if (k == 1) = true ∨ (k == 2) = true ∨ (k == 3) = true ∨ (k == 4) = true ∨ (k == 5) = true ∨ (k == 7) = true ∨ (k == 8) = true then 15 else 0 := by simp only [beq_iff_eq]; rfl
  generalize opLevelB o = lo at *
  generalize levelB k o = ans at *
  replace e := hid e
  go_enter Tryz.func78, Tryz.ntmps78
  go_wp2_with (go_at_call 106; refine (h.out _).mono ?_; rintro e w' ⟨rfl, hw'⟩; subst w')
  all_goals go_ret
  all_goals exact ⟨ret_int (by rw [e.out]; simp only [*, Bool.false_eq_true, if_true, if_false, true_or, or_true, or_self, or_false, false_or]), rfl⟩
set_option maxRecDepth 100000 in
theorem implPosOk_any (p : Pos) (w : World) : Calls Tryz.prog 69 #[p.val] w fun e w' => e = .returned (.bool (posOkB p)) ∧ w' = w.alloc (.cells #[.int .i64 p.level, .bool p.dollar, .bool p.noIn, .bool p.noGt, .bool p.noSign] 36) := by
  obtain ⟨lv, d, x, y, z⟩ := p
  have h := hid (fun W => implwithin_any lv 1 15 W)
  have e : posOkB ⟨lv, d, x, y, z⟩ = (inB lv 1 15 && (!d || lv == 14)) := rfl
  generalize inB lv 1 15 = b at *
  generalize posOkB ⟨lv, d, x, y, z⟩ = ans at *
  replace e := hid e
  unfold Pos.val
  simp only
  cases d <;> cases b
  all_goals go_enter Tryz.func69, Tryz.ntmps69
  all_goals go_wp2_with (go_at_call 45; refine (h.out _).mono ?_; rintro e w' ⟨rfl, rfl⟩)
  all_goals go_ret
  all_goals exact ⟨ret_bool (by rw [e.out]; simp_all), rfl⟩
set_option maxRecDepth 100000 in
theorem specPosOk_any (p : Pos) (w : World) : Calls Tryz.prog 25 #[p.val] w fun e w' => e = .returned (.bool (posOkB p)) ∧ w' = w.alloc (.cells #[.int .i64 p.level, .bool p.dollar, .bool p.noIn, .bool p.noGt, .bool p.noSign] 36) := by
  obtain ⟨lv, d, x, y, z⟩ := p
  have h := hid (fun W => specl1In_any lv 1 15 W)
  have e : posOkB ⟨lv, d, x, y, z⟩ = (inB lv 1 15 && (!d || lv == 14)) := rfl
  generalize inB lv 1 15 = b at *
  generalize posOkB ⟨lv, d, x, y, z⟩ = ans at *
  replace e := hid e
  unfold Pos.val
  simp only
  cases d <;> cases b
  all_goals go_enter Tryz.func25, Tryz.ntmps25
  all_goals go_wp2_with (go_at_call 52; refine (h.out _).mono ?_; rintro e w' ⟨rfl, rfl⟩)
  all_goals go_ret
  all_goals exact ⟨ret_bool (by rw [e.out]; simp_all), rfl⟩
end Go.Proofs.YtkelhmgdajiocaaGreatDoor
/- Walks and lemmas of this seat (FFits): what each theorem says of the functions that it names. Conditions: those that each theorem states. -/
namespace Go.Proofs.YtkelhmgdajiocaaGreatDoor
set_option linter.unusedVariables false
set_option linter.unusedSimpArgs false
open Go.RowKit

theorem fits_eq {k o : Int} {p : Pos} (hp : posOkB p = true) (hl : levelB k o ≠ 0) : fitsB k o p = if p.noIn && k == 13 then false else if p.noGt && (k == 12 && o == 62) then false else if p.noSign && (k == 11 || (k == 9 || k == 4)) then false else (p.dollar && k == 9) || decide (p.level ≤ levelB k o) := by
  unfold fitsB
  have : (levelB k o == 0) = false := by simpa using hl
  rw [hp, this]
  rfl
set_option maxRecDepth 100000 in
set_option maxHeartbeats 6400000 in
theorem implFits_any (k o : Int) (a b : ByteArray) (ka : Option Addr) (kn kc : Nat) (p : Pos) (w : World) (hp : posOkB p = true) (hl : levelB k o ≠ 0) : Calls Tryz.prog 89 #[.agg #[.int .i64 k, .int .i64 o, .string a, .string b, .slice ka kn kc], .agg #[.int .i64 p.level, .bool p.dollar, .bool p.noIn, .bool p.noGt, .bool p.noSign]] w fun e w' => e = .returned (.bool (fitsB k o p)) ∧ Below w.heap.size w w' := by
  have hL := hid (fun W => implLevelOf_any k o a b ka kn kc W)
  have hP := hid (fun W => implPosOk_any p W)
  rw [hp] at hP
  have e := fits_eq hp hl
  unfold Pos.val at hP
  obtain ⟨lv, d, x, y, z⟩ := p
  simp only at e hP ⊢
  generalize fitsB k o ⟨lv, d, x, y, z⟩ = ans at *
  have hl0 : (levelB k o == 0) = false := by simpa using hl
  generalize levelB k o = l at *
  replace e := hid e
  clear hp
  go_enter Tryz.func89, Tryz.ntmps89
  go_upto_region 4 with (first
    | (go_at_call 90; refine (hL.out _).mono ?_; rintro e1 w1 ⟨rfl, hw1⟩; subst hw1)
    | (go_at_call 69; refine (hP.out _).mono ?_; rintro e2 w2 ⟨rfl, hw2⟩; subst hw2))
  go_cut [16] from 17 to 23 (fun v wx => v = .bool (x && k == 13) ∧ wx = ((((w.alloc (.cells #[.int .i64 k, .int .i64 o, .string a, .string b, .slice ka kn kc] 58)).alloc (.cells #[.int .i64 lv, .bool d, .bool x, .bool y, .bool z] 36)).alloc (.cells #[.int .i64 k, .int .i64 o, .string a, .string b, .slice ka kn kc] 58)).alloc (.cells #[.int .i64 lv, .bool d, .bool x, .bool y, .bool z] 36)))
  case first =>
    cases x
    all_goals (go_wp2_with fail)
    all_goals go_meet
    all_goals exact ⟨by simp_all [Bool.or_assoc], rfl⟩
  case rest =>
  obtain ⟨rfl, rfl⟩ := hcut
  cases hc0 : (x && k == 13) with
  | true =>
    go_wp2
    go_ret
    exact ⟨ret_bool (by rw [e.out]; simp [hc0]), by repeat (first | exact Below.refl _ _ | refine Below.alloc ?_ (by first | omega | (simp; done) | (simp; omega)) _ | refine Below.drew ?_)⟩
  | false =>
  go_upto_region 6 with fail
  go_cut [24] from 25 to 36 (fun v wx => v = .bool (y && (k == 12 && o == 62)) ∧ wx = ((((w.alloc (.cells #[.int .i64 k, .int .i64 o, .string a, .string b, .slice ka kn kc] 58)).alloc (.cells #[.int .i64 lv, .bool d, .bool x, .bool y, .bool z] 36)).alloc (.cells #[.int .i64 k, .int .i64 o, .string a, .string b, .slice ka kn kc] 58)).alloc (.cells #[.int .i64 lv, .bool d, .bool x, .bool y, .bool z] 36)))
  case first =>
    cases y
    all_goals by_cases h12 : k = 12
    all_goals (try subst h12)
    all_goals (go_wp2_with fail)
    all_goals go_meet
    all_goals exact ⟨by simp_all [Bool.or_assoc], rfl⟩
  case rest =>
  obtain ⟨rfl, rfl⟩ := hcut
  cases hc1 : (y && (k == 12 && o == 62)) with
  | true =>
    go_wp2
    go_ret
    exact ⟨ret_bool (by rw [e.out]; simp [hc0, hc1]), by repeat (first | exact Below.refl _ _ | refine Below.alloc ?_ (by first | omega | (simp; done) | (simp; omega)) _ | refine Below.drew ?_)⟩
  | false =>
  go_upto_region 8 with fail
  go_cut [37] from 38 to 54 (fun v wx => v = .bool (z && (k == 11 || (k == 9 || k == 4))) ∧ wx = ((((w.alloc (.cells #[.int .i64 k, .int .i64 o, .string a, .string b, .slice ka kn kc] 58)).alloc (.cells #[.int .i64 lv, .bool d, .bool x, .bool y, .bool z] 36)).alloc (.cells #[.int .i64 k, .int .i64 o, .string a, .string b, .slice ka kn kc] 58)).alloc (.cells #[.int .i64 lv, .bool d, .bool x, .bool y, .bool z] 36)))
  case first =>
    cases z
    all_goals by_cases h11 : k = 11
    all_goals (try subst h11)
    all_goals (try (by_cases h9 : k = 9))
    all_goals (try subst h9)
    all_goals (try (by_cases h4 : k = 4))
    all_goals (try subst h4)
    all_goals (go_wp2_with fail)
    all_goals go_meet
    all_goals exact ⟨by simp_all [Bool.or_assoc], rfl⟩
  case rest =>
  obtain ⟨rfl, rfl⟩ := hcut
  cases hc2 : (z && (k == 11 || (k == 9 || k == 4))) with
  | true =>
    go_wp2
    go_ret
    exact ⟨ret_bool (by rw [e.out]; simp [hc0, hc1, hc2]), by repeat (first | exact Below.refl _ _ | refine Below.alloc ?_ (by first | omega | (simp; done) | (simp; omega)) _ | refine Below.drew ?_)⟩
  | false =>
  have ea : Hid (ans = (d && k == 9 || decide (lv ≤ l))) := hid (by rw [e.out]; simp only [hc0, hc1, hc2, Bool.false_eq_true, if_false])
  clear e hc0 hc1 hc2
  cases d
  all_goals go_wp2
  all_goals go_ret
  all_goals exact ⟨ret_bool (by rw [ea.out]; simp_all), by repeat (first | exact Below.refl _ _ | refine Below.alloc ?_ (by first | omega | (simp; done) | (simp; omega)) _ | refine Below.drew ?_)⟩
set_option maxRecDepth 100000 in
set_option maxHeartbeats 6400000 in
theorem specFits_any (k o : Int) (a b : ByteArray) (ka : Option Addr) (kn kc : Nat) (p : Pos) (w : World) (hp : posOkB p = true) (hl : levelB k o ≠ 0) : Calls Tryz.prog 76 #[.agg #[.int .i64 k, .int .i64 o, .string a, .string b, .slice ka kn kc], .agg #[.int .i64 p.level, .bool p.dollar, .bool p.noIn, .bool p.noGt, .bool p.noSign]] w fun e w' => e = .returned (.bool (fitsB k o p)) ∧ Below w.heap.size w w' := by
  have hL := hid (fun W => specLevelOf_any k o a b ka kn kc W)
  have hP := hid (fun W => specPosOk_any p W)
  rw [hp] at hP
  have e := fits_eq hp hl
  unfold Pos.val at hP
  obtain ⟨lv, d, x, y, z⟩ := p
  simp only at e hP ⊢
  generalize fitsB k o ⟨lv, d, x, y, z⟩ = ans at *
  have hl0 : (levelB k o == 0) = false := by simpa using hl
  generalize levelB k o = l at *
  replace e := hid e
  clear hp
  go_enter Tryz.func76, Tryz.ntmps76
  go_upto_region 3 with (first
    | (go_at_call 78; refine (hL.out _).mono ?_; rintro e1 w1 ⟨rfl, hw1⟩; subst hw1)
    | (go_at_call 25; refine (hP.out _).mono ?_; rintro e2 w2 ⟨rfl, hw2⟩; subst hw2))
  go_cut [14] from 15 to 21 (fun v wx => v = .bool (x && k == 13) ∧ wx = ((((w.alloc (.cells #[.int .i64 k, .int .i64 o, .string a, .string b, .slice ka kn kc] 58)).alloc (.cells #[.int .i64 lv, .bool d, .bool x, .bool y, .bool z] 36)).alloc (.cells #[.int .i64 lv, .bool d, .bool x, .bool y, .bool z] 36)).alloc (.cells #[.int .i64 k, .int .i64 o, .string a, .string b, .slice ka kn kc] 58)))
  case first =>
    cases x
    all_goals (go_wp2_with fail)
    all_goals go_meet
    all_goals exact ⟨by simp_all [Bool.or_assoc], rfl⟩
  case rest =>
  obtain ⟨rfl, rfl⟩ := hcut
  cases hc0 : (x && k == 13) with
  | true =>
    go_wp2
    go_ret
    exact ⟨ret_bool (by rw [e.out]; simp [hc0]), by repeat (first | exact Below.refl _ _ | refine Below.alloc ?_ (by first | omega | (simp; done) | (simp; omega)) _ | refine Below.drew ?_)⟩
  | false =>
  go_upto_region 5 with fail
  go_cut [22] from 23 to 34 (fun v wx => v = .bool (y && (k == 12 && o == 62)) ∧ wx = ((((w.alloc (.cells #[.int .i64 k, .int .i64 o, .string a, .string b, .slice ka kn kc] 58)).alloc (.cells #[.int .i64 lv, .bool d, .bool x, .bool y, .bool z] 36)).alloc (.cells #[.int .i64 lv, .bool d, .bool x, .bool y, .bool z] 36)).alloc (.cells #[.int .i64 k, .int .i64 o, .string a, .string b, .slice ka kn kc] 58)))
  case first =>
    cases y
    all_goals by_cases h12 : k = 12
    all_goals (try subst h12)
    all_goals (go_wp2_with fail)
    all_goals go_meet
    all_goals exact ⟨by simp_all [Bool.or_assoc], rfl⟩
  case rest =>
  obtain ⟨rfl, rfl⟩ := hcut
  cases hc1 : (y && (k == 12 && o == 62)) with
  | true =>
    go_wp2
    go_ret
    exact ⟨ret_bool (by rw [e.out]; simp [hc0, hc1]), by repeat (first | exact Below.refl _ _ | refine Below.alloc ?_ (by first | omega | (simp; done) | (simp; omega)) _ | refine Below.drew ?_)⟩
  | false =>
  go_upto_region 7 with fail
  go_cut [35] from 36 to 52 (fun v wx => v = .bool (z && (k == 11 || (k == 9 || k == 4))) ∧ wx = ((((w.alloc (.cells #[.int .i64 k, .int .i64 o, .string a, .string b, .slice ka kn kc] 58)).alloc (.cells #[.int .i64 lv, .bool d, .bool x, .bool y, .bool z] 36)).alloc (.cells #[.int .i64 lv, .bool d, .bool x, .bool y, .bool z] 36)).alloc (.cells #[.int .i64 k, .int .i64 o, .string a, .string b, .slice ka kn kc] 58)))
  case first =>
    cases z
    all_goals by_cases h11 : k = 11
    all_goals (try subst h11)
    all_goals (try (by_cases h9 : k = 9))
    all_goals (try subst h9)
    all_goals (try (by_cases h4 : k = 4))
    all_goals (try subst h4)
    all_goals (go_wp2_with fail)
    all_goals go_meet
    all_goals exact ⟨by simp_all [Bool.or_assoc], rfl⟩
  case rest =>
  obtain ⟨rfl, rfl⟩ := hcut
  cases hc2 : (z && (k == 11 || (k == 9 || k == 4))) with
  | true =>
    go_wp2
    go_ret
    exact ⟨ret_bool (by rw [e.out]; simp [hc0, hc1, hc2]), by repeat (first | exact Below.refl _ _ | refine Below.alloc ?_ (by first | omega | (simp; done) | (simp; omega)) _ | refine Below.drew ?_)⟩
  | false =>
  go_upto_region 9 with fail
  go_cut [53] from 54 to 60 (fun v wx => v = .bool (d && k == 9) ∧ wx = ((((w.alloc (.cells #[.int .i64 k, .int .i64 o, .string a, .string b, .slice ka kn kc] 58)).alloc (.cells #[.int .i64 lv, .bool d, .bool x, .bool y, .bool z] 36)).alloc (.cells #[.int .i64 lv, .bool d, .bool x, .bool y, .bool z] 36)).alloc (.cells #[.int .i64 k, .int .i64 o, .string a, .string b, .slice ka kn kc] 58)))
  case first =>
    cases d
    all_goals (go_wp2_with fail)
    all_goals go_meet
    all_goals exact ⟨by simp_all [Bool.or_assoc], rfl⟩
  case rest =>
  obtain ⟨rfl, rfl⟩ := hcut
  cases hc3 : (d && k == 9) with
  | true =>
    go_wp2
    go_ret
    exact ⟨ret_bool (by rw [e.out]; simp [hc0, hc1, hc2, hc3]), by repeat (first | exact Below.refl _ _ | refine Below.alloc ?_ (by first | omega | (simp; done) | (simp; omega)) _ | refine Below.drew ?_)⟩
  | false =>
  go_wp2_with fail
  go_region_law (first | (go_simp; go_at_call 78; refine (hL.out _).mono ?_; rintro e2 w2 ⟨rfl, hw2⟩; subst hw2))
  all_goals go_wp2
  all_goals go_ret
  all_goals exact ⟨ret_bool (by rw [e.out]; simp [hc0, hc1, hc2, hc3]), by repeat (first | exact Below.refl _ _ | refine Below.alloc ?_ (by first | omega | (simp; done) | (simp; omega)) _ | refine Below.drew ?_)⟩
end Go.Proofs.YtkelhmgdajiocaaGreatDoor
