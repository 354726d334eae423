/- Walks and lemmas of this seat (FFields): what each theorem says of the functions that it names. Conditions: those that each theorem states. -/
import Derived.Test.YtfmojbfodcgebaaGreatDoorGE
namespace Go.Proofs.YtfmojbfodcgebaaGreatDoor
set_option linter.unusedVariables false
set_option linter.unusedSimpArgs false
open Go.RowKit Go.Lib

/-! The fields of a node, the reference's side. -/
theorem op_cases (k : Int) : k = 9 ∨ k = 10 ∨ k = 11 ∨ k = 12 ∨ k = 15 ∨ k = 21 ∨ k = 42 ∨ k = 43 ∨ (¬ k = 9 ∧ ¬ k = 10 ∧ ¬ k = 11 ∧ ¬ k = 12 ∧ ¬ k = 15 ∧ ¬ k = 21 ∧ ¬ k = 42 ∧ ¬ k = 43) := by omega
set_option maxRecDepth 100000 in
set_option maxHeartbeats 3200000 in
theorem specl7Op_any (k op : Int) (text other : ByteArray) (ka : Option Addr) (kn kc : Nat) (w : World) : Calls Tryz.prog 163 #[.agg #[.int .i64 k, .int .i64 op, .string text, .string other, .slice ka kn kc]] w fun e w' => e = .returned (.bool (opOk k op)) ∧ Below w.heap.size w w' := by
  have h1 := hid (specl7IsBin_any op)
  have h2 := hid (specl7IsAssign_any op)
  obtain ⟨ans, hans⟩ : ∃ b, b = opOk k op := ⟨_, rfl⟩
  rw [← hans]
  replace hans := hid hans
  rcases op_cases k with rfl | rfl | rfl | rfl | rfl | rfl | rfl | rfl | ⟨n0, n1, n2, n3, n4, n5, n6, n7⟩
  all_goals go_enter Tryz.func163, Tryz.ntmps163
  all_goals go_wp2_with (first | (go_at_call 189; refine (h1.out _).mono ?_; rintro e w' ⟨rfl, rfl⟩) | (go_at_call 190; refine (h2.out _).mono ?_; rintro e w' ⟨rfl, rfl⟩) | (go_at_call 152; refine (specl1In_any _ _ _ _).mono ?_; rintro e w' ⟨rfl, rfl⟩))
  all_goals first | go_ret | fail
  all_goals refine ⟨ret_bool ?_, by repeat (first | exact Below.refl _ _ | refine Below.alloc ?_ (by first | omega | (simp; done) | (simp; omega)) _ | refine Below.drew ?_)⟩
  all_goals replace hans := hans.out
  all_goals clear h1 h2
  all_goals rw [hans]
  all_goals clear hans
  all_goals first
    | (simp_all [opOk, isStepB, isBinB]; done)
    | (simp_all [opOk, isStepB, isBinB, inB]; omega)
    | (simp_all [opOk, isStepB, isBinB, inB]; rw [Bool.eq_iff_iff]; simp; omega)
theorem text_cases (k : Int) : k = 1 ∨ k = 5 ∨ k = 7 ∨ k = 13 ∨ k = 27 ∨ k = 44 ∨ k = 2 ∨ k = 3 ∨ k = 4 ∨ k = 34 ∨ k = 8 ∨ k = 32 ∨ k = 21 ∨ (¬ k = 1 ∧ ¬ k = 5 ∧ ¬ k = 7 ∧ ¬ k = 13 ∧ ¬ k = 27 ∧ ¬ k = 44 ∧ ¬ k = 2 ∧ ¬ k = 3 ∧ ¬ k = 4 ∧ ¬ k = 34 ∧ ¬ k = 8 ∧ ¬ k = 32 ∧ ¬ k = 21) := by omega
theorem out_cases (s : ByteArray) : outB s = (s.toList.isEmpty || (s.toList == [62] || (s.toList == [62, 62] || s.toList == [124]))) := by
  unfold outB
  rw [Bool.eq_iff_iff, decide_eq_true_eq, findS_iff, isEmp_iff, ← emp_iff]
  unfold outTab
  simp only [List.any_cons, List.any_nil, Bool.or_false]
  rw [show (⟨#[]⟩ : ByteArray).toList = [] from by rw [ByteArray.toList_eq], show (⟨#[62]⟩ : ByteArray).toList = [62] from by rw [ByteArray.toList_eq], show (⟨#[62, 62]⟩ : ByteArray).toList = [62, 62] from by rw [ByteArray.toList_eq], show (⟨#[124]⟩ : ByteArray).toList = [124] from by rw [ByteArray.toList_eq]]
  simp only [Bool.or_eq_true, beq_iff_eq]
  constructor
  · rintro (h | h | h | h)
    all_goals simp [← h]
  · rintro (h | h | h | h)
    all_goals simp [h]
set_option maxRecDepth 100000 in
set_option maxHeartbeats 3200000 in
theorem specl7Text_any (k op : Int) (text other : ByteArray) (ka : Option Addr) (kn kc : Nat) (w : World) (h1 : text.size ≤ 1048576) (h2 : other.size ≤ 1048576) : Calls Tryz.prog 164 #[.agg #[.int .i64 k, .int .i64 op, .string text, .string other, .slice ka kn kc]] w fun e w' => e = .returned (.bool (textsOk k (saysOf text other))) ∧ Below w.heap.size w w' := by
  have hN1 := hid (fun w => specNameOk_any text w h1)
  have hN2 := hid (fun w => specNameOk_any other w h2)
  have hNu := hid (fun w => specTokenOk_num text 0 w h1)
  have hSt := hid (fun w => specTokenOk_str text 0 w h1)
  have hEr := hid (fun w => specTokenOk_ere text 0 w h1)
  have hCo := hid (fun w => specTokenOk_com text 0 w h1)
  have hBl := hid (fun w => specIsBuiltin_any text w)
  have hoc := out_cases other
  obtain ⟨ans, hans⟩ : ∃ b, b = textsOk k (saysOf text other) := ⟨_, rfl⟩
  rw [← hans]
  unfold textsOk saysOf at hans
  simp only [hoc, ← isEmp_iff] at hans
  generalize nameOkB text = b1 at hN1 hans
  generalize nameOkB other = b2 at hN2 hans
  generalize numOk text = b3 at hNu hans
  generalize strOk text = b4 at hSt hans
  generalize ereOk text = b5 at hEr hans
  generalize comOk text = b6 at hCo hans
  generalize bltB text = b7 at hBl hans
  replace hans := hid hans
  clear hoc
  rcases text_cases k with rfl | rfl | rfl | rfl | rfl | rfl | rfl | rfl | rfl | rfl | rfl | rfl | rfl | ⟨n0, n1, n2, n3, n4, n5, n6, n7, n8, n9, n10, n11, n12⟩
  · go_enter Tryz.func164, Tryz.ntmps164
    go_wp2_with fail
    refine (hN1.out _).mono ?_; rintro e w1 ⟨rfl, hb1⟩
    have hB : Below w.heap.size w w1 := ((Below.refl w.heap.size w).alloc (Nat.le_refl _) _).trans (hb1.mono (by simp))
    have hN := (hb1.block w.heap.size (by simp)).trans (heap_alloc_new w _)
    have p3 : w1.cell? ⟨w.heap.size, 3, none⟩ = some (.string other) := by simp [World.cell?, hN]
    clear hb1 hN
    clear hN1 hN2 hNu hSt hEr hCo hBl
    go_wp2
    all_goals first | go_ret | fail
    all_goals refine ⟨ret_bool ?_, hB⟩
    all_goals replace hans := hans.out
    all_goals rw [hans]
    all_goals clear hans
    all_goals first
      | (simp_all; done)
      | (simp_all [Bool.or_assoc]; done)
  · go_enter Tryz.func164, Tryz.ntmps164
    go_wp2_with fail
    refine (hN1.out _).mono ?_; rintro e w1 ⟨rfl, hb1⟩
    have hB : Below w.heap.size w w1 := ((Below.refl w.heap.size w).alloc (Nat.le_refl _) _).trans (hb1.mono (by simp))
    have hN := (hb1.block w.heap.size (by simp)).trans (heap_alloc_new w _)
    have p3 : w1.cell? ⟨w.heap.size, 3, none⟩ = some (.string other) := by simp [World.cell?, hN]
    clear hb1 hN
    clear hN1 hN2 hNu hSt hEr hCo hBl
    go_wp2
    all_goals first | go_ret | fail
    all_goals refine ⟨ret_bool ?_, hB⟩
    all_goals replace hans := hans.out
    all_goals rw [hans]
    all_goals clear hans
    all_goals first
      | (simp_all; done)
      | (simp_all [Bool.or_assoc]; done)
  · go_enter Tryz.func164, Tryz.ntmps164
    go_wp2_with fail
    refine (hN1.out _).mono ?_; rintro e w1 ⟨rfl, hb1⟩
    have hB : Below w.heap.size w w1 := ((Below.refl w.heap.size w).alloc (Nat.le_refl _) _).trans (hb1.mono (by simp))
    have hN := (hb1.block w.heap.size (by simp)).trans (heap_alloc_new w _)
    have p3 : w1.cell? ⟨w.heap.size, 3, none⟩ = some (.string other) := by simp [World.cell?, hN]
    clear hb1 hN
    clear hN1 hN2 hNu hSt hEr hCo hBl
    go_wp2
    all_goals first | go_ret | fail
    all_goals refine ⟨ret_bool ?_, hB⟩
    all_goals replace hans := hans.out
    all_goals rw [hans]
    all_goals clear hans
    all_goals first
      | (simp_all; done)
      | (simp_all [Bool.or_assoc]; done)
  · go_enter Tryz.func164, Tryz.ntmps164
    go_wp2_with fail
    refine (hN1.out _).mono ?_; rintro e w1 ⟨rfl, hb1⟩
    have hB : Below w.heap.size w w1 := ((Below.refl w.heap.size w).alloc (Nat.le_refl _) _).trans (hb1.mono (by simp))
    have hN := (hb1.block w.heap.size (by simp)).trans (heap_alloc_new w _)
    have p3 : w1.cell? ⟨w.heap.size, 3, none⟩ = some (.string other) := by simp [World.cell?, hN]
    clear hb1 hN
    clear hN1 hN2 hNu hSt hEr hCo hBl
    go_wp2
    all_goals first | go_ret | fail
    all_goals refine ⟨ret_bool ?_, hB⟩
    all_goals replace hans := hans.out
    all_goals rw [hans]
    all_goals clear hans
    all_goals first
      | (simp_all; done)
      | (simp_all [Bool.or_assoc]; done)
  · go_enter Tryz.func164, Tryz.ntmps164
    go_wp2_with fail
    refine (hN1.out _).mono ?_; rintro e w1 ⟨rfl, hb1⟩
    have hB : Below w.heap.size w w1 := ((Below.refl w.heap.size w).alloc (Nat.le_refl _) _).trans (hb1.mono (by simp))
    have hN := (hb1.block w.heap.size (by simp)).trans (heap_alloc_new w _)
    have p3 : w1.cell? ⟨w.heap.size, 3, none⟩ = some (.string other) := by simp [World.cell?, hN]
    clear hb1 hN
    clear hN1 hN2 hNu hSt hEr hCo hBl
    go_wp2
    all_goals first | go_ret | fail
    all_goals refine ⟨ret_bool ?_, hB⟩
    all_goals replace hans := hans.out
    all_goals rw [hans]
    all_goals clear hans
    all_goals first
      | (simp_all; done)
      | (simp_all [Bool.or_assoc]; done)
  · go_enter Tryz.func164, Tryz.ntmps164
    go_wp2_with fail
    refine (hN1.out _).mono ?_; rintro e w1 ⟨rfl, hb1⟩
    have hB : Below w.heap.size w w1 := ((Below.refl w.heap.size w).alloc (Nat.le_refl _) _).trans (hb1.mono (by simp))
    have hN := (hb1.block w.heap.size (by simp)).trans (heap_alloc_new w _)
    have p3 : w1.cell? ⟨w.heap.size, 3, none⟩ = some (.string other) := by simp [World.cell?, hN]
    clear hb1 hN
    clear hN1 hN2 hNu hSt hEr hCo hBl
    go_wp2
    all_goals first | go_ret | fail
    all_goals refine ⟨ret_bool ?_, hB⟩
    all_goals replace hans := hans.out
    all_goals rw [hans]
    all_goals clear hans
    all_goals first
      | (simp_all; done)
      | (simp_all [Bool.or_assoc]; done)
  · go_enter Tryz.func164, Tryz.ntmps164
    go_wp2_with fail
    refine (hNu.out _).mono ?_; rintro e w1 ⟨rfl, hb1⟩
    have hB : Below w.heap.size w w1 := ((Below.refl w.heap.size w).alloc (Nat.le_refl _) _).trans (hb1.mono (by simp))
    have hN := (hb1.block w.heap.size (by simp)).trans (heap_alloc_new w _)
    have p3 : w1.cell? ⟨w.heap.size, 3, none⟩ = some (.string other) := by simp [World.cell?, hN]
    clear hb1 hN
    clear hN1 hN2 hNu hSt hEr hCo hBl
    go_wp2
    all_goals first | go_ret | fail
    all_goals refine ⟨ret_bool ?_, hB⟩
    all_goals replace hans := hans.out
    all_goals rw [hans]
    all_goals clear hans
    all_goals first
      | (simp_all; done)
      | (simp_all [Bool.or_assoc]; done)
  · go_enter Tryz.func164, Tryz.ntmps164
    go_wp2_with fail
    refine (hSt.out _).mono ?_; rintro e w1 ⟨rfl, hb1⟩
    have hB : Below w.heap.size w w1 := ((Below.refl w.heap.size w).alloc (Nat.le_refl _) _).trans (hb1.mono (by simp))
    have hN := (hb1.block w.heap.size (by simp)).trans (heap_alloc_new w _)
    have p3 : w1.cell? ⟨w.heap.size, 3, none⟩ = some (.string other) := by simp [World.cell?, hN]
    clear hb1 hN
    clear hN1 hN2 hNu hSt hEr hCo hBl
    go_wp2
    all_goals first | go_ret | fail
    all_goals refine ⟨ret_bool ?_, hB⟩
    all_goals replace hans := hans.out
    all_goals rw [hans]
    all_goals clear hans
    all_goals first
      | (simp_all; done)
      | (simp_all [Bool.or_assoc]; done)
  · go_enter Tryz.func164, Tryz.ntmps164
    go_wp2_with fail
    refine (hEr.out _).mono ?_; rintro e w1 ⟨rfl, hb1⟩
    have hB : Below w.heap.size w w1 := ((Below.refl w.heap.size w).alloc (Nat.le_refl _) _).trans (hb1.mono (by simp))
    have hN := (hb1.block w.heap.size (by simp)).trans (heap_alloc_new w _)
    have p3 : w1.cell? ⟨w.heap.size, 3, none⟩ = some (.string other) := by simp [World.cell?, hN]
    clear hb1 hN
    clear hN1 hN2 hNu hSt hEr hCo hBl
    go_wp2
    all_goals first | go_ret | fail
    all_goals refine ⟨ret_bool ?_, hB⟩
    all_goals replace hans := hans.out
    all_goals rw [hans]
    all_goals clear hans
    all_goals first
      | (simp_all; done)
      | (simp_all [Bool.or_assoc]; done)
  · go_enter Tryz.func164, Tryz.ntmps164
    go_wp2_with fail
    refine (hCo.out _).mono ?_; rintro e w1 ⟨rfl, hb1⟩
    have hB : Below w.heap.size w w1 := ((Below.refl w.heap.size w).alloc (Nat.le_refl _) _).trans (hb1.mono (by simp))
    have hN := (hb1.block w.heap.size (by simp)).trans (heap_alloc_new w _)
    have p3 : w1.cell? ⟨w.heap.size, 3, none⟩ = some (.string other) := by simp [World.cell?, hN]
    clear hb1 hN
    clear hN1 hN2 hNu hSt hEr hCo hBl
    go_wp2
    all_goals first | go_ret | fail
    all_goals refine ⟨ret_bool ?_, hB⟩
    all_goals replace hans := hans.out
    all_goals rw [hans]
    all_goals clear hans
    all_goals first
      | (simp_all; done)
      | (simp_all [Bool.or_assoc]; done)
  · go_enter Tryz.func164, Tryz.ntmps164
    go_wp2_with fail
    refine (hBl.out _).mono ?_; rintro e w1 ⟨rfl, hb1⟩
    have hB : Below w.heap.size w w1 := ((Below.refl w.heap.size w).alloc (Nat.le_refl _) _).trans (hb1.mono (by simp))
    have hN := (hb1.block w.heap.size (by simp)).trans (heap_alloc_new w _)
    have p3 : w1.cell? ⟨w.heap.size, 3, none⟩ = some (.string other) := by simp [World.cell?, hN]
    clear hb1 hN
    clear hN1 hN2 hNu hSt hEr hCo hBl
    go_wp2
    all_goals first | go_ret | fail
    all_goals refine ⟨ret_bool ?_, hB⟩
    all_goals replace hans := hans.out
    all_goals rw [hans]
    all_goals clear hans
    all_goals first
      | (simp_all; done)
      | (simp_all [Bool.or_assoc]; done)
  · go_enter Tryz.func164, Tryz.ntmps164
    go_wp2_with fail
    refine (hN1.out _).mono ?_; rintro e w1 ⟨rfl, hb1⟩
    have hB : Below w.heap.size w w1 := ((Below.refl w.heap.size w).alloc (Nat.le_refl _) _).trans (hb1.mono (by simp))
    have hN := (hb1.block w.heap.size (by simp)).trans (heap_alloc_new w _)
    have p3 : w1.cell? ⟨w.heap.size, 3, none⟩ = some (.string other) := by simp [World.cell?, hN]
    clear hb1 hN
    clear hN1 hNu hSt hEr hCo hBl
    cases b1
    · clear hN2
      go_wp2
      all_goals first | go_ret | fail
      all_goals refine ⟨ret_bool ?_, hB⟩
      all_goals replace hans := hans.out
      all_goals rw [hans]
      all_goals clear hans
      all_goals first
        | (simp_all; done)
        | (simp_all [Bool.or_assoc]; done)
    · go_wp2_with fail
      refine (hN2.out _).mono ?_; rintro e w2 ⟨rfl, hb2⟩
      replace hB := hB.trans (hb2.mono hB.size)
      clear hN2 hb2
      go_wp2
      all_goals first | go_ret | fail
      all_goals refine ⟨ret_bool ?_, hB⟩
      all_goals replace hans := hans.out
      all_goals rw [hans]
      all_goals clear hans
      all_goals first
        | (simp_all; done)
        | (simp_all [Bool.or_assoc]; done)
  · go_enter Tryz.func164, Tryz.ntmps164
    clear hN1 hN2 hNu hSt hEr hCo hBl
    go_wp2
    all_goals first | go_ret | fail
    all_goals refine ⟨ret_bool ?_, (Below.refl _ _).alloc (Nat.le_refl _) _⟩
    all_goals replace hans := hans.out
    all_goals rw [hans]
    all_goals clear hans
    all_goals first
      | (simp_all; done)
      | (simp_all [Bool.or_assoc]; done)
  · go_enter Tryz.func164, Tryz.ntmps164
    clear hN1 hN2 hNu hSt hEr hCo hBl
    go_wp2
    all_goals first | go_ret | fail
    all_goals refine ⟨ret_bool ?_, (Below.refl _ _).alloc (Nat.le_refl _) _⟩
    all_goals replace hans := hans.out
    all_goals rw [hans]
    all_goals clear hans
    all_goals first
      | (simp_all; done)
      | (simp_all [Bool.or_assoc]; done)
end Go.Proofs.YtfmojbfodcgebaaGreatDoor
