/- Walks and lemmas of this seat (FFields): what each theorem says of the functions that it names. Conditions: those that each theorem states. -/
import Derived.Test.YtkelhmgdajiocaaGreatDoorGE
import Derived.Test.YtkelhmgdajiocaaGreatDoorGKS
import Derived.Test.YtkelhmgdajiocaaGreatDoorGA
namespace Go.Proofs.YtkelhmgdajiocaaGreatDoor
set_option linter.unusedVariables false
set_option linter.unusedSimpArgs false
open Go.RowKit Go.Lib

/-! The fields of a node, the reference's side. -/
theorem op_cases (k : Int) : k = 9 ∨ k = 10 ∨ k = 11 ∨ k = 12 ∨ k = 15 ∨ k = 21 ∨ k = 42 ∨ k = 43 ∨ (¬ k = 9 ∧ ¬ k = 10 ∧ ¬ k = 11 ∧ ¬ k = 12 ∧ ¬ k = 15 ∧ ¬ k = 21 ∧ ¬ k = 42 ∧ ¬ k = 43) := by omega
set_option maxRecDepth 100000 in
set_option maxHeartbeats 3200000 in
theorem specl7Op_any (k op : Int) (text other : ByteArray) (ka : Option Addr) (kn kc : Nat) (w : World) : Calls Tryz.prog 97 #[.agg #[.int .i64 k, .int .i64 op, .string text, .string other, .slice ka kn kc]] w fun e w' => e = .returned (.bool (opOk k op)) ∧ Below w.heap.size w w' := by
  have h1 := hid (specl7IsBin_any op)
  have h2 := hid (specl7IsAssign_any op)
  obtain ⟨ans, hans⟩ : ∃ b, b = opOk k op := ⟨_, rfl⟩
  rw [← hans]
  replace hans := hid hans
  rcases op_cases k with rfl | rfl | rfl | rfl | rfl | rfl | rfl | rfl | ⟨n0, n1, n2, n3, n4, n5, n6, n7⟩
  all_goals go_enter Tryz.func97, Tryz.ntmps97
  all_goals go_wp2_with (first | (go_at_call 125; refine (h1.out _).mono ?_; rintro e w' ⟨rfl, rfl⟩) | (go_at_call 126; refine (h2.out _).mono ?_; rintro e w' ⟨rfl, rfl⟩) | (go_at_call 52; refine (specl1In_any _ _ _ _).mono ?_; rintro e w' ⟨rfl, rfl⟩))
  all_goals first | go_ret | fail
  all_goals refine ⟨ret_bool ?_, by repeat (first | exact Below.refl _ _ | refine Below.alloc ?_ (by first | omega | (simp; done) | (simp; omega)) _ | refine Below.drew ?_)⟩
  all_goals replace hans := hans.out
  all_goals clear h1 h2
  all_goals rw [hans]
  all_goals clear hans
  all_goals first
    | (simp_all [opOk, isStepB, isBinB]; done)
    | (simp_all [opOk, isStepB, isBinB, inB]; omega)
    | (simp_all [opOk, isStepB, isBinB, inB]; rw [Bool.eq_iff_iff]; simp; omega)
theorem text_cases (k : Int) : k = 1 ∨ k = 5 ∨ k = 7 ∨ k = 13 ∨ k = 27 ∨ k = 44 ∨ k = 2 ∨ k = 3 ∨ k = 4 ∨ k = 34 ∨ k = 8 ∨ k = 32 ∨ k = 21 ∨ (¬ k = 1 ∧ ¬ k = 5 ∧ ¬ k = 7 ∧ ¬ k = 13 ∧ ¬ k = 27 ∧ ¬ k = 44 ∧ ¬ k = 2 ∧ ¬ k = 3 ∧ ¬ k = 4 ∧ ¬ k = 34 ∧ ¬ k = 8 ∧ ¬ k = 32 ∧ ¬ k = 21) := by omega
theorem out_cases (s : ByteArray) : outB s = (s.toList.isEmpty || (s.toList == [62] || (s.toList == [62, 62] || s.toList == [124]))) := by
  unfold outB
  rw [Bool.eq_iff_iff, decide_eq_true_eq, findS_iff, isEmp_iff, ← emp_iff]
  unfold outTab
  simp only [List.any_cons, List.any_nil, Bool.or_false]
  rw [show (⟨#[]⟩ : ByteArray).toList = [] from by rw [ByteArray.toList_eq], show (⟨#[62]⟩ : ByteArray).toList = [62] from by rw [ByteArray.toList_eq], show (⟨#[62, 62]⟩ : ByteArray).toList = [62, 62] from by rw [ByteArray.toList_eq], show (⟨#[124]⟩ : ByteArray).toList = [124] from by rw [ByteArray.toList_eq]]
  simp only [Bool.or_eq_true, beq_iff_eq]
  constructor
  · rintro (h | h | h | h)
    all_goals simp [← h]
  · rintro (h | h | h | h)
    all_goals simp [h]
set_option maxRecDepth 100000 in
set_option maxHeartbeats 3200000 in
theorem specl7Text_any (k op : Int) (text other : ByteArray) (ka : Option Addr) (kn kc : Nat) (w : World) (h1 : text.size ≤ 1048576) (h2 : other.size ≤ 1048576) : Calls Tryz.prog 98 #[.agg #[.int .i64 k, .int .i64 op, .string text, .string other, .slice ka kn kc]] w fun e w' => e = .returned (.bool (textsOk k (saysOf text other))) ∧ Below w.heap.size w w' := by
  have hN1 := hid (fun w => specNameOk_any text w h1)
  have hN2 := hid (fun w => specNameOk_any other w h2)
  have hNu := hid (fun w => specTokenOk_num text 0 w h1)
  have hSt := hid (fun w => specTokenOk_str text 0 w h1)
  have hEr := hid (fun w => specTokenOk_ere text 0 w h1)
  have hCo := hid (fun w => specTokenOk_com text 0 w h1)
  have hBl := hid (fun w => specIsBuiltin_any text w)
  have hoc := out_cases other
  obtain ⟨ans, hans⟩ : ∃ b, b = textsOk k (saysOf text other) := ⟨_, rfl⟩
  rw [← hans]
  unfold textsOk saysOf at hans
  simp only [hoc, ← isEmp_iff] at hans
  generalize nameOkB text = b1 at hN1 hans
  generalize nameOkB other = b2 at hN2 hans
  generalize numOk text = b3 at hNu hans
  generalize strOk text = b4 at hSt hans
  generalize ereOk text = b5 at hEr hans
  generalize comOk text = b6 at hCo hans
  generalize bltB text = b7 at hBl hans
  replace hans := hid hans
  clear hoc
  rcases text_cases k with rfl | rfl | rfl | rfl | rfl | rfl | rfl | rfl | rfl | rfl | rfl | rfl | rfl | ⟨n0, n1, n2, n3, n4, n5, n6, n7, n8, n9, n10, n11, n12⟩
  · go_enter Tryz.func98, Tryz.ntmps98
    go_wp2_with fail
    refine (hN1.out _).mono ?_; rintro e w1 ⟨rfl, hb1⟩
    have hB : Below w.heap.size w w1 := ((Below.refl w.heap.size w).alloc (Nat.le_refl _) _).trans (hb1.mono (by simp))
    have hN := (hb1.block w.heap.size (by simp)).trans (heap_alloc_new w _)
    have p3 : w1.cell? ⟨w.heap.size, 3, none⟩ = some (.string other) := by simp [World.cell?, hN]
    clear hb1 hN
    clear hN1 hN2 hNu hSt hEr hCo hBl
    go_wp2
    all_goals first | go_ret | fail
    all_goals refine ⟨ret_bool ?_, hB⟩
    all_goals replace hans := hans.out
    all_goals rw [hans]
    all_goals clear hans
    all_goals first
      | (simp_all; done)
      | (simp_all [Bool.or_assoc]; done)
  · go_enter Tryz.func98, Tryz.ntmps98
    go_wp2_with fail
    refine (hN1.out _).mono ?_; rintro e w1 ⟨rfl, hb1⟩
    have hB : Below w.heap.size w w1 := ((Below.refl w.heap.size w).alloc (Nat.le_refl _) _).trans (hb1.mono (by simp))
    have hN := (hb1.block w.heap.size (by simp)).trans (heap_alloc_new w _)
    have p3 : w1.cell? ⟨w.heap.size, 3, none⟩ = some (.string other) := by simp [World.cell?, hN]
    clear hb1 hN
    clear hN1 hN2 hNu hSt hEr hCo hBl
    go_wp2
    all_goals first | go_ret | fail
    all_goals refine ⟨ret_bool ?_, hB⟩
    all_goals replace hans := hans.out
    all_goals rw [hans]
    all_goals clear hans
    all_goals first
      | (simp_all; done)
      | (simp_all [Bool.or_assoc]; done)
  · go_enter Tryz.func98, Tryz.ntmps98
    go_wp2_with fail
    refine (hN1.out _).mono ?_; rintro e w1 ⟨rfl, hb1⟩
    have hB : Below w.heap.size w w1 := ((Below.refl w.heap.size w).alloc (Nat.le_refl _) _).trans (hb1.mono (by simp))
    have hN := (hb1.block w.heap.size (by simp)).trans (heap_alloc_new w _)
    have p3 : w1.cell? ⟨w.heap.size, 3, none⟩ = some (.string other) := by simp [World.cell?, hN]
    clear hb1 hN
    clear hN1 hN2 hNu hSt hEr hCo hBl
    go_wp2
    all_goals first | go_ret | fail
    all_goals refine ⟨ret_bool ?_, hB⟩
    all_goals replace hans := hans.out
    all_goals rw [hans]
    all_goals clear hans
    all_goals first
      | (simp_all; done)
      | (simp_all [Bool.or_assoc]; done)
  · go_enter Tryz.func98, Tryz.ntmps98
    go_wp2_with fail
    refine (hN1.out _).mono ?_; rintro e w1 ⟨rfl, hb1⟩
    have hB : Below w.heap.size w w1 := ((Below.refl w.heap.size w).alloc (Nat.le_refl _) _).trans (hb1.mono (by simp))
    have hN := (hb1.block w.heap.size (by simp)).trans (heap_alloc_new w _)
    have p3 : w1.cell? ⟨w.heap.size, 3, none⟩ = some (.string other) := by simp [World.cell?, hN]
    clear hb1 hN
    clear hN1 hN2 hNu hSt hEr hCo hBl
    go_wp2
    all_goals first | go_ret | fail
    all_goals refine ⟨ret_bool ?_, hB⟩
    all_goals replace hans := hans.out
    all_goals rw [hans]
    all_goals clear hans
    all_goals first
      | (simp_all; done)
      | (simp_all [Bool.or_assoc]; done)
  · go_enter Tryz.func98, Tryz.ntmps98
    go_wp2_with fail
    refine (hN1.out _).mono ?_; rintro e w1 ⟨rfl, hb1⟩
    have hB : Below w.heap.size w w1 := ((Below.refl w.heap.size w).alloc (Nat.le_refl _) _).trans (hb1.mono (by simp))
    have hN := (hb1.block w.heap.size (by simp)).trans (heap_alloc_new w _)
    have p3 : w1.cell? ⟨w.heap.size, 3, none⟩ = some (.string other) := by simp [World.cell?, hN]
    clear hb1 hN
    clear hN1 hN2 hNu hSt hEr hCo hBl
    go_wp2
    all_goals first | go_ret | fail
    all_goals refine ⟨ret_bool ?_, hB⟩
    all_goals replace hans := hans.out
    all_goals rw [hans]
    all_goals clear hans
    all_goals first
      | (simp_all; done)
      | (simp_all [Bool.or_assoc]; done)
  · go_enter Tryz.func98, Tryz.ntmps98
    go_wp2_with fail
    refine (hN1.out _).mono ?_; rintro e w1 ⟨rfl, hb1⟩
    have hB : Below w.heap.size w w1 := ((Below.refl w.heap.size w).alloc (Nat.le_refl _) _).trans (hb1.mono (by simp))
    have hN := (hb1.block w.heap.size (by simp)).trans (heap_alloc_new w _)
    have p3 : w1.cell? ⟨w.heap.size, 3, none⟩ = some (.string other) := by simp [World.cell?, hN]
    clear hb1 hN
    clear hN1 hN2 hNu hSt hEr hCo hBl
    go_wp2
    all_goals first | go_ret | fail
    all_goals refine ⟨ret_bool ?_, hB⟩
    all_goals replace hans := hans.out
    all_goals rw [hans]
    all_goals clear hans
    all_goals first
      | (simp_all; done)
      | (simp_all [Bool.or_assoc]; done)
  · go_enter Tryz.func98, Tryz.ntmps98
    go_wp2_with fail
    refine (hNu.out _).mono ?_; rintro e w1 ⟨rfl, hb1⟩
    have hB : Below w.heap.size w w1 := ((Below.refl w.heap.size w).alloc (Nat.le_refl _) _).trans (hb1.mono (by simp))
    have hN := (hb1.block w.heap.size (by simp)).trans (heap_alloc_new w _)
    have p3 : w1.cell? ⟨w.heap.size, 3, none⟩ = some (.string other) := by simp [World.cell?, hN]
    clear hb1 hN
    clear hN1 hN2 hNu hSt hEr hCo hBl
    go_wp2
    all_goals first | go_ret | fail
    all_goals refine ⟨ret_bool ?_, hB⟩
    all_goals replace hans := hans.out
    all_goals rw [hans]
    all_goals clear hans
    all_goals first
      | (simp_all; done)
      | (simp_all [Bool.or_assoc]; done)
  · go_enter Tryz.func98, Tryz.ntmps98
    go_wp2_with fail
    refine (hSt.out _).mono ?_; rintro e w1 ⟨rfl, hb1⟩
    have hB : Below w.heap.size w w1 := ((Below.refl w.heap.size w).alloc (Nat.le_refl _) _).trans (hb1.mono (by simp))
    have hN := (hb1.block w.heap.size (by simp)).trans (heap_alloc_new w _)
    have p3 : w1.cell? ⟨w.heap.size, 3, none⟩ = some (.string other) := by simp [World.cell?, hN]
    clear hb1 hN
    clear hN1 hN2 hNu hSt hEr hCo hBl
    go_wp2
    all_goals first | go_ret | fail
    all_goals refine ⟨ret_bool ?_, hB⟩
    all_goals replace hans := hans.out
    all_goals rw [hans]
    all_goals clear hans
    all_goals first
      | (simp_all; done)
      | (simp_all [Bool.or_assoc]; done)
  · go_enter Tryz.func98, Tryz.ntmps98
    go_wp2_with fail
    refine (hEr.out _).mono ?_; rintro e w1 ⟨rfl, hb1⟩
    have hB : Below w.heap.size w w1 := ((Below.refl w.heap.size w).alloc (Nat.le_refl _) _).trans (hb1.mono (by simp))
    have hN := (hb1.block w.heap.size (by simp)).trans (heap_alloc_new w _)
    have p3 : w1.cell? ⟨w.heap.size, 3, none⟩ = some (.string other) := by simp [World.cell?, hN]
    clear hb1 hN
    clear hN1 hN2 hNu hSt hEr hCo hBl
    go_wp2
    all_goals first | go_ret | fail
    all_goals refine ⟨ret_bool ?_, hB⟩
    all_goals replace hans := hans.out
    all_goals rw [hans]
    all_goals clear hans
    all_goals first
      | (simp_all; done)
      | (simp_all [Bool.or_assoc]; done)
  · go_enter Tryz.func98, Tryz.ntmps98
    go_wp2_with fail
    refine (hCo.out _).mono ?_; rintro e w1 ⟨rfl, hb1⟩
    have hB : Below w.heap.size w w1 := ((Below.refl w.heap.size w).alloc (Nat.le_refl _) _).trans (hb1.mono (by simp))
    have hN := (hb1.block w.heap.size (by simp)).trans (heap_alloc_new w _)
    have p3 : w1.cell? ⟨w.heap.size, 3, none⟩ = some (.string other) := by simp [World.cell?, hN]
    clear hb1 hN
    clear hN1 hN2 hNu hSt hEr hCo hBl
    go_wp2
    all_goals first | go_ret | fail
    all_goals refine ⟨ret_bool ?_, hB⟩
    all_goals replace hans := hans.out
    all_goals rw [hans]
    all_goals clear hans
    all_goals first
      | (simp_all; done)
      | (simp_all [Bool.or_assoc]; done)
  · go_enter Tryz.func98, Tryz.ntmps98
    go_wp2_with fail
    refine (hBl.out _).mono ?_; rintro e w1 ⟨rfl, hb1⟩
    have hB : Below w.heap.size w w1 := ((Below.refl w.heap.size w).alloc (Nat.le_refl _) _).trans (hb1.mono (by simp))
    have hN := (hb1.block w.heap.size (by simp)).trans (heap_alloc_new w _)
    have p3 : w1.cell? ⟨w.heap.size, 3, none⟩ = some (.string other) := by simp [World.cell?, hN]
    clear hb1 hN
    clear hN1 hN2 hNu hSt hEr hCo hBl
    go_wp2
    all_goals first | go_ret | fail
    all_goals refine ⟨ret_bool ?_, hB⟩
    all_goals replace hans := hans.out
    all_goals rw [hans]
    all_goals clear hans
    all_goals first
      | (simp_all; done)
      | (simp_all [Bool.or_assoc]; done)
  · go_enter Tryz.func98, Tryz.ntmps98
    go_wp2_with fail
    refine (hN1.out _).mono ?_; rintro e w1 ⟨rfl, hb1⟩
    have hB : Below w.heap.size w w1 := ((Below.refl w.heap.size w).alloc (Nat.le_refl _) _).trans (hb1.mono (by simp))
    have hN := (hb1.block w.heap.size (by simp)).trans (heap_alloc_new w _)
    have p3 : w1.cell? ⟨w.heap.size, 3, none⟩ = some (.string other) := by simp [World.cell?, hN]
    clear hb1 hN
    clear hN1 hNu hSt hEr hCo hBl
    cases b1
    · clear hN2
      go_wp2
      all_goals first | go_ret | fail
      all_goals refine ⟨ret_bool ?_, hB⟩
      all_goals replace hans := hans.out
      all_goals rw [hans]
      all_goals clear hans
      all_goals first
        | (simp_all; done)
        | (simp_all [Bool.or_assoc]; done)
    · go_wp2_with fail
      refine (hN2.out _).mono ?_; rintro e w2 ⟨rfl, hb2⟩
      replace hB := hB.trans (hb2.mono hB.size)
      clear hN2 hb2
      go_wp2
      all_goals first | go_ret | fail
      all_goals refine ⟨ret_bool ?_, hB⟩
      all_goals replace hans := hans.out
      all_goals rw [hans]
      all_goals clear hans
      all_goals first
        | (simp_all; done)
        | (simp_all [Bool.or_assoc]; done)
  · go_enter Tryz.func98, Tryz.ntmps98
    clear hN1 hN2 hNu hSt hEr hCo hBl
    go_wp2
    all_goals first | go_ret | fail
    all_goals refine ⟨ret_bool ?_, (Below.refl _ _).alloc (Nat.le_refl _) _⟩
    all_goals replace hans := hans.out
    all_goals rw [hans]
    all_goals clear hans
    all_goals first
      | (simp_all; done)
      | (simp_all [Bool.or_assoc]; done)
  · go_enter Tryz.func98, Tryz.ntmps98
    clear hN1 hN2 hNu hSt hEr hCo hBl
    go_wp2
    all_goals first | go_ret | fail
    all_goals refine ⟨ret_bool ?_, (Below.refl _ _).alloc (Nat.le_refl _) _⟩
    all_goals replace hans := hans.out
    all_goals rw [hans]
    all_goals clear hans
    all_goals first
      | (simp_all; done)
      | (simp_all [Bool.or_assoc]; done)
end Go.Proofs.YtkelhmgdajiocaaGreatDoor
/- Walks and lemmas of this seat (FFieldsOk): what each theorem says of the functions that it names. Conditions: those that each theorem states. -/
namespace Go.Proofs.YtkelhmgdajiocaaGreatDoor
set_option linter.unusedVariables false
set_option linter.unusedSimpArgs false
open Go.RowKit Go.Lib

/-! May a node be as it is: the reference's side. -/
theorem known_cases (k : Int) : (inB k 1 16 = true ∧ knownB k = true) ∨ (inB k 1 16 = false ∧ inB k 20 34 = true ∧ knownB k = true) ∨ (inB k 1 16 = false ∧ inB k 20 34 = false ∧ inB k 40 45 = true ∧ knownB k = true) ∨ (inB k 1 16 = false ∧ inB k 20 34 = false ∧ inB k 40 45 = false ∧ knownB k = false) := by
  unfold knownB
  cases inB k 1 16 <;> cases inB k 20 34 <;> cases inB k 40 45 <;> simp
set_option maxRecDepth 100000 in
set_option maxHeartbeats 3200000 in
theorem specFieldsOk_any (k op : Int) (text other : ByteArray) (ka : Option Addr) (kn kc : Nat) (w : World) (h1 : text.size ≤ 1048576) (h2 : other.size ≤ 1048576) (hop : I64 op) (hn : kn ≤ 400) : Calls Tryz.prog 74 #[.agg #[.int .i64 k, .int .i64 op, .string text, .string other, .slice ka kn kc]] w fun e w' => e = .returned (.bool (fieldsOk k op (saysOf text other) kn)) ∧ Below w.heap.size w w' := by
  have hM := hid (fun w => specl7Many_any k op text other ka kn kc w hop)
  have hO := hid (fun w => specl7Op_any k op text other ka kn kc w)
  have hT := hid (fun w => specl7Text_any k op text other ka kn kc w h1 h2)
  have hR := (fields7_eq k op kn (saysOf text other) (by omega) (by omega)).symm
  have hI := hid (fun w => specl1In_any (kn : Int) (least7 k op (other.size == 0)) (most7 k op (other.size == 0) kn) w)
  rw [show (saysOf text other).emp2 = (other.size == 0) from rfl] at hR
  generalize fieldsOk k op (saysOf text other) kn = ans at hR ⊢
  generalize opOk k op = b1 at hO hR
  generalize textsOk k (saysOf text other) = b2 at hT hR
  generalize inB (kn : Int) (least7 k op (other.size == 0)) (most7 k op (other.size == 0) kn) = b3 at hI hR
  generalize least7 k op (other.size == 0) = le at hM hI
  generalize most7 k op (other.size == 0) kn = mo at hM hI
  replace hR := hid hR
  clear h1 h2 hop hn
  go_enter Tryz.func74, Tryz.ntmps74
  go_wp2_with fail
  refine (hM.out _).mono ?_; rintro e w1 ⟨rfl, hb1⟩
  have hN := (hb1.block w.heap.size (by simp)).trans (heap_alloc_new w _)
  have hB : Below w.heap.size w w1 := ((Below.refl w.heap.size w).alloc (Nat.le_refl _) _).trans (hb1.mono (by simp))
  clear hb1 hM
  obtain ⟨p0, p1, p2, p3, p4⟩ := box_cells hN
  replace hN := hid hN
  go_wp2_with fail
  rcases known_cases k with ⟨c1, ck⟩ | ⟨c1, c2, ck⟩ | ⟨c1, c2, c3, ck⟩ | ⟨c1, c2, c3, ck⟩
  · rw [ck] at hR
    have hR2 : Hid (ans = (b1 && (b2 && b3))) := hid (by rw [hR.out, Bool.true_and])
    clear hR ck
    go_wp2_with (go_at_call 52; refine (specl1In_any _ _ _ _).mono ?_; rintro e w' ⟨rfl, rfl⟩; first | rw [c1])
    clear c1
    refine (hO.out _).mono ?_; rintro e w2 ⟨rfl, hb2⟩
    replace hN := (hb2.block w.heap.size (heap_lt hN.out)).trans hN.out
    replace hB := hB.trans (hb2.mono hB.size)
    clear hb2 hO p0 p1 p2 p3 p4
    obtain ⟨p0, p1, p2, p3, p4⟩ := box_cells hN
    replace hN := hid hN
    cases b1
    · go_wp2
      go_ret
      exact ⟨ret_bool (hR2.out.trans rfl).symm, hB⟩
    go_wp2_with fail
    refine (hT.out _).mono ?_; rintro e w3 ⟨rfl, hb3⟩
    replace hN := (hb3.block w.heap.size (heap_lt hN.out)).trans hN.out
    replace hB := hB.trans (hb3.mono hB.size)
    clear hb3 hT p0 p1 p2 p3 p4
    obtain ⟨p0, p1, p2, p3, p4⟩ := box_cells hN
    replace hN := hid hN
    cases b2
    · go_wp2
      go_ret
      exact ⟨ret_bool (hR2.out.trans rfl).symm, hB⟩
    go_wp2_with (go_at_call 52; refine (hI.out _).mono ?_; rintro e w' ⟨rfl, rfl⟩)
    go_ret
    exact ⟨ret_bool (hR2.out.trans rfl).symm, hB⟩
  · rw [ck] at hR
    have hR2 : Hid (ans = (b1 && (b2 && b3))) := hid (by rw [hR.out, Bool.true_and])
    clear hR ck
    go_wp2_with (go_at_call 52; refine (specl1In_any _ _ _ _).mono ?_; rintro e w' ⟨rfl, rfl⟩; first | rw [c1] | rw [c2])
    clear c1 c2
    refine (hO.out _).mono ?_; rintro e w2 ⟨rfl, hb2⟩
    replace hN := (hb2.block w.heap.size (heap_lt hN.out)).trans hN.out
    replace hB := hB.trans (hb2.mono hB.size)
    clear hb2 hO p0 p1 p2 p3 p4
    obtain ⟨p0, p1, p2, p3, p4⟩ := box_cells hN
    replace hN := hid hN
    cases b1
    · go_wp2
      go_ret
      exact ⟨ret_bool (hR2.out.trans rfl).symm, hB⟩
    go_wp2_with fail
    refine (hT.out _).mono ?_; rintro e w3 ⟨rfl, hb3⟩
    replace hN := (hb3.block w.heap.size (heap_lt hN.out)).trans hN.out
    replace hB := hB.trans (hb3.mono hB.size)
    clear hb3 hT p0 p1 p2 p3 p4
    obtain ⟨p0, p1, p2, p3, p4⟩ := box_cells hN
    replace hN := hid hN
    cases b2
    · go_wp2
      go_ret
      exact ⟨ret_bool (hR2.out.trans rfl).symm, hB⟩
    go_wp2_with (go_at_call 52; refine (hI.out _).mono ?_; rintro e w' ⟨rfl, rfl⟩)
    go_ret
    exact ⟨ret_bool (hR2.out.trans rfl).symm, hB⟩
  · rw [ck] at hR
    have hR2 : Hid (ans = (b1 && (b2 && b3))) := hid (by rw [hR.out, Bool.true_and])
    clear hR ck
    go_wp2_with (go_at_call 52; refine (specl1In_any _ _ _ _).mono ?_; rintro e w' ⟨rfl, rfl⟩; first | rw [c1] | rw [c2] | rw [c3])
    clear c1 c2 c3
    refine (hO.out _).mono ?_; rintro e w2 ⟨rfl, hb2⟩
    replace hN := (hb2.block w.heap.size (heap_lt hN.out)).trans hN.out
    replace hB := hB.trans (hb2.mono hB.size)
    clear hb2 hO p0 p1 p2 p3 p4
    obtain ⟨p0, p1, p2, p3, p4⟩ := box_cells hN
    replace hN := hid hN
    cases b1
    · go_wp2
      go_ret
      exact ⟨ret_bool (hR2.out.trans rfl).symm, hB⟩
    go_wp2_with fail
    refine (hT.out _).mono ?_; rintro e w3 ⟨rfl, hb3⟩
    replace hN := (hb3.block w.heap.size (heap_lt hN.out)).trans hN.out
    replace hB := hB.trans (hb3.mono hB.size)
    clear hb3 hT p0 p1 p2 p3 p4
    obtain ⟨p0, p1, p2, p3, p4⟩ := box_cells hN
    replace hN := hid hN
    cases b2
    · go_wp2
      go_ret
      exact ⟨ret_bool (hR2.out.trans rfl).symm, hB⟩
    go_wp2_with (go_at_call 52; refine (hI.out _).mono ?_; rintro e w' ⟨rfl, rfl⟩)
    go_ret
    exact ⟨ret_bool (hR2.out.trans rfl).symm, hB⟩
  · rw [ck] at hR
    go_wp2_with (go_at_call 52; refine (specl1In_any _ _ _ _).mono ?_; rintro e w' ⟨rfl, rfl⟩; first | rw [c1] | rw [c2] | rw [c3])
    go_ret
    exact ⟨ret_bool (hR.out.trans rfl).symm, hB⟩
end Go.Proofs.YtkelhmgdajiocaaGreatDoor
/- Walks and lemmas of this seat (FKidOk): what each theorem says of the functions that it names. Conditions: those that each theorem states. -/
namespace Go.Proofs.YtkelhmgdajiocaaGreatDoor
set_option linter.unusedVariables false
set_option linter.unusedSimpArgs false
open Go.RowKit

/-! May a kid be of its kind: both sides. -/
theorem kind_cases (k : Int) : k = 9 ∨ k = 10 ∨ k = 15 ∨ k = 28 ∨ k = 29 ∨ k = 31 ∨ k = 30 ∨ k = 32 ∨ k = 40 ∨ k = 41 ∨ k = 33 ∨ k = 42 ∨ k = 43 ∨ k = 44 ∨ k = 45 ∨ (¬ k = 9 ∧ ¬ k = 10 ∧ ¬ k = 15 ∧ ¬ k = 28 ∧ ¬ k = 29 ∧ ¬ k = 31 ∧ ¬ k = 30 ∧ ¬ k = 32 ∧ ¬ k = 40 ∧ ¬ k = 41 ∧ ¬ k = 33 ∧ ¬ k = 42 ∧ ¬ k = 43 ∧ ¬ k = 44 ∧ ¬ k = 45) := by omega

set_option maxRecDepth 100000 in
set_option maxHeartbeats 3200000 in
theorem implkidOk_any (k op : Int) (text other : ByteArray) (ka : Option Addr) (kn kc : Nat) (j kid : Int) (w : World) (hn : kn ≤ 1048576) (hj : 0 ≤ j) :
    Calls Tryz.prog 119 #[.agg #[.int .i64 k, .int .i64 op, .string text, .string other, .slice ka kn kc], .int .i64 j, .int .i64 kid] w fun e w' => e = .returned (.bool (kidOkB k op kn j kid)) ∧ Below w.heap.size w w' := by
  have hL := hid (implIsLvalue_any kid)
  have hX := hid (implIsExpr_any kid)
  have hS := hid (implIsStmt_any kid)
  have hI := hid (implisItem_any kid)
  obtain ⟨ans, hans⟩ : ∃ b, b = kidOkB k op kn j kid := ⟨_, rfl⟩
  rw [← hans]
  unfold kidOkB at hans
  generalize isLvalueB kid = bL at hL hans
  generalize isExprB kid = bX at hX hans
  generalize isStmtB kid = bS at hS hans
  generalize isItemB kid = bI at hI hans
  replace hans := hid hans
  rcases kind_cases k with rfl | rfl | rfl | rfl | rfl | rfl | rfl | rfl | rfl | rfl | rfl | rfl | rfl | rfl | rfl | ⟨n0, n1, n2, n3, n4, n5, n6, n7, n8, n9, n10, n11, n12, n13, n14⟩
  all_goals go_enter Tryz.func119, Tryz.ntmps119
  all_goals go_wp2_with (first | (go_at_call 146; refine (hL.out _).mono ?_; rintro e w' ⟨rfl, rfl⟩) | (go_at_call 87; refine (hX.out _).mono ?_; rintro e w' ⟨rfl, rfl⟩) | (go_at_call 143; refine (hS.out _).mono ?_; rintro e w' ⟨rfl, rfl⟩) | (go_at_call 147; refine (hI.out _).mono ?_; rintro e w' ⟨rfl, rfl⟩))
  all_goals first | go_ret | fail
  all_goals refine ⟨ret_bool ?_, by repeat (first | exact Below.refl _ _ | refine Below.alloc ?_ (by first | omega | (simp; done) | (simp; omega)) _ | refine Below.drew ?_)⟩
  all_goals replace hans := hans.out
  all_goals clear hL hX hS hI
  all_goals rw [hans]
  all_goals clear hans
  all_goals first
    | (simp_all; done)
    | (simp_all; omega)
    | (rw [Bool.eq_iff_iff]; simp_all; omega)
end Go.Proofs.YtkelhmgdajiocaaGreatDoor
