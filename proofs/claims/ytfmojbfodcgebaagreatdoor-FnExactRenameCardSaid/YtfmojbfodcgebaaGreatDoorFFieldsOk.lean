/- Walks and lemmas of this seat (FFieldsOk): what each theorem says of the functions that it names. Conditions: those that each theorem states. -/
import Derived.Test.YtfmojbfodcgebaaGreatDoorFFields
import Derived.Test.YtfmojbfodcgebaaGreatDoorGA
namespace Go.Proofs.YtfmojbfodcgebaaGreatDoor
set_option linter.unusedVariables false
set_option linter.unusedSimpArgs false
open Go.RowKit Go.Lib

/-! May a node be as it is: the reference's side. -/
theorem known_cases (k : Int) : (inB k 1 16 = true ∧ knownB k = true) ∨ (inB k 1 16 = false ∧ inB k 20 34 = true ∧ knownB k = true) ∨ (inB k 1 16 = false ∧ inB k 20 34 = false ∧ inB k 40 45 = true ∧ knownB k = true) ∨ (inB k 1 16 = false ∧ inB k 20 34 = false ∧ inB k 40 45 = false ∧ knownB k = false) := by
  unfold knownB
  cases inB k 1 16 <;> cases inB k 20 34 <;> cases inB k 40 45 <;> simp
set_option maxRecDepth 100000 in
set_option maxHeartbeats 3200000 in
theorem specFieldsOk_any (k op : Int) (text other : ByteArray) (ka : Option Addr) (kn kc : Nat) (w : World) (h1 : text.size ≤ 1048576) (h2 : other.size ≤ 1048576) (hop : I64 op) (hn : kn ≤ 400) : Calls Tryz.prog 110 #[.agg #[.int .i64 k, .int .i64 op, .string text, .string other, .slice ka kn kc]] w fun e w' => e = .returned (.bool (fieldsOk k op (saysOf text other) kn)) ∧ Below w.heap.size w w' := by
  have hM := hid (fun w => specl7Many_any k op text other ka kn kc w hop)
  have hO := hid (fun w => specl7Op_any k op text other ka kn kc w)
  have hT := hid (fun w => specl7Text_any k op text other ka kn kc w h1 h2)
  have hR := (fields7_eq k op kn (saysOf text other) (by omega) (by omega)).symm
  have hI := hid (fun w => specl1In_any (kn : Int) (least7 k op (other.size == 0)) (most7 k op (other.size == 0) kn) w)
  rw [show (saysOf text other).emp2 = (other.size == 0) from rfl] at hR
  generalize fieldsOk k op (saysOf text other) kn = ans at hR ⊢
  generalize opOk k op = b1 at hO hR
  generalize textsOk k (saysOf text other) = b2 at hT hR
  generalize inB (kn : Int) (least7 k op (other.size == 0)) (most7 k op (other.size == 0) kn) = b3 at hI hR
  generalize least7 k op (other.size == 0) = le at hM hI
  generalize most7 k op (other.size == 0) kn = mo at hM hI
  replace hR := hid hR
  clear h1 h2 hop hn
  go_enter Tryz.func110, Tryz.ntmps110
  go_wp2_with fail
  refine (hM.out _).mono ?_; rintro e w1 ⟨rfl, hb1⟩
  have hN := (hb1.block w.heap.size (by simp)).trans (heap_alloc_new w _)
  have hB : Below w.heap.size w w1 := ((Below.refl w.heap.size w).alloc (Nat.le_refl _) _).trans (hb1.mono (by simp))
  clear hb1 hM
  obtain ⟨p0, p1, p2, p3, p4⟩ := box_cells hN
  replace hN := hid hN
  go_wp2_with fail
  rcases known_cases k with ⟨c1, ck⟩ | ⟨c1, c2, ck⟩ | ⟨c1, c2, c3, ck⟩ | ⟨c1, c2, c3, ck⟩
  · rw [ck] at hR
    have hR2 : Hid (ans = (b1 && (b2 && b3))) := hid (by rw [hR.out, Bool.true_and])
    clear hR ck
    go_wp2_with (go_at_call 152; refine (specl1In_any _ _ _ _).mono ?_; rintro e w' ⟨rfl, rfl⟩; first | rw [c1])
    clear c1
    refine (hO.out _).mono ?_; rintro e w2 ⟨rfl, hb2⟩
    replace hN := (hb2.block w.heap.size (heap_lt hN.out)).trans hN.out
    replace hB := hB.trans (hb2.mono hB.size)
    clear hb2 hO p0 p1 p2 p3 p4
    obtain ⟨p0, p1, p2, p3, p4⟩ := box_cells hN
    replace hN := hid hN
    cases b1
    · go_wp2
      go_ret
      exact ⟨ret_bool (hR2.out.trans rfl).symm, hB⟩
    go_wp2_with fail
    refine (hT.out _).mono ?_; rintro e w3 ⟨rfl, hb3⟩
    replace hN := (hb3.block w.heap.size (heap_lt hN.out)).trans hN.out
    replace hB := hB.trans (hb3.mono hB.size)
    clear hb3 hT p0 p1 p2 p3 p4
    obtain ⟨p0, p1, p2, p3, p4⟩ := box_cells hN
    replace hN := hid hN
    cases b2
    · go_wp2
      go_ret
      exact ⟨ret_bool (hR2.out.trans rfl).symm, hB⟩
    go_wp2_with (go_at_call 152; refine (hI.out _).mono ?_; rintro e w' ⟨rfl, rfl⟩)
    go_ret
    exact ⟨ret_bool (hR2.out.trans rfl).symm, hB⟩
  · rw [ck] at hR
    have hR2 : Hid (ans = (b1 && (b2 && b3))) := hid (by rw [hR.out, Bool.true_and])
    clear hR ck
    go_wp2_with (go_at_call 152; refine (specl1In_any _ _ _ _).mono ?_; rintro e w' ⟨rfl, rfl⟩; first | rw [c1] | rw [c2])
    clear c1 c2
    refine (hO.out _).mono ?_; rintro e w2 ⟨rfl, hb2⟩
    replace hN := (hb2.block w.heap.size (heap_lt hN.out)).trans hN.out
    replace hB := hB.trans (hb2.mono hB.size)
    clear hb2 hO p0 p1 p2 p3 p4
    obtain ⟨p0, p1, p2, p3, p4⟩ := box_cells hN
    replace hN := hid hN
    cases b1
    · go_wp2
      go_ret
      exact ⟨ret_bool (hR2.out.trans rfl).symm, hB⟩
    go_wp2_with fail
    refine (hT.out _).mono ?_; rintro e w3 ⟨rfl, hb3⟩
    replace hN := (hb3.block w.heap.size (heap_lt hN.out)).trans hN.out
    replace hB := hB.trans (hb3.mono hB.size)
    clear hb3 hT p0 p1 p2 p3 p4
    obtain ⟨p0, p1, p2, p3, p4⟩ := box_cells hN
    replace hN := hid hN
    cases b2
    · go_wp2
      go_ret
      exact ⟨ret_bool (hR2.out.trans rfl).symm, hB⟩
    go_wp2_with (go_at_call 152; refine (hI.out _).mono ?_; rintro e w' ⟨rfl, rfl⟩)
    go_ret
    exact ⟨ret_bool (hR2.out.trans rfl).symm, hB⟩
  · rw [ck] at hR
    have hR2 : Hid (ans = (b1 && (b2 && b3))) := hid (by rw [hR.out, Bool.true_and])
    clear hR ck
    go_wp2_with (go_at_call 152; refine (specl1In_any _ _ _ _).mono ?_; rintro e w' ⟨rfl, rfl⟩; first | rw [c1] | rw [c2] | rw [c3])
    clear c1 c2 c3
    refine (hO.out _).mono ?_; rintro e w2 ⟨rfl, hb2⟩
    replace hN := (hb2.block w.heap.size (heap_lt hN.out)).trans hN.out
    replace hB := hB.trans (hb2.mono hB.size)
    clear hb2 hO p0 p1 p2 p3 p4
    obtain ⟨p0, p1, p2, p3, p4⟩ := box_cells hN
    replace hN := hid hN
    cases b1
    · go_wp2
      go_ret
      exact ⟨ret_bool (hR2.out.trans rfl).symm, hB⟩
    go_wp2_with fail
    refine (hT.out _).mono ?_; rintro e w3 ⟨rfl, hb3⟩
    replace hN := (hb3.block w.heap.size (heap_lt hN.out)).trans hN.out
    replace hB := hB.trans (hb3.mono hB.size)
    clear hb3 hT p0 p1 p2 p3 p4
    obtain ⟨p0, p1, p2, p3, p4⟩ := box_cells hN
    replace hN := hid hN
    cases b2
    · go_wp2
      go_ret
      exact ⟨ret_bool (hR2.out.trans rfl).symm, hB⟩
    go_wp2_with (go_at_call 152; refine (hI.out _).mono ?_; rintro e w' ⟨rfl, rfl⟩)
    go_ret
    exact ⟨ret_bool (hR2.out.trans rfl).symm, hB⟩
  · rw [ck] at hR
    go_wp2_with (go_at_call 152; refine (specl1In_any _ _ _ _).mono ?_; rintro e w' ⟨rfl, rfl⟩; first | rw [c1] | rw [c2] | rw [c3])
    go_ret
    exact ⟨ret_bool (hR.out.trans rfl).symm, hB⟩
end Go.Proofs.YtfmojbfodcgebaaGreatDoor
