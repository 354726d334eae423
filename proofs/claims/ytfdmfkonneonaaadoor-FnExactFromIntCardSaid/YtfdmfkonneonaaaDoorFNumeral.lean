/- Walks and lemmas of this seat (FNumeral): what each theorem says of the functions that it names. Conditions: those that each theorem states. -/
import Derived.Test.YtfdmfkonneonaaaDoorFReadDec
import Derived.Test.YtfdmfkonneonaaaDoorShelf
namespace Go.Proofs.YtfdmfkonneonaaaDoor
set_option linter.unusedVariables false
set_option linter.unusedSimpArgs false
open Go.RowKit Go.Lib

theorem cell_small {w : World} {a : Addr} {v : Value} (h : w.cell? a = some v) : a.block < w.heap.size := World.block_lt_of_cell? w _ h
/-- The library's table of powers of ten. -/
def PowEnv (w : World) : Prop := TabIs Tryd.prog w "internal/strconv.uint64pow10" .u64 pow10Tab
/-- And its two errors. -/
def NumEnv (w : World) : Prop := PowEnv w ∧ (∃ v, w.cell? ⟨0, 0, none⟩ = some v ∧ (v = .nilIface ∨ ∃ te pe, v = .iface te pe)) ∧ ∃ v, w.cell? ⟨1, 0, none⟩ = some v ∧ (v = .nilIface ∨ ∃ te pe, v = .iface te pe)
theorem gPow : Tryd.prog.globalNamed "internal/strconv.uint64pow10" = some 2 := by kernel_rfl
theorem PowEnv.below {w w' : World} (h : PowEnv w) (hb : Below w.heap.size w w') : PowEnv w' := by
  unfold PowEnv TabIs at h ⊢
  have hlt : 2 < w.heap.size := cell_small (TabIs.cell h gPow 0 (by decide))
  unfold World.var? at h ⊢
  rw [gPow] at h ⊢
  simp only [Option.bind_eq_bind, Option.bind_some] at h ⊢
  rw [hb.block _ hlt]
  exact h
theorem NumEnv.below {w w' : World} (h : NumEnv w) (hb : Below w.heap.size w w') : NumEnv w' := by
  obtain ⟨h1, ⟨v, h2, h3⟩, ⟨u, h4, h5⟩⟩ := h
  exact ⟨h1.below hb, ⟨v, (hb.cell (cell_small h2)).trans h2, h3⟩, ⟨u, (hb.cell (cell_small h4)).trans h4, h5⟩⟩

theorem grow_draw_below (w : World) (k : Nat) (os : Array Obj) : Below w.heap.size w (Sort.grow (w.drewN k) os) := by
  refine ⟨rfl, rfl, rfl, ?_, fun i hi => ?_⟩
  · show w.heap.size ≤ ((w.drewN k).heap ++ os).size
    rw [Array.size_append]; exact Nat.le_add_right _ _
  · show ((w.drewN k).heap ++ os)[i]? = _
    have : i < (w.drewN k).heap.size := hi
    rw [Array.getElem?_append_left this]; rfl
theorem atoi_range {s : List UInt8} {v : Int} (h : atoiAll s = .ok v) : -9223372036854775808 ≤ v ∧ v ≤ 9223372036854775807 := by
  unfold atoiAll at h
  split at h
  · cases h
  · simp only at h
    split at h
    · cases h
    · cases h
    · split at h
      · cases h
      · split at h
        · cases h
        · have := NumEnd.ok.inj h
          split at this <;> omega

set_option maxRecDepth 100000 in
theorem implDec_any (n : Int) (w : World) (h0 : -9223372036854775808 ≤ n) (h1 : n ≤ 9223372036854775807) (hE : PowEnv w) : Calls Tryd.prog 25 #[.int .i64 n] w fun e w' => e = .returned (.string ⟨(itoa n).toArray⟩) ∧ Below w.heap.size w w' := by
  go_enter Tryd.func25, Tryd.ntmps25
  go_wp2_with (go_at_call 30; refine (Tryd.strconv_Itoa n h0 h1 _ hE).mono ?_; rintro e w' ⟨rfl, k, os, rfl⟩)
  go_ret
  exact ⟨rfl, grow_draw_below _ _ _⟩

theorem readEnd_no {s : ByteArray} (h : rdOk s.data.toList = false) : Ending.returned (.tuple #[.int .i64 0, .bool false]) = readEnd s := by unfold readEnd; rw [h]; rfl
theorem readEnd_ok {s : ByteArray} {v : Int} (h : rdOk s.data.toList = true) (hv : rdVal s.data.toList = v) : Ending.returned (.tuple #[.int .i64 v, .bool true]) = readEnd s := by unfold readEnd; rw [h, hv]; rfl

set_option maxRecDepth 100000 in
theorem implReadDec_any (s : ByteArray) (w : World) (hs : s.size ≤ 1048576) (hE : NumEnv w) : Calls Tryd.prog 22 #[.string s] w fun e w' => e = readEnd s ∧ Below w.heap.size w w' := by
  cases h : atoiAll s.data.toList with
  | ok v =>
    have hr := atoi_range h
    have hok := hid (rd_ok h)
    have hval := hid (fun hr => rd_val h hr)
    go_enter Tryd.func22, Tryd.ntmps22
    go_wp2_with (go_at_call 28; refine (Tryd.strconv_Atoi_ok s (by omega) v h _).mono ?_; rintro e w' ⟨rfl, hw⟩)
    have hb1 : Below w.heap.size w w' := by
      rcases hw with rfl | ⟨t, rfl⟩
      · exact Below.refl _ _
      · exact bytesWorld_below _ _ _
    clear hw h
    refine (implDec_any v w' hr.1 hr.2 (hE.1.below hb1)).mono ?_; rintro e w2 ⟨rfl, hb2⟩
    have hb3 := hb1.trans (hb2.mono hb1.size)
    clear hb1 hb2 hE
    have hsl : s.toList = s.data.toList := ByteArray.toList_eq s
    by_cases he : itoa v = s.toList
    · have hbe : (itoa v == s.toList) = true := by simpa using he
      rw [hsl] at he
      replace he := hid he
      go_wp2_with (go_at_call 29; refine (Tryd.strings_TrimPrefix _ _ _).mono ?_; rintro e w3 ⟨rfl, rfl⟩)
      all_goals go_ret2
      all_goals refine ⟨?_, hb3⟩
      all_goals first
        | (refine readEnd_no ?_
           cases hr2 : rdOk s.data.toList with
           | false => rfl
           | true => exfalso; have := (hok.out.2 hr2).2; omega)
        | (have hr2 := hok.out.1 ⟨he.out, by omega⟩
           exact readEnd_ok hr2 (hval.out hr2))
    · have hbe : (itoa v == s.toList) = false := by simpa using he
      rw [hsl] at he
      replace he := hid he
      go_wp2_with fail
      all_goals go_ret2
      all_goals refine ⟨?_, hb3⟩
      all_goals
        refine readEnd_no ?_
        cases hr2 : rdOk s.data.toList with
        | false => rfl
        | true => exact absurd (hok.out.2 hr2).1 he.out
  | «syntax» =>
    have hno := rd_no (s := s.data.toList) (fun v e => by rw [h] at e; cases e)
    obtain ⟨ev, hv, he⟩ := hE.2.1
    go_enter Tryd.func22, Tryd.ntmps22
    go_wp2_with (go_at_call 28; refine (Tryd.strconv_Atoi_syntax s (by omega) h ev _ hv he).mono ?_; rintro e w' ⟨N, rfl, -, -, hb⟩)
    go_ret2
    exact ⟨readEnd_no hno, hb⟩
  | range =>
    have hno := rd_no (s := s.data.toList) (fun v e => by rw [h] at e; cases e)
    obtain ⟨ev, hv, he⟩ := hE.2.2
    go_enter Tryd.func22, Tryd.ntmps22
    go_wp2_with (go_at_call 28; refine (Tryd.strconv_Atoi_range s (by omega) h ev _ hv he).mono ?_; rintro e w' ⟨N, rfl, -, -, hb⟩)
    go_ret2
    exact ⟨readEnd_no hno, hb⟩

/-- The answer of Numeral. -/
def numeralEnd (s : ByteArray) : Ending := .returned (.tuple #[.int .i64 (if rdOk s.data.toList && decide (0 ≤ rdVal s.data.toList) then rdVal s.data.toList else 0), .bool (rdOk s.data.toList && decide (0 ≤ rdVal s.data.toList))])

set_option maxRecDepth 100000 in
theorem implNumeral_any (s : ByteArray) (w : World) (hs : s.size ≤ 1048576) (hE : NumEnv w) : Calls Tryd.prog 11 #[.string s] w fun e w' => e = numeralEnd s ∧ Below w.heap.size w w' := by
  have hc := implReadDec_any s w hs hE
  unfold readEnd at hc
  cases hr : rdOk s.data.toList with
  | false =>
    have hR : Hid (numeralEnd s = .returned (.tuple #[.int .i64 0, .bool false])) := hid (by unfold numeralEnd; simp [hr])
    simp only [hr, Bool.false_eq_true, if_false] at hc
    go_enter Tryd.func11, Tryd.ntmps11
    go_wp2_with (go_at_call 22; refine hc.mono ?_; rintro e w' ⟨rfl, hb⟩)
    go_ret2
    exact ⟨hR.out.symm, hb⟩
  | true =>
    simp only [hr, if_true] at hc
    have hR : Hid (numeralEnd s = .returned (.tuple #[.int .i64 (if 0 ≤ rdVal s.data.toList then rdVal s.data.toList else 0), .bool (decide (0 ≤ rdVal s.data.toList))])) := hid (by unfold numeralEnd; simp [hr])
    generalize rdVal s.data.toList = v at hc hR
    by_cases hv : 0 ≤ v
    · have hR : Hid (numeralEnd s = .returned (.tuple #[.int .i64 v, .bool true])) := hid (by rw [hR.out]; simp [hv])
      go_enter Tryd.func11, Tryd.ntmps11
      go_wp2_with (go_at_call 22; refine hc.mono ?_; rintro e w' ⟨rfl, hb⟩)
      go_ret2
      exact ⟨hR.out.symm, hb⟩
    · have hR : Hid (numeralEnd s = .returned (.tuple #[.int .i64 0, .bool false])) := hid (by rw [hR.out]; simp [hv])
      go_enter Tryd.func11, Tryd.ntmps11
      go_wp2_with (go_at_call 22; refine hc.mono ?_; rintro e w' ⟨rfl, hb⟩)
      go_ret2
      exact ⟨hR.out.symm, hb⟩

set_option maxRecDepth 100000 in
theorem specNumeral_any (s : ByteArray) (w : World) (hs : s.size ≤ 1048576) : Calls Tryd.prog 10 #[.string s] w fun e w' => e = numeralEnd s ∧ Below w.heap.size w w' := by
  have hc := specReadDec_any s w hs
  unfold readEnd at hc
  cases hr : rdOk s.data.toList with
  | false =>
    have hR : Hid (numeralEnd s = .returned (.tuple #[.int .i64 0, .bool false])) := hid (by unfold numeralEnd; simp [hr])
    simp only [hr, Bool.false_eq_true, if_false] at hc
    go_enter Tryd.func10, Tryd.ntmps10
    go_wp2_with (go_at_call 21; refine hc.mono ?_; rintro e w' ⟨rfl, hb⟩)
    go_ret2
    exact ⟨hR.out.symm, hb⟩
  | true =>
    simp only [hr, if_true] at hc
    have hR : Hid (numeralEnd s = .returned (.tuple #[.int .i64 (if 0 ≤ rdVal s.data.toList then rdVal s.data.toList else 0), .bool (decide (0 ≤ rdVal s.data.toList))])) := hid (by unfold numeralEnd; simp [hr])
    generalize rdVal s.data.toList = v at hc hR
    by_cases hv : 0 ≤ v
    · have hR : Hid (numeralEnd s = .returned (.tuple #[.int .i64 v, .bool true])) := hid (by rw [hR.out]; simp [hv])
      go_enter Tryd.func10, Tryd.ntmps10
      go_wp2_with (go_at_call 21; refine hc.mono ?_; rintro e w' ⟨rfl, hb⟩)
      go_ret2
      exact ⟨hR.out.symm, hb⟩
    · have hR : Hid (numeralEnd s = .returned (.tuple #[.int .i64 0, .bool false])) := hid (by rw [hR.out]; simp [hv])
      go_enter Tryd.func10, Tryd.ntmps10
      go_wp2_with (go_at_call 21; refine hc.mono ?_; rintro e w' ⟨rfl, hb⟩)
      go_ret2
      exact ⟨hR.out.symm, hb⟩
end Go.Proofs.YtfdmfkonneonaaaDoor
