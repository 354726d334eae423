/- Walks and lemmas of this seat (PNum): what each theorem says of the functions that it names. Conditions: those that each theorem states. -/
import Derived.Lib.ItoaNum
import Derived.Lib.AtoiAll
import Derived.Lib.Strings
import Derived.Lib.ItoaMem
import Derived.Test.YtgmciglaapnahaaGreatDoorGA
import Derived.Lib.SlBytesRow
import Derived.WalkSmall
import Derived.Test.YtgmciglaapnahaaGreatDoorShelf
import Derived.Test.YtgmciglaapnahaaGreatDoorRows
import Derived.Stop.LaidErr
import Derived.MakeChecks
namespace Go.Proofs.YtgmciglaapnahaaGreatDoor
set_option linter.unusedVariables false
set_option linter.unusedSimpArgs false
open Go.Lib

/-! Decimal numerals: the plain law of ReadDec. -/
theorem nD_of_lt {u k : Nat} (hk : 1 ≤ k) (h : u < 10 ^ k) : nDigits u ≤ k := by
  induction k generalizing u with
  | zero => omega
  | succ k ih =>
    by_cases hu : u < 10
    · rw [nDigits_small hu]; omega
    · rw [nDigits_big hu]
      have hk1 : 1 ≤ k := by
        rcases Nat.eq_zero_or_pos k with rfl | hk0
        · simp at h; omega
        · exact hk0
      have := ih (u := u / 10) hk1 (by rw [Nat.pow_succ] at h; omega)
      omega

end Go.Proofs.YtgmciglaapnahaaGreatDoor
/- Walks and lemmas of this seat (FDec): what each theorem says of the functions that it names. Conditions: those that each theorem states. -/
namespace Go.Proofs.YtgmciglaapnahaaGreatDoor
set_option linter.unusedVariables false
set_option linter.unusedSimpArgs false
open Go.RowKit Go.Lib

/-- The digits of a number, none at 0. -/
def dec0 (u : Nat) : List UInt8 := if u = 0 then [] else decDigits u
theorem dec0_step {u : Nat} (h : u ≠ 0) : dec0 u = dec0 (u / 10) ++ [UInt8.ofNat (48 + u % 10)] := by
  unfold dec0
  rw [if_neg h]
  by_cases h10 : u < 10
  · rw [if_pos (by omega), decDigits, dif_pos h10, show u % 10 = u by omega]; rfl
  · rw [if_neg (by omega), decDigits, dif_neg h10]
theorem dec0_len {u : Nat} (h : u < 1000000000000) : (dec0 u).length ≤ 12 := by
  unfold dec0
  split
  · simp
  · rw [decDigits_length]; exact nD_of_lt (by omega) (by omega)
theorem run_conv_one (w : World) (x : Int) (hx : 0 ≤ x ∧ x < 256) (N : Nat) (cap : Nat) (hc : w.cell? ⟨N, 0, none⟩ = some (.int .u8 x)) : (convert 22 9 (.slice (some ⟨N, 0, none⟩) 1 cap)).run Tryz.prog w = Result.ok (.string ⟨#[UInt8.ofNat x.toNat]⟩) w := by
  have hl : (1 : Nat) = (⟨#[UInt8.ofNat x.toNat]⟩ : ByteArray).size := rfl
  rw [hl]
  refine Lib.run_convert_whole w _ _ _ Tryz.underlying22 Tryz.underlying5 Tryz.underlying9 N 0 ⟨#[UInt8.ofNat x.toNat]⟩ (fun i hi => ?_) cap
  have hi' : i < 1 := hi
  obtain rfl : i = 0 := by omega
  rw [Nat.zero_add, hc]
  have e : (⟨#[UInt8.ofNat x.toNat]⟩ : ByteArray)[0] = UInt8.ofNat x.toNat := rfl
  rw [e, UInt8.toNat_ofNat']
  congr 2
  omega

theorem run_conv_lit (w : World) (k : Nat) (hk : k < 256) : (convert 22 9 (.slice (some ⟨w.heap.size, 0, none⟩) 1 1)).run Tryz.prog (w.alloc (.cells #[.int .u8 (k : Int)] 5)) = Result.ok (.string ⟨#[UInt8.ofNat k]⟩) (w.alloc (.cells #[.int .u8 (k : Int)] 5)) := by
  have h := run_conv_one (w.alloc (.cells #[.int .u8 (k : Int)] 5)) (k : Int) (by omega) w.heap.size 1 (by rw [World.cell?_alloc_at _ _ _ _ rfl]; rfl)
  rw [h]; rfl
theorem tmod_neg {m : Int} (h : m < 0) : m.tmod 10 = -((m.natAbs % 10 : Nat) : Int) := by
  obtain ⟨u, rfl⟩ : ∃ u : Nat, m = -(u : Int) := ⟨m.natAbs, by omega⟩
  rw [Int.neg_tmod, show ((u : Int).tmod 10) = ((u % 10 : Nat) : Int) from rfl]; congr 2; omega
theorem tmod_pos {m : Int} (h : 0 ≤ m) : m.tmod 10 = ((m.natAbs % 10 : Nat) : Int) := by
  obtain ⟨u, rfl⟩ : ∃ u : Nat, m = (u : Int) := ⟨m.natAbs, by omega⟩
  rfl
theorem tdiv_neg {m : Int} (h : m < 0) : m.tdiv 10 = -((m.natAbs / 10 : Nat) : Int) := by
  obtain ⟨u, rfl⟩ : ∃ u : Nat, m = -(u : Int) := ⟨m.natAbs, by omega⟩
  rw [Int.neg_tdiv, show ((u : Int).tdiv 10) = ((u / 10 : Nat) : Int) from rfl]; congr 2; omega
theorem tdiv_pos {m : Int} (h : 0 ≤ m) : m.tdiv 10 = ((m.natAbs / 10 : Nat) : Int) := by
  obtain ⟨u, rfl⟩ : ∃ u : Nat, m = (u : Int) := ⟨m.natAbs, by omega⟩
  rfl
theorem byte_of_neg {m : Int} (h : m < 0) : wrap64 (48 + wrap64 (-m.tmod 10)) % 256 = ((48 + m.natAbs % 10 : Nat) : Int) := by
  rw [tmod_neg h]; unfold wrap64; omega
theorem byte_of_pos {m : Int} (h : ¬ m.tmod 10 < 0) : wrap64 (48 + m.tmod 10) % 256 = ((48 + m.natAbs % 10 : Nat) : Int) := by
  rcases Int.lt_or_le m 0 with hm | hm
  · rw [tmod_neg hm] at h ⊢; unfold wrap64; omega
  · rw [tmod_pos hm]; unfold wrap64; omega

set_option maxRecDepth 100000 in
set_option maxHeartbeats 1600000 in
theorem specDec_any (n : Int) (w : World) (h0 : -999999999999 ≤ n) (h1 : n ≤ 999999999999) : Calls Tryz.prog 95 #[.int .i64 n] w fun e w' => e = .returned (.string ⟨(itoa n).toArray⟩) ∧ Below w.heap.size w w' := by
  by_cases hz : n = 0
  · subst hz
    go_enter Tryz.func95, Tryz.ntmps95
    go_wp2
    go_ret
    exact ⟨ret_string (by rw [show itoa 0 = [48] from by decide +kernel]), by repeat (first | exact Below.refl _ _ | refine Below.alloc ?_ (by first | omega | (simp; done) | (simp; omega)) _ | refine Below.drew ?_)⟩
  have hL := dec0_len (u := n.natAbs) (by omega)
  go_enter Tryz.func95, Tryz.ntmps95
  have hn0 : (n == 0) = false := by simpa using hz
  go_wp2
  go_loopw [3, 0] (fun v i wr => ∃ (m : Int) (acc : List UInt8), i = .int .i64 m ∧ v = .string ⟨acc.toArray⟩ ∧ (0 ≤ n → 0 ≤ m) ∧ (n ≤ 0 → m ≤ 0) ∧ m.natAbs ≤ n.natAbs ∧ Below w.heap.size w wr ∧ Hid (dec0 n.natAbs = dec0 m.natAbs ++ acc)) (fun _ i _ => (RowKit.intOf i).natAbs)
  case atStart => exact ⟨n, [], rfl, rfl, by omega, by omega, by omega, by repeat (first | exact Below.refl _ _ | refine Below.alloc ?_ (by first | omega | (simp; done) | (simp; omega)) _ | refine Below.drew ?_), hid (by simp)⟩
  obtain ⟨m, acc, rfl, rfl, hm0, hm1, hm2, hb, hrel⟩ := hrel
  have hal : acc.length ≤ 12 := by have := congrArg List.length hrel.out; rw [List.length_append] at this; omega
  have has : (⟨acc.toArray⟩ : ByteArray).size ≤ 12 := hal
  have hbs := hb.size
  by_cases hm : m = 0
  · subst hm
    have hR : Hid (acc = decDigits n.natAbs) := hid (by have := hrel.out; unfold dec0 at this; rw [if_neg (by omega), show Int.natAbs 0 = 0 from rfl, if_pos rfl] at this; simpa using this.symm)
    by_cases hn : n < 0
    · go_wp2_with fail
      go_ret
      exact ⟨ret_string (by rw [hR.out]; unfold itoa; rw [if_pos hn]; apply ByteArray.ext; simp), by repeat (first | exact hb | refine Below.alloc ?_ (by first | omega | (simp; done) | (simp; omega)) _ | refine Below.drew ?_)⟩
    · go_wp2_with fail
      go_ret
      exact ⟨ret_string (by rw [hR.out]; unfold itoa; rw [if_neg (by omega)]; congr 3; omega), by repeat (first | exact hb | refine Below.alloc ?_ (by first | omega | (simp; done) | (simp; omega)) _ | refine Below.drew ?_)⟩
  · have hst := hid (dec0_step (u := m.natAbs) (by omega))
    have hx1 : ∀ a : List UInt8, (⟨#[48 + UInt8.ofNat (m.natAbs % 10)]⟩ : ByteArray) ++ ⟨a.toArray⟩ = ⟨(UInt8.ofNat (48 + m.natAbs % 10) :: a).toArray⟩ := fun a => by apply ByteArray.ext; simp
    have hbx := hb.alloc hbs (.cells #[.int .u8 ((48 + m.natAbs % 10 : Nat) : Int)] 5)
    by_cases hs : m < 0
    · have htd := tdiv_neg hs
      go_wp2_with (first | rw [byte_of_neg hs, run_conv_lit _ _ (by omega)] | rw [byte_of_pos (by first | assumption | omega), run_conv_lit _ _ (by omega)])
      all_goals (go_roundw)
      all_goals first
        | (simp only [RowKit.intOf]; omega)
        | (simp [RowKit.intOf]; omega)
        | exact ⟨m.tdiv 10, UInt8.ofNat (48 + m.natAbs % 10) :: acc, by rw [htd]; first | rfl | (congr 1 <;> omega), by simp, by rw [htd]; omega, by rw [htd]; omega, by rw [htd]; omega, hbx, hid (by rw [hrel.out, hst.out, show (m.tdiv 10).natAbs = m.natAbs / 10 by rw [htd]; omega]; simp)⟩
    · have htd := tdiv_pos (m := m) (by omega)
      go_wp2_with (rw [show 48 + m % 10 = ((48 + m.natAbs % 10 : Nat) : Int) by omega, run_conv_lit _ _ (by omega)])
      all_goals (go_roundw)
      all_goals first
        | (simp only [RowKit.intOf]; omega)
        | (simp [RowKit.intOf]; omega)
        | exact ⟨m.tdiv 10, UInt8.ofNat (48 + m.natAbs % 10) :: acc, by rw [htd]; first | rfl | (congr 1 <;> omega), by simp, by rw [htd]; omega, by rw [htd]; omega, by rw [htd]; omega, hbx, hid (by rw [hrel.out, hst.out, show (m.tdiv 10).natAbs = m.natAbs / 10 by rw [htd]; omega]; simp)⟩
end Go.Proofs.YtgmciglaapnahaaGreatDoor
/- Walks and lemmas of this seat (FReadDec): what each theorem says of the functions that it names. Conditions: those that each theorem states. -/
namespace Go.Proofs.YtgmciglaapnahaaGreatDoor
set_option linter.unusedVariables false
set_option linter.unusedSimpArgs false
open Go.RowKit Go.Lib

end Go.Proofs.YtgmciglaapnahaaGreatDoor
/- Walks and lemmas of this seat (FNumeral): what each theorem says of the functions that it names. Conditions: those that each theorem states. -/
namespace Go.Proofs.YtgmciglaapnahaaGreatDoor
set_option linter.unusedVariables false
set_option linter.unusedSimpArgs false
open Go.RowKit Go.Lib

theorem cell_small {w : World} {a : Addr} {v : Value} (h : w.cell? a = some v) : a.block < w.heap.size := World.block_lt_of_cell? w _ h
/-- The library's table of powers of ten. -/
def PowEnv (w : World) : Prop := TabIs Tryz.prog w "internal/strconv.uint64pow10" .u64 pow10Tab
/-- And its two errors. -/
def NumEnv (w : World) : Prop := PowEnv w ∧ (∃ v, w.cell? ⟨2, 0, none⟩ = some v ∧ (v = .nilIface ∨ ∃ te pe, v = .iface te pe)) ∧ ∃ v, w.cell? ⟨3, 0, none⟩ = some v ∧ (v = .nilIface ∨ ∃ te pe, v = .iface te pe)
theorem gPow : Tryz.prog.globalNamed "internal/strconv.uint64pow10" = some 4 := by kernel_rfl
theorem PowEnv.below {w w' : World} (h : PowEnv w) (hb : Below w.heap.size w w') : PowEnv w' := by
  unfold PowEnv TabIs at h ⊢
  have hlt : 4 < w.heap.size := cell_small (TabIs.cell h gPow 0 (by decide))
  unfold World.var? at h ⊢
  rw [gPow] at h ⊢
  simp only [Option.bind_eq_bind, Option.bind_some] at h ⊢
  rw [hb.block _ hlt]
  exact h
theorem NumEnv.below {w w' : World} (h : NumEnv w) (hb : Below w.heap.size w w') : NumEnv w' := by
  obtain ⟨h1, ⟨v, h2, h3⟩, ⟨u, h4, h5⟩⟩ := h
  exact ⟨h1.below hb, ⟨v, (hb.cell (cell_small h2)).trans h2, h3⟩, ⟨u, (hb.cell (cell_small h4)).trans h4, h5⟩⟩

theorem grow_draw_below (w : World) (k : Nat) (os : Array Obj) : Below w.heap.size w (Sort.grow (w.drewN k) os) := by
  refine ⟨rfl, rfl, rfl, ?_, fun i hi => ?_⟩
  · show w.heap.size ≤ ((w.drewN k).heap ++ os).size
    rw [Array.size_append]; exact Nat.le_add_right _ _
  · show ((w.drewN k).heap ++ os)[i]? = _
    have : i < (w.drewN k).heap.size := hi
    rw [Array.getElem?_append_left this]; rfl
set_option maxRecDepth 100000 in
theorem implDec_any (n : Int) (w : World) (h0 : -9223372036854775808 ≤ n) (h1 : n ≤ 9223372036854775807) (hE : PowEnv w) : Calls Tryz.prog 62 #[.int .i64 n] w fun e w' => e = .returned (.string ⟨(itoa n).toArray⟩) ∧ Below w.heap.size w w' := by
  go_enter Tryz.func62, Tryz.ntmps62
  go_wp2_with (go_at_call 154; refine (Tryz.strconv_Itoa n h0 h1 _ hE).mono ?_; rintro e w' ⟨rfl, k, os, rfl⟩)
  go_ret
  exact ⟨rfl, grow_draw_below _ _ _⟩

end Go.Proofs.YtgmciglaapnahaaGreatDoor
/- Walks and lemmas of this seat (FNumLaid): what each theorem says of the functions that it names. Conditions: those that each theorem states. -/
namespace Go.Proofs.YtgmciglaapnahaaGreatDoor
set_option linter.unusedVariables false
set_option linter.unusedSimpArgs false
open Go.RowKit Go.Lib

/-! What the listed variables of a card give a walk. -/
theorem gPowType : (Tryz.prog.globals[4]?).map (·.type) = some 244 := by kernel_rfl
theorem powEnv_of {W : World} {r : List (String × DataW Unit)} (h : laidMet Tryz.prog (("internal/strconv.uint64pow10", Rows.laid_internal_strconv_uint64pow10) :: r) W) : PowEnv W :=
  tabIs_of_head (k := .u64) (zs := pow10Tab) gPow gPowType Tryz.underlying244 Tryz.underlying210 (by kernel_rfl) (by kernel_rfl) h
end Go.Proofs.YtgmciglaapnahaaGreatDoor
