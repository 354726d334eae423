/- Walks and lemmas of this seat (FNewX): what each theorem says of the functions that it names. Conditions: those that each theorem states. -/
import Derived.Test.YtmemgmcopnaogaaGreatDoorGDX
namespace Go.Proofs.YtmemgmcopnaogaaGreatDoor
set_option linter.unusedVariables false
set_option linter.unusedSimpArgs false
open Go.RowKit

/-- The seed of a cursor over a code. -/
def seedX (bs : List UInt8) : Nat → Int
  | 0 => 10101 + bs.length
  | j + 1 => bits BinOp.and IntKind.i64 (wrap64 (wrap64 (wrap64 (seedX bs j * 131) + wrap64 (bs.getD j 0).toNat) + 7)) 1073741823
def startX (bs : List UInt8) : DS := ⟨hOf (seedX bs (min bs.length 4000)), 0⟩
theorem seedX_step {bs : List UInt8} {j : Nat} {y : UInt8} (h : bs[j]? = some y) : seedX bs (j + 1) = bits BinOp.and IntKind.i64 (wrap64 (wrap64 (wrap64 (seedX bs j * 131) + wrap64 y.toNat) + 7)) 1073741823 := by
  rw [seedX, List.getD_eq_getElem?_getD, h]; rfl
set_option maxRecDepth 100000 in
set_option maxHeartbeats 1600000 in
/-- A cursor over a code, exactly. -/
theorem specl1NewX (w : World) (bv : Value) (bs : List UInt8) (hc : Slc w bv 1 bs.length (bs.flatMap byte1)) (hs : bs.length ≤ 1048576) :
    Calls Tryz.prog 46 #[bv] w fun e w' => ∃ p, e = .returned (.pointer (some ⟨p, 0, none⟩)) ∧ Below w.heap.size w w' ∧ CurX w w' p bv bs (startX bs) := by
  have hcode := hid hc
  obtain ⟨_, a, cap, rfl, hcap, hm, hrow⟩ := hc
  unfold maxLen at hm
  have h0 : seedX bs 0 = 10101 + bs.length := rfl
  have hst := hid (fun j y (h : bs[j]? = some y) => seedX_step h)
  have hX := hid (show startX bs = ⟨hOf (seedX bs (min bs.length 4000)), 0⟩ from rfl)
  generalize startX bs = X at hX ⊢
  generalize seedX bs = S at *
  go_enter Tryz.func46, Tryz.ntmps46
  go_wp2
  go_loop [3, 4] (fun hv i => ∃ (j : Nat), i = .int .i64 j ∧ hv = .int .i64 (S j) ∧ j ≤ bs.length ∧ j ≤ 4000) (fun _ i => bs.length - (intOf i).toNat)
  case atStart => exact ⟨0, rfl, by rw [h0], by omega, by omega⟩
  obtain ⟨j, rfl, rfl, hj, hj4⟩ := hrel
  clear h0
  by_cases hlt : j < bs.length
  · obtain ⟨b, off, rfl, hro⟩ := slc_some hrow (by omega)
    obtain ⟨y, hy⟩ := get_of_lt hlt
    have e0 := hro.one byte1_len hy rfl
    by_cases h4 : j < 4000
    · have hn := hid (hst.out j y hy)
      clear hrow hro hy hX
      go_wp2_with fail
      go_round
      case rel => exact ⟨j + 1, by go_num, by rw [hn.out], by omega, by omega⟩
      case measure => simp [intOf]; omega
    · have hmin : min bs.length 4000 = j := by omega
      rw [hmin] at hX
      clear hrow hro hy hmin
      go_wp2_with fail
      go_ret
      exact ⟨w.heap.size, rfl, by repeat (first | exact Below.refl _ _ | refine Below.alloc ?_ (by first | omega | (simp; done) | (simp; omega)) _ | refine Below.drew ?_), ⟨hcode.out, hs, Nat.le_refl _, by repeat (first | exact Below.refl _ _ | refine Below.alloc ?_ (by first | omega | (simp; done) | (simp; omega)) _ | refine Below.drew ?_), by rw [hX.out]; exact Nat.zero_le _, ⟨S j, by rw [hX.out], by rw [heap_alloc_new, hX.out]; rfl⟩⟩⟩
  · have hmin : min bs.length 4000 = j := by omega
    rw [hmin] at hX
    clear hrow hmin
    go_wp2_with fail
    go_ret
    exact ⟨w.heap.size, rfl, by repeat (first | exact Below.refl _ _ | refine Below.alloc ?_ (by first | omega | (simp; done) | (simp; omega)) _ | refine Below.drew ?_), ⟨hcode.out, hs, Nat.le_refl _, by repeat (first | exact Below.refl _ _ | refine Below.alloc ?_ (by first | omega | (simp; done) | (simp; omega)) _ | refine Below.drew ?_), by rw [hX.out]; exact Nat.zero_le _, ⟨S j, by rw [hX.out], by rw [heap_alloc_new, hX.out]; rfl⟩⟩⟩
end Go.Proofs.YtmemgmcopnaogaaGreatDoor
