/- Walks and lemmas of this seat (HByte): what each theorem says of the functions that it names. Conditions: those that each theorem states. -/
import Derived.Test.YtkelhmgdajiocaaGreatDoorGA
namespace Go.Proofs.YtkelhmgdajiocaaGreatDoor
set_option linter.unusedVariables false
set_option linter.unusedSimpArgs false
open Go.RowKit
section
open Go.ChangeShapes Go.WideShapes Go.ChangeAt
theorem decByte {H : Type} {enc : TypeId × Value → H} {w : World} {spare : Nat → Bool} (cs : List Value) (n : Nat) (y : DataW H × List MemPlace) (h : DataW.trod enc Tryz.prog w 0 spare true n 5 cs = some y) : ∃ x : UInt8, cs = byte1 x ∧ True := by
  obtain ⟨s, rfl, _, hs⟩ := DataW.trod_int Tryz.underlying5 h
  have hr : 0 ≤ s ∧ s < 256 := by simp [Lit.wf, IntKind.min, IntKind.max, IntKind.signed, IntKind.bits] at hs; omega
  refine ⟨UInt8.ofNat s.toNat, ?_, trivial⟩
  unfold byte1
  rw [UInt8.toNat_ofNat']
  congr 2
  omega
end
theorem lawsbig_any (v : Value) (bs : List UInt8) (w : World) (hc : Slc w v 1 bs.length (bs.flatMap byte1)) :
    Calls Tryz.prog 20 #[v] w fun e w' => e = .returned (.bool (decide (1048576 < bs.length))) ∧ w' = w := by
  obtain ⟨_, a, cap, rfl, hcap, hm, hrow⟩ := hc
  unfold maxLen at hm
  go_enter Tryz.func20, Tryz.ntmps20
  go_wp2
  go_ret
  exact ⟨ret_bool (by simp; omega), rfl⟩
end Go.Proofs.YtkelhmgdajiocaaGreatDoor
/- Walks and lemmas of this seat (FAt): what each theorem says of the functions that it names. Conditions: those that each theorem states. -/
namespace Go.Proofs.YtkelhmgdajiocaaGreatDoor
set_option linter.unusedVariables false
set_option linter.unusedSimpArgs false
open Go.RowKit

/-- What laws.at hands back. -/
def atI (bs : List UInt8) (i : Int) : Int := if i < bs.length then ((bs.getD i.toNat 0).toNat : Int) else (i * 37 + bs.length * 11) % 256
theorem atI_bd (bs : List UInt8) (i : Int) : 0 ≤ atI bs i ∧ atI bs i < 256 := by
  unfold atI
  split
  · have := (bs.getD i.toNat 0).toNat_lt; omega
  · exact ⟨Int.emod_nonneg _ (by omega), Int.emod_lt_of_pos _ (by omega)⟩
/-- laws.at: a byte of the code, or one that follows from it. -/
theorem lawsat_eq (v : Value) (bs : List UInt8) (i : Int) (hi : 0 ≤ i ∧ i ≤ 1000) (w : World) (hc : Slc w v 1 bs.length (bs.flatMap byte1)) (hs : bs.length ≤ 1048576) :
    Calls Tryz.prog 22 #[v, .int .i64 i] w fun e w' => e = .returned (.int .i64 (atI bs i)) ∧ w' = w := by
  obtain ⟨_, a, cap, rfl, hcap, hm, hrow⟩ := hc
  unfold maxLen at hm
  by_cases hlt : i < (bs.length : Int)
  · obtain ⟨k, rfl⟩ : ∃ k : Nat, i = (k : Int) := ⟨i.toNat, by omega⟩
    obtain ⟨b, off, rfl, hro⟩ := slc_some hrow (by omega)
    obtain ⟨y, hy⟩ := get_of_lt (l := bs) (k := k) (by omega)
    have e0 := hro.one byte1_len hy rfl
    have hyl := y.toNat_lt
    have hat : Hid (atI bs (k : Int) = (y.toNat : Int)) := hid (by unfold atI; rw [if_pos hlt, Int.toNat_natCast, List.getD_eq_getElem?_getD, hy]; rfl)
    clear hro hrow hy
    go_enter Tryz.func22, Tryz.ntmps22
    go_wp2
    go_ret
    exact ⟨by rw [hat.out]; rfl, rfl⟩
  · clear hrow
    have hat : Hid (atI bs i = (i * 37 + bs.length * 11) % 256) := hid (by unfold atI; rw [if_neg hlt])
    go_enter Tryz.func22, Tryz.ntmps22
    go_wp2
    go_ret
    exact ⟨by rw [hat.out]; rfl, rfl⟩
theorem lawsat_any (v : Value) (bs : List UInt8) (i : Int) (hi : 0 ≤ i ∧ i ≤ 1000) (w : World) (hc : Slc w v 1 bs.length (bs.flatMap byte1)) (hs : bs.length ≤ 1048576) :
    Calls Tryz.prog 22 #[v, .int .i64 i] w fun e w' => ∃ x : Int, 0 ≤ x ∧ x < 256 ∧ e = .returned (.int .i64 x) ∧ w' = w :=
  (lawsat_eq v bs i hi w hc hs).mono fun e w' h => ⟨_, (atI_bd bs i).1, (atI_bd bs i).2, h.1, h.2⟩
end Go.Proofs.YtkelhmgdajiocaaGreatDoor
