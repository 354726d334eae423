/- Walks and lemmas of this seat (FCur2): what each theorem says of the functions that it names. Conditions: those that each theorem states. -/
import Derived.Test.YtdnjjgidlpmgjaaFCur
import Derived.Test.YtdnjjgidlpmgjaaHString
import Derived.WalkSmall
namespace Go.Proofs.Ytdnjjgidlpmgjaa
set_option linter.unusedVariables false
set_option linter.unusedSimpArgs false
open Go.RowKit

set_option maxRecDepth 100000 in
set_option maxHeartbeats 1600000 in
/-- A cursor over a code: a new block. -/
theorem specl1New_any (w : World) (bv : Value) (bs : List UInt8) (hc : Slc w bv 1 bs.length (bs.flatMap byte1)) (hs : bs.length ≤ 1048576) :
    Calls Try.prog 68 #[bv] w fun e w' => ∃ p, e = .returned (.pointer (some ⟨p, 0, none⟩)) ∧ Below w.heap.size w w' ∧ Cur w w' p bv bs := by
  have hcode := hid hc
  obtain ⟨_, a, cap, rfl, hcap, hm, hrow⟩ := hc
  unfold maxLen at hm
  go_enter Try.func68, Try.ntmps68
  go_wp2
  go_loop [3, 4] (fun hv i => ∃ (j : Nat) (h : Int), i = .int .i64 j ∧ hv = .int .i64 h ∧ j ≤ bs.length) (fun _ i => bs.length - (intOf i).toNat)
  case atStart => exact ⟨0, _, rfl, rfl, by omega⟩
  obtain ⟨j, h, rfl, rfl, hj⟩ := hrel
  by_cases hlt : j < bs.length
  · obtain ⟨b, off, rfl, hro⟩ := slc_some hrow (by omega)
    obtain ⟨y, hy⟩ := get_of_lt hlt
    have e0 := hro.one byte1_len hy rfl
    clear hrow hro hy
    by_cases h4 : j < 4000
    · go_wp2_with fail
      go_round
      case rel => exact ⟨j + 1, _, by go_num, rfl, by omega⟩
      case measure => simp [intOf]; omega
    · go_wp2_with fail
      go_ret
      exact ⟨w.heap.size, rfl, by repeat (first | exact Below.refl _ _ | refine Below.alloc ?_ (by first | omega | (simp; done) | (simp; omega)) _ | refine Below.drew ?_), ⟨hcode.out, hs, Nat.le_refl _, by repeat (first | exact Below.refl _ _ | refine Below.alloc ?_ (by first | omega | (simp; done) | (simp; omega)) _ | refine Below.drew ?_), 0, h, by omega, by rw [heap_alloc_new]; rfl⟩⟩
  · go_wp2_with fail
    go_ret
    exact ⟨w.heap.size, rfl, by repeat (first | exact Below.refl _ _ | refine Below.alloc ?_ (by first | omega | (simp; done) | (simp; omega)) _ | refine Below.drew ?_), ⟨hcode.out, hs, Nat.le_refl _, by repeat (first | exact Below.refl _ _ | refine Below.alloc ?_ (by first | omega | (simp; done) | (simp; omega)) _ | refine Below.drew ?_), 0, h, by omega, by rw [heap_alloc_new]; rfl⟩⟩

set_option maxRecDepth 100000 in
set_option maxHeartbeats 1600000 in
theorem specl1Below_any (w0 w : World) (p : Nat) (bv : Value) (bs : List UInt8) (n : Int) (hn : I64 n) (hc : Cur w0 w p bv bs) :
    Calls Try.prog 70 #[.pointer (some ⟨p, 0, none⟩), .int .i64 n] w fun e w' => ∃ x : Int, e = .returned (.int .i64 x) ∧ 0 ≤ x ∧ (0 < n → x < n) ∧ (n ≤ 0 → x = 0) ∧ w.grownBy w' (some p) ∧ Cur w0 w' p bv bs := by
  unfold I64 at hn
  by_cases h0 : n ≤ 0
  · go_enter Try.func70, Try.ntmps70
    go_wp2
    go_ret
    exact ⟨0, rfl, by omega, by omega, fun _ => rfl, ⟨rfl, rfl, rfl, Nat.le_refl _, fun _ _ _ => rfl⟩, hc⟩
  by_cases h1 : n ≤ 256
  · have hcall := hid (specl1Byte_any w0 w p bv bs hc)
    clear hc
    go_enter Try.func70, Try.ntmps70
    go_wp2_with fail
    refine hcall.out.mono ?_; rintro e w1 ⟨x, hx, rfl, hg, hc1⟩
    replace hg := hid hg
    replace hc1 := hid hc1
    go_wp2
    all_goals go_ret
    have hpos := Int.emod_nonneg (x : Int) (show n ≠ 0 by omega)
    have hlt := Int.emod_lt_of_pos (x : Int) (show 0 < n by omega)
    exact ⟨(x : Int) % n, rfl, hpos, fun _ => hlt, fun _ => by omega, hg.out, hc1.out⟩
  · have hcall := hid (specl1Byte_any w0 w p bv bs hc)
    clear hc
    go_enter Try.func70, Try.ntmps70
    go_wp2_with fail
    refine hcall.out.mono ?_; rintro e w1 ⟨x, hx, rfl, hg1, hc1⟩
    have hcall1 := hid (specl1Byte_any w0 w1 p bv bs hc1)
    replace hg1 := hid hg1
    clear hcall hc1
    go_wp2_with fail
    refine hcall1.out.mono ?_; rintro e w2 ⟨y, hy, rfl, hg2, hc2⟩
    have hcall2 := hid (specl1Byte_any w0 w2 p bv bs hc2)
    have hg2 := hid (grown_trans hg1.out hg2)
    clear hcall1 hc2 hg1
    go_wp2_with fail
    refine hcall2.out.mono ?_; rintro e w3 ⟨z, hz, rfl, hg3, hc3⟩
    have hcall3 := hid (specl1Byte_any w0 w3 p bv bs hc3)
    have hg3 := hid (grown_trans hg2.out hg3)
    clear hcall2 hc3 hg2
    go_wp2_with fail
    refine hcall3.out.mono ?_; rintro e w4 ⟨v, hv, rfl, hg4, hc4⟩
    have hg4 := hid (grown_trans hg3.out hg4)
    replace hc4 := hid hc4
    clear hcall3 hg3
    go_wp2
    all_goals go_ret
    refine ⟨_, rfl, ?_, fun _ => ?_, fun _ => by omega, hg4.out, hc4.out⟩
    · exact Int.emod_nonneg _ (show n ≠ 0 by omega)
    · exact Int.emod_lt_of_pos _ (show 0 < n by omega)

theorem rowAt_lit (w : World) (cs : List Value) (T : TypeId) : RowAt (w.alloc (.cells cs.toArray T)) w.heap.size 0 cs := fun j u h => by
  rw [Nat.zero_add, World.cell?_alloc_at _ _ _ _ rfl, List.getElem?_toArray]; exact h

set_option maxRecDepth 100000 in
set_option maxHeartbeats 1600000 in
theorem specl1Once_any (w0 w : World) (p : Nat) (bv : Value) (bs : List UInt8) (n : Int) (hn : I64 n) (hc : Cur w0 w p bv bs) :
    Calls Try.prog 71 #[.pointer (some ⟨p, 0, none⟩), .int .i64 n] w fun e w' => ∃ x : Bool, e = .returned (.bool x) ∧ w.grownBy w' (some p) ∧ Cur w0 w' p bv bs := by
  have hcall := hid (specl1Below_any w0 w p bv bs n hn hc)
  clear hc
  go_enter Try.func71, Try.ntmps71
  go_wp2_with fail
  refine hcall.out.mono ?_; rintro e w1 ⟨x, rfl, _, _, _, hg, hc1⟩
  replace hg := hid hg
  replace hc1 := hid hc1
  go_wp2
  all_goals go_ret
  all_goals exact ⟨_, rfl, hg.out, hc1.out⟩

set_option maxRecDepth 100000 in
set_option maxHeartbeats 1600000 in
theorem specl1Pick_any (w0 w : World) (p : Nat) (bv : Value) (bs : List UInt8) (L : List ByteArray) (b cap : Nat) (hL : 0 < L.length) (hL2 : L.length ≤ 1000) (hcap : L.length ≤ cap) (hbp : b ≠ p) (hr : RowAt w b 0 (L.flatMap str1)) (hc : Cur w0 w p bv bs) :
    Calls Try.prog 103 #[.pointer (some ⟨p, 0, none⟩), .slice (some ⟨b, 0, none⟩) L.length cap] w fun e w' => ∃ x ∈ L, e = .returned (.string x) ∧ w.grownBy w' (some p) ∧ Cur w0 w' p bv bs := by
  have hcall := hid (specl1Below_any w0 w p bv bs L.length (by unfold I64; omega) hc)
  clear hc
  have hr2 := hid hr
  go_enter Try.func103, Try.ntmps103
  go_wp2_with fail
  refine hcall.out.mono ?_; rintro e w1 ⟨x, rfl, hx0, hx1, _, hg, hc1⟩
  obtain ⟨k, rfl⟩ : ∃ k : Nat, x = (k : Int) := ⟨x.toNat, by omega⟩
  have hk : k < L.length := by have := hx1 (by omega); omega
  obtain ⟨y, hy⟩ := get_of_lt hk
  have e0 := hr2.out.one str1_len hy rfl
  have e1 : w1.cell? ⟨b, 0 + k, none⟩ = some (.string y) := by
    have hlt := World.block_lt_of_cell? w _ e0
    rw [← e0]
    unfold World.cell?
    rw [show (⟨b, 0 + k, none⟩ : Addr).block = b from rfl, hg.block b hlt (fun e => hbp (Option.some.inj e))]
  rw [Nat.zero_add] at e1
  have hmem := hid (List.mem_of_getElem? hy)
  replace hg := hid hg
  replace hc1 := hid hc1
  clear hr hx0 hx1 e0 hy hr2
  go_wp2
  all_goals go_ret
  all_goals exact ⟨y, hmem.out, rfl, hg.out, hc1.out⟩

set_option maxRecDepth 100000 in
set_option maxHeartbeats 1600000 in
theorem specl1PickInt_any (w0 w : World) (p : Nat) (bv : Value) (bs : List UInt8) (L : List Int) (b cap : Nat) (hL : 0 < L.length) (hL2 : L.length ≤ 1000) (hcap : L.length ≤ cap) (hbp : b ≠ p) (hr : RowAt w b 0 (L.flatMap int1)) (hc : Cur w0 w p bv bs) :
    Calls Try.prog 96 #[.pointer (some ⟨p, 0, none⟩), .slice (some ⟨b, 0, none⟩) L.length cap] w fun e w' => ∃ x ∈ L, e = .returned (.int .i64 x) ∧ w.grownBy w' (some p) ∧ Cur w0 w' p bv bs := by
  have hcall := hid (specl1Below_any w0 w p bv bs L.length (by unfold I64; omega) hc)
  clear hc
  have hr2 := hid hr
  go_enter Try.func96, Try.ntmps96
  go_wp2_with fail
  refine hcall.out.mono ?_; rintro e w1 ⟨x, rfl, hx0, hx1, _, hg, hc1⟩
  obtain ⟨k, rfl⟩ : ∃ k : Nat, x = (k : Int) := ⟨x.toNat, by omega⟩
  have hk : k < L.length := by have := hx1 (by omega); omega
  obtain ⟨y, hy⟩ := get_of_lt hk
  have e0 := hr2.out.one int1_len hy rfl
  have e1 : w1.cell? ⟨b, 0 + k, none⟩ = some (.int .i64 y) := by
    have hlt := World.block_lt_of_cell? w _ e0
    rw [← e0]
    unfold World.cell?
    rw [show (⟨b, 0 + k, none⟩ : Addr).block = b from rfl, hg.block b hlt (fun e => hbp (Option.some.inj e))]
  rw [Nat.zero_add] at e1
  have hmem := hid (List.mem_of_getElem? hy)
  replace hg := hid hg
  replace hc1 := hid hc1
  clear hr hx0 hx1 e0 hy hr2
  go_wp2
  all_goals go_ret
  all_goals exact ⟨y, hmem.out, rfl, hg.out, hc1.out⟩
end Go.Proofs.Ytdnjjgidlpmgjaa
