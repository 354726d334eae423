/- Walks and lemmas of this seat (FDrawNum): what each theorem says of the functions that it names. Conditions: those that each theorem states. -/
import Derived.Test.YtmemgmcopnaogaaGreatDoorFNewX
namespace Go.Proofs.YtmemgmcopnaogaaGreatDoor
set_option linter.unusedVariables false
set_option linter.unusedSimpArgs false
open Go.RowKit

set_option maxRecDepth 100000 in
set_option maxHeartbeats 1600000 in
theorem specl1PickE (w0 w : World) (p : Nat) (bv : Value) (bs : List UInt8) (s : DS) (L : List ByteArray) (b cap : Nat) (hL : 0 < L.length) (hL2 : L.length ≤ 256) (hcap : L.length ≤ cap) (hbp : b ≠ p) (hr : RowAt w b 0 (L.flatMap str1)) (hc : CurX w0 w p bv bs s) (y : ByteArray) (hy0 : L[(dNext bs s).1 % L.length]? = some y) :
    Calls Tryz.prog 64 #[.pointer (some ⟨p, 0, none⟩), .slice (some ⟨b, 0, none⟩) L.length cap] w fun e w' => e = .returned (.string y) ∧ w.grownBy w' (some p) ∧ CurX w0 w' p bv bs (dNext bs s).2 := by
  have hcall := hid (specl1BelowX w0 w p bv bs s L.length L.length rfl hL hL2 hc)
  clear hc
  have hr2 := hid hr
  have hk := Nat.mod_lt (dNext bs s).1 hL
  generalize (dNext bs s).2 = s' at *
  generalize (dNext bs s).1 % L.length = k at *
  go_enter Tryz.func64, Tryz.ntmps64
  go_wp2_with fail
  refine hcall.out.mono ?_; rintro e w1 ⟨rfl, hg, hc1⟩
  have hy := hy0
  have e0 := hr2.out.one str1_len hy rfl
  have e1 : w1.cell? ⟨b, 0 + k, none⟩ = some (.string y) := by
    have hlt := World.block_lt_of_cell? w _ e0
    rw [← e0]
    unfold World.cell?
    rw [show (⟨b, 0 + k, none⟩ : Addr).block = b from rfl, hg.block b hlt (fun e => hbp (Option.some.inj e))]
  rw [Nat.zero_add] at e1
  replace hg := hid hg
  replace hc1 := hid hc1
  clear hr e0 hy hy0 hr2
  go_wp2
  all_goals go_ret
  all_goals exact ⟨rfl, hg.out, hc1.out⟩

theorem getD_at {L : List ByteArray} {k : Nat} (h : k < L.length) : L[k]? = some (L.getD k ⟨#[]⟩) := by
  rw [List.getD_eq_getElem?_getD, List.getElem?_eq_getElem h]; rfl
def numX (bs : List UInt8) (s : DS) : ByteArray := nums4.getD ((dNext bs s).1 % 9) ⟨#[]⟩
theorem numX_small (bs : List UInt8) (s : DS) : (numX bs s).size ≤ 16 := by
  unfold numX
  have h := Nat.mod_lt (dNext bs s).1 (show 0 < 9 by omega)
  have : ∀ k, k < 9 → (nums4.getD k ⟨#[]⟩).size ≤ 16 := by decide
  exact this _ h
set_option maxRecDepth 100000 in
set_option maxHeartbeats 1600000 in
theorem specl4NumE (w0 w : World) (p : Nat) (bv : Value) (bs : List UInt8) (s : DS) (hc : CurX w0 w p bv bs s) :
    Calls Tryz.prog 65 #[.pointer (some ⟨p, 0, none⟩)] w fun e w' => e = .returned (.string (numX bs s)) ∧ w.grownBy w' (some p) ∧ CurX w0 w' p bv bs (dNext bs s).2 := by
  have hpk := hid (fun o => specl1PickE w0 (w.alloc (.cells (nums4.flatMap str1).toArray o)) p bv bs s nums4 w.heap.size 9 (by decide) (by decide) (by decide) (by have := hc.lt; omega) (rowAt_lit _ _ _) (hc.below ((Below.refl _ _).alloc (Nat.le_refl _) _)) (numX bs s) (getD_at (by have := Nat.mod_lt (dNext bs s).1 (show 0 < 9 by omega); exact this)))
  have hlen : nums4.length = 9 := rfl
  generalize numX bs s = t at hpk ⊢
  generalize (dNext bs s).2 = s' at hpk ⊢
  have hgr := hid (fun o => grown_al (grown_below (r := some p) (Below.refl w.heap.size w)) o)
  clear hc hlen
  go_enter Tryz.func65, Tryz.ntmps65
  go_wp2_with fail
  refine (hpk.out _).mono ?_; rintro e w2 ⟨rfl, hg2, hc2⟩
  have hfin := hid (grown_trans (hgr.out _) hg2)
  replace hc2 := hid hc2
  clear hpk hg2 hgr
  go_wp2
  go_ret
  exact ⟨rfl, hfin.out, hc2.out⟩
def textsN (t : ByteArray) : List ByteArray := [⟨#[48]⟩, ⟨#[55]⟩, ⟨#[57, 57, 57, 57, 57, 57, 57, 57, 57]⟩, ⟨#[49, 48, 48, 48, 48, 48, 48, 48, 48, 48]⟩, ⟨#[45, 49]⟩, ⟨#[51, 46, 53]⟩, ⟨#[]⟩, ⟨#[48, 48, 55]⟩, t]
/-- What DrawNumeral hands back. -/
def numeralX (bs : List UInt8) : ByteArray := (textsN (numX bs (startX bs))).getD ((dNext bs (dNext bs (startX bs)).2).1 % 9) ⟨#[]⟩
theorem numeralX_small (bs : List UInt8) : (numeralX bs).size ≤ 16 := by
  unfold numeralX
  have h := Nat.mod_lt (dNext bs (dNext bs (startX bs)).2).1 (show 0 < 9 by omega)
  have ht := numX_small bs (startX bs)
  generalize (dNext bs (dNext bs (startX bs)).2).1 % 9 = k at *
  generalize numX bs (startX bs) = t at *
  have : k = 0 ∨ k = 1 ∨ k = 2 ∨ k = 3 ∨ k = 4 ∨ k = 5 ∨ k = 6 ∨ k = 7 ∨ k = 8 := by omega
  rcases this with rfl | rfl | rfl | rfl | rfl | rfl | rfl | rfl | rfl <;> simp only [textsN, List.getD_cons_zero, List.getD_cons_succ] <;> first | exact ht | decide
set_option maxRecDepth 100000 in
set_option maxHeartbeats 1600000 in
theorem specDrawNumeral_any (w : World) (bv : Value) (bs : List UInt8) (hc : Slc w bv 1 bs.length (bs.flatMap byte1)) (hs : bs.length ≤ 1048576) :
    Calls Tryz.prog 18 #[bv] w fun e w' => e = .returned (.string (numeralX bs)) ∧ Below w.heap.size w w' := by
  have hcall := hid (specl1NewX w bv bs hc hs)
  obtain ⟨_, a, cap, rfl, hcap, hm, hrow⟩ := hc
  have hX : numeralX bs = (textsN (numX bs (startX bs))).getD ((dNext bs (dNext bs (startX bs)).2).1 % 9) ⟨#[]⟩ := rfl
  generalize numeralX bs = X at hX ⊢
  generalize startX bs = s0 at *
  replace hX := hid hX
  go_enter Tryz.func18, Tryz.ntmps18
  go_wp2_with fail
  refine hcall.out.mono ?_; rintro e w1 ⟨p, rfl, hb1, hc1⟩
  have hnum := hid (specl4NumE w w1 p _ bs s0 hc1)
  clear hc1 hcall hrow hb1
  go_wp2_with fail
  refine hnum.out.mono ?_; rintro e w2 ⟨rfl, hg2, hc2⟩
  have hpb := hc2.lt
  have hpk := hid (fun o => specl1PickE w (w2.alloc (.cells ((textsN (numX bs s0)).flatMap str1).toArray o)) p _ bs _ (textsN (numX bs s0)) w2.heap.size 9 (by simp [textsN]) (by simp [textsN]) (by simp [textsN]) (by omega) (rowAt_lit _ _ _) (hc2.below ((Below.refl _ _).alloc (Nat.le_refl _) _)) X (by rw [hX.out]; exact getD_at (by have := Nat.mod_lt (dNext bs (dNext bs s0).2).1 (show 0 < 9 by omega); exact this)))
  clear hnum hg2 hc2
  go_wp2_with fail
  refine (hpk.out _).mono ?_; rintro e w3 ⟨rfl, hg3, hc3⟩
  have hold := hid hc3.old
  clear hpk hg3 hc3
  go_wp2
  go_ret
  exact ⟨rfl, hold.out⟩
end Go.Proofs.YtmemgmcopnaogaaGreatDoor
