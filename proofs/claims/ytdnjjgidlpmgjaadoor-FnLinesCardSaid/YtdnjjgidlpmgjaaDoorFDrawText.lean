/- Walks and lemmas of this seat (FDrawText): what each theorem says of the functions that it names. Conditions: those that each theorem states. -/
import Derived.Test.YtdnjjgidlpmgjaaDoorFCur2
namespace Go.Proofs.YtdnjjgidlpmgjaaDoor
set_option linter.unusedVariables false
set_option linter.unusedSimpArgs false
open Go.RowKit

def pieces16 : List ByteArray := [⟨#[97]⟩, ⟨#[98, 98]⟩, ⟨#[10]⟩, ⟨#[10, 10]⟩, ⟨#[120, 32, 121]⟩, ⟨#[]⟩]
theorem grown_id (w : World) (r : Option Nat) : w.grownBy w r := ⟨rfl, rfl, rfl, Nat.le_refl _, fun _ _ _ => rfl⟩
theorem grown_al {w w' : World} {r : Option Nat} (h : w.grownBy w' r) (o : Obj) : w.grownBy (w'.alloc o) r := grown_trans h (World.grownBy_alloc _ _ _)

set_option maxRecDepth 100000 in
set_option maxHeartbeats 1600000 in
theorem specl16Text_any (w0 w : World) (p : Nat) (bv : Value) (bs : List UInt8) (hc : Cur w0 w p bv bs) :
    Calls Tryd.prog 22 #[.pointer (some ⟨p, 0, none⟩)] w fun e w' => ∃ t : ByteArray, t.size ≤ 15 ∧ e = .returned (.string t) ∧ w.grownBy w' (some p) ∧ Cur w0 w' p bv bs := by
  have hcall := hid (specl1Below_any w0 w p bv bs 6 (by unfold I64; omega) hc)
  clear hc
  go_enter Tryd.func22, Tryd.ntmps22
  go_wp2_with fail
  refine hcall.out.mono ?_; rintro e w1 ⟨x, rfl, hx0, hx1, _, hg1, hc1⟩
  replace hx1 := hx1 (by omega)
  go_wp2
  go_loopw [3, 4] (fun sv i wr => ∃ (t : ByteArray) (m : Nat), sv = .string t ∧ i = .int .i64 m ∧ t.size + 3 * m ≤ 15 ∧ w.grownBy wr (some p) ∧ Cur w0 wr p bv bs) (fun _ i _ => (intOf i).toNat)
  case atStart => exact ⟨⟨#[]⟩, x.toNat, rfl, by congr 1; omega, by show 0 + _ ≤ _; omega, hg1, hc1⟩
  obtain ⟨t, m, rfl, rfl, ht, hg, hc⟩ := hrel
  clear hg1 hc1 hx0 hx1 hcall
  by_cases hm : 0 < m
  · have hp := hc.box.lt
    have hcall := hid (fun o => specl1Pick_any w0 (wr.alloc (.cells (pieces16.flatMap str1).toArray o)) p bv bs pieces16 wr.heap.size 6 (by decide) (by decide) (by decide) (by omega) (rowAt_lit _ _ _) (hc.below ((Below.refl _ _).alloc (Nat.le_refl _) _)))
    replace hg := hid hg
    clear hc
    go_wp2_with fail
    refine (hcall.out _).mono ?_; rintro e w2 ⟨y, hy, rfl, hg2, hc2⟩
    have hys : y.size ≤ 3 := by
      have : ∀ y ∈ pieces16, y.size ≤ 3 := by decide
      exact this y hy
    have hg3 := hid (grown_trans (grown_al hg.out _) hg2)
    have hszz : (t ++ y).size = t.size + y.size := by simp
    replace hc2 := hid hc2
    clear hg hg2 hcall hy
    go_wp2
    all_goals go_roundw
    all_goals first
      | (simp only [intOf]; omega)
      | exact ⟨t ++ y, m - 1, rfl, by congr 1; omega, by omega, hg3.out, hc2.out⟩
  · replace hg := hid hg
    replace hc := hid hc
    go_wp2
    go_ret
    exact ⟨t, by omega, rfl, hg.out, hc.out⟩

set_option maxRecDepth 100000 in
theorem specDrawLinesOf_any (w : World) (bv : Value) (bs : List UInt8) (hc : Slc w bv 1 bs.length (bs.flatMap byte1)) (hs : bs.length ≤ 1048576) :
    Calls Tryd.prog 15 #[bv] w fun e w' => ∃ t : ByteArray, t.size ≤ 15 ∧ e = .returned (.string t) ∧ Below w.heap.size w w' := by
  have hcall := hid (specl1New_any w bv bs hc hs)
  obtain ⟨_, a, cap, rfl, hcap, hm, hrow⟩ := hc
  go_enter Tryd.func15, Tryd.ntmps15
  go_wp2_with fail
  refine hcall.out.mono ?_; rintro e w1 ⟨p, rfl, hb1, hc1⟩
  have hcall2 := hid (specl16Text_any _ _ _ _ _ hc1)
  clear hc1 hcall hrow
  go_wp2_with fail
  refine hcall2.out.mono ?_; rintro e w2 ⟨t, ht, rfl, hg2, hc2⟩
  have hB := hid hc2.old
  clear hc2 hcall2 hg2
  go_wp2
  go_ret
  exact ⟨t, ht, rfl, hB.out⟩
end Go.Proofs.YtdnjjgidlpmgjaaDoor
