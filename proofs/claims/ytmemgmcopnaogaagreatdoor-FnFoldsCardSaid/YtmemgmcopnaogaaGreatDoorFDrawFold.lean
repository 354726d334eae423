/- Walks and lemmas of this seat (FDrawFold): what each theorem says of the functions that it names. Conditions: those that each theorem states. -/
import Derived.Test.YtmemgmcopnaogaaGreatDoorFDrawEv
import Derived.Test.YtmemgmcopnaogaaGreatDoorGBD
namespace Go.Proofs.YtmemgmcopnaogaaGreatDoor
set_option linter.unusedVariables false
set_option linter.unusedSimpArgs false
open Go.RowKit Go.Lib

theorem specl27Expr_any (w0 w : World) (p : Nat) (bv : Value) (bs : List UInt8) (k : Int) (hk : 0 ≤ k ∧ k ≤ 5) (hc : Cur w0 w p bv bs) :
    Calls Tryz.prog 49 #[.pointer (some ⟨p, 0, none⟩), .int .i64 k] w fun e w' => AnyNX w0 w p bv bs e w' := by
  obtain ⟨s, hs⟩ := hc.x
  have h := ev_nat k.toNat (by omega) k (by omega) rfl w0 w p bv bs s hs
  refine Calls.mono h ?_
  rintro e w' ⟨v, l, rfl, h1, h2, h3, h4, h5⟩
  have h6 := ((lt_V k.toNat).run (dNext bs) s).1
  have h7 : mV k.toNat ≤ 400 := by
    have : ∀ d, d ≤ 5 → mV d ≤ 400 := by decide
    exact this _ (by omega)
  exact ⟨v, l, rfl, h1, h2.cur, NodeSlcX.of_own h3, h4.fineN (by omega)⟩

def DrawnFine (w : World) (e : Ending) (w' : World) : Prop := ∃ (v : Value) (l : List Node), e = .returned v ∧ Below w.heap.size w w' ∧ NodeSlc w' v l ∧ FineN l
set_option maxRecDepth 100000 in
set_option maxHeartbeats 6400000 in
theorem specDrawFold_any (w : World) (bv : Value) (bs : List UInt8) (hc : Slc w bv 1 bs.length (bs.flatMap byte1)) (hs : bs.length ≤ 1048576) :
    Calls Tryz.prog 11 #[bv] w fun e w' => DrawnFine w e w' := by
  have hcall := hid (specl1New_any w bv bs hc hs)
  obtain ⟨_, a, cap, rfl, hcap, hm, hrow⟩ := hc
  go_enter Tryz.func11, Tryz.ntmps11
  go_wp2_with fail
  refine hcall.out.mono ?_; rintro e w1 ⟨p, rfl, hb1, hc1⟩
  have hcall2 := hid (specl1Once_any _ w1 p _ bs 4 (by unfold I64; omega) hc1)
  clear hc1 hcall hrow hb1
  go_wp2_with fail
  refine hcall2.out.mono ?_; rintro e w2 ⟨sp, rfl, hg2, hc2⟩
  clear hcall2 hg2
  cases sp with
  | true =>
    have hcall := hid (specl7Spoilt_any _ w2 p _ bs hc2)
    clear hc2
    go_wp2_with fail
    refine hcall.out.mono ?_; rintro e w3 ⟨v, l, rfl, hg3, hc3, ho3, hf3⟩
    have hfin := hid (show Below w.heap.size w w3 ∧ NodeSlc w3 v l from ⟨hc3.old, ho3.slc⟩)
    obtain ⟨a2, cap2, rfl⟩ := ho3.vshape
    clear hc3 hcall hg3 ho3
    go_wp2
    go_ret
    exact ⟨_, l, rfl, hfin.out.1, hfin.out.2, hf3⟩
  | false =>
    have hcall := hid (specl1Below_any _ w2 p _ bs 4 (by unfold I64; omega) hc2)
    clear hc2
    go_wp2_with fail
    refine hcall.out.mono ?_; rintro e w3 ⟨k, rfl, hk0, hk1, _, hg3, hc3⟩
    have hk2 : k ≤ 3 := by have := hk1 (by omega); omega
    have hwk := wrap_in (1 + k) (by unfold I64; omega)
    have hcall3 := hid (specl27Expr_any _ w3 p _ bs (1 + k) (by omega) hc3)
    clear hc3 hg3 hcall
    go_wp2_with fail
    refine hcall3.out.mono ?_; rintro e w4 ⟨v, l, rfl, hg4, hc4, ho4, hf4⟩
    have hfin := hid (show Below w.heap.size w w4 ∧ NodeSlc w4 v l from ⟨hc4.old, ho4.slc⟩)
    obtain ⟨a2, cap2, rfl⟩ := ho4.vshape
    clear hc4 hcall3 hg4 ho4
    go_wp2
    go_ret
    exact ⟨_, l, rfl, hfin.out.1, hfin.out.2, hf4⟩

def intsD : List Int := [0, 1, -1, 999999999, 1000000000, -999999999, -1000000000, 42, -7]
set_option maxRecDepth 100000 in
set_option maxHeartbeats 6400000 in
theorem specDrawFromInt_any (w : World) (bv : Value) (bs : List UInt8) (hc : Slc w bv 1 bs.length (bs.flatMap byte1)) (hs : bs.length ≤ 1048576) :
    Calls Tryz.prog 14 #[bv] w fun e w' => ∃ n : Int, n ∈ intsD ∧ e = .returned (.int .i64 n) ∧ Below w.heap.size w w' := by
  have hcall := hid (specl1New_any w bv bs hc hs)
  obtain ⟨_, a, cap, rfl, hcap, hm, hrow⟩ := hc
  go_enter Tryz.func14, Tryz.ntmps14
  go_wp2_with fail
  refine hcall.out.mono ?_; rintro e w1 ⟨p, rfl, hb1, hc1⟩
  have hpb := hc1.box.lt
  have hpk := hid (fun o => specl1PickInt_any _ (w1.alloc (.cells (intsD.flatMap int1).toArray o)) p _ bs intsD w1.heap.size 9 (by simp [intsD]) (by simp [intsD]) (by simp [intsD]) (by omega) (rowAt_lit _ _ _) (hc1.below ((Below.refl _ _).alloc (Nat.le_refl _) _)))
  clear hc1 hcall hrow hb1
  go_wp2_with fail
  refine (hpk.out _).mono ?_; rintro e w2 ⟨n, hn, rfl, hg2, hc2⟩
  have hold := hid hc2.old
  replace hn := hid hn
  clear hpk hg2 hc2
  go_wp2
  go_ret
  exact ⟨n, hn.out, rfl, hold.out⟩
end Go.Proofs.YtmemgmcopnaogaaGreatDoor
