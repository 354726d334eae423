/- Walks and lemmas of this seat (LFnLints): what each theorem says of the functions that it names. Conditions: those that each theorem states. -/
import Derived.Test.YtgmciglaapnahaaGreatDoorFFunc24
import Derived.Test.YtgmciglaapnahaaGreatDoorGPW
import Derived.Test.YtgmciglaapnahaaGreatDoorGL
import Derived.Test.YtgmciglaapnahaaGreatDoorFBare
import Derived.Test.YtgmciglaapnahaaGreatDoorFSameTexts
import Derived.Test.YtgmciglaapnahaaGreatDoorGHB
namespace Go.Proofs.YtgmciglaapnahaaGreatDoor
set_option linter.unusedVariables false
set_option linter.unusedSimpArgs false
open Go.RowKit Go.Lib

set_option maxRecDepth 100000 in
theorem specl25Draw_any (w0 w : World) (p : Nat) (bv : Value) (bs : List UInt8) (hc : Cur w0 w p bv bs) :
    Calls Tryz.prog 88 #[.pointer (some ⟨p, 0, none⟩)] w fun e w' => AnyNX w0 w p bv bs e w' := by
  have hcall := hid (specl24Func_any w0 w p bv bs hc)
  clear hc
  go_enter Tryz.func88, Tryz.ntmps88
  go_wp2_with fail
  refine hcall.out.mono ?_; rintro e w1 ⟨v, l, i, rfl, hg, hc1, ho, hf, _, _⟩
  obtain ⟨a, cap, rfl⟩ := ho.vshape
  have hfin := hid (AnyNX.of hg hc1 ho hf)
  clear hg hc1 ho hf hcall
  go_wp2
  go_ret
  exact hfin.out
set_option maxRecDepth 100000 in
theorem specDrawLints_any (w : World) (bv : Value) (bs : List UInt8) (hc : Slc w bv 1 bs.length (bs.flatMap byte1)) (hs : bs.length ≤ 1048576) :
    Calls Tryz.prog 15 #[bv] w fun e w' => ∃ (v : Value) (l : List Node), e = .returned v ∧ Below w.heap.size w w' ∧ NodeSlc w' v l ∧ FineN l := by
  have hcall := hid (specl1New_any w bv bs hc hs)
  obtain ⟨_, a, cap, rfl, hcap, hm, hrow⟩ := hc
  go_enter Tryz.func15, Tryz.ntmps15
  go_wp2_with fail
  refine hcall.out.mono ?_; rintro e w1 ⟨p, rfl, hb1, hc1⟩
  have hcall2 := hid (specl25Draw_any _ _ _ _ _ hc1)
  clear hc1 hcall hrow
  go_wp2_with fail
  refine hcall2.out.mono ?_; rintro e w2 ⟨v, l, rfl, hg2, hc2, ho2, hf2⟩
  have hfin := hid (show Below w.heap.size w w2 ∧ NodeSlc w2 v l from ⟨hc2.old, ho2.slc⟩)
  obtain ⟨a2, cap2, rfl⟩ := ho2.vshape
  clear hc2 hcall2 hg2 ho2
  go_wp2
  go_ret
  exact ⟨_, l, rfl, hfin.out.1, hfin.out.2, hf2⟩
theorem noComments_Ok {l : List Node} (hx : ∀ x ∈ l, x.Ok) (hn : bulk Node.sizes l ≤ 1048576) : ∀ y ∈ noComments l, y.Ok := by
  intro y hy
  unfold noComments at hy
  split at hy
  · rename_i hok
    have hs := treeOk_shape hok
    obtain ⟨h1, h2, _⟩ := shapeOk_yes hs
    have hsn : (rootTree l).bare.Sane := Tree.bare_sane (treeIx_sane hx (shapeOk_ahead hs) (l.length - 1) (by omega))
    have hw : (rootTree l).bare.weight ≤ 1048576 := Nat.le_trans (Tree.bare_weight _) (treeIx_weight hn hs (by omega))
    exact (Tree.addTo_fine hsn hw y hy).1
  · simp at hy
theorem lintsOf_no {l : List Node} (h : progOkB l = false) : lintsOf l = [] := by unfold lintsOf; rw [h]; rfl

set_option maxRecDepth 100000 in
set_option maxHeartbeats 6400000 in
theorem lawFnLints {w : World} (bs : List UInt8) (v0 : Value) (hv0 : Slc w v0 1 bs.length (bs.flatMap byte1)) (hE0 : MeasEnv w) :
    Calls Tryz.prog 3 #[v0] w fun e w' => e = .returned (.bool true) ∧ Below w.heap.size w w' := by
  have hbig := hid (lawsbig_any v0 bs w hv0)
  by_cases hs : 1048576 < bs.length
  · have hd : decide (1048576 < bs.length) = true := by simpa using hs
    rw [hd] at hbig
    obtain ⟨_, a, cap, rfl, hcap, hm, hrow⟩ := hv0
    go_enter Tryz.func3, Tryz.ntmps3
    go_wp2_with (go_at_call 14; refine hbig.out.mono ?_; rintro e w' ⟨rfl, rfl⟩)
    go_ret
    exact ⟨rfl, Below.refl _ _⟩
  have hd : decide (1048576 < bs.length) = false := by simpa using hs
  rw [hd] at hbig
  have hdraw := hid (specDrawLints_any w v0 bs hv0 (by omega))
  obtain ⟨_, a, cap, rfl, hcap, hm, _⟩ := hv0
  clear hd hs
  go_enter Tryz.func3, Tryz.ntmps3
  go_wp2_with (go_at_call 14; refine hbig.out.mono ?_; rintro e w' ⟨rfl, hw'⟩; subst w')
  refine hdraw.out.mono ?_; rintro e w1 ⟨v, l, rfl, hbw, hD, hfn⟩
  have hf := hfn.fine
  have hlen := hfn.1
  obtain ⟨va, vc, rfl, hvm, hvc, hsl⟩ := hD.shape
  have hn0 : bulk Node.sizes l ≤ 1048576 := by omega
  have hE : MeasEnv w1 := hE0.below hbw
  have hws := hbw.size
  have hB := hid (fun (W : World) (hb : Below w1.heap.size w1 W) => hbw.trans (hb.mono hws))
  have hb1 := hid (Below.refl w1.heap.size w1)
  have clints := hid (fun (W : World) (hb : Below w1.heap.size w1 W) => implLints_any l _ W hf.1 hn0 (hD.mono hb (Nat.le_refl _)) (hE.below hb))
  have cslints := hid (fun (W : World) (hb : Below w1.heap.size w1 W) => specLints_any l _ W hf.1 hn0 (hD.mono hb (Nat.le_refl _)))
  have cclean := hid (fun (W : World) (hb : Below w1.heap.size w1 W) => implClean_any l _ W hf.1 hn0 (hD.mono hb (Nat.le_refl _)) (hE.below hb))
  have cprog := hid (fun (W : World) (hb : Below w1.heap.size w1 W) => specProgramOk_any l _ W hf.1 hn0 (hD.mono hb (Nat.le_refl _)))
  have cbare := hid (fun (W : World) (hb : Below w1.heap.size w1 W) => specNoComments_any l _ W hf.1 hn0 (hD.mono hb (Nat.le_refl _)))
  have cass := hid (fun (W : World) (hb : Below w1.heap.size w1 W) => implAssignedIn_any l _ W hf.1 hn0 (hD.mono hb (Nat.le_refl _)) (hE.below hb).1)
  have cblints := hid (fun (W : World) (u : Value) (hb : Below w1.heap.size w1 W) (hu : NodeSlc W u (noComments l)) => implLints_any (noComments l) u W (noComments_Ok hf.1 hn0) (noComments_bulk l hn0) hu (hE.below hb))
  have hcl : Hid (cleanB l = (progOkB l && ((lintsOf l).length == 0))) := hid rfl
  have hno := hid (fun h => lintsOf_no (l := l) h)
  have hyes := hid (fun h => lints_bare (l := l) h)
  clear hdraw hbig hbw hfn hD hsl
  have hXl := lintsOf_len l (by omega)
  by_cases hP : progOkB l = true
  · obtain ⟨hY, hZ⟩ := hyes.out hP
    rw [hP] at cprog hcl
    replace hcl : Hid (cleanB l = ((lintsOf l).length == 0)) := hid (by rw [hcl.out, Bool.true_and])
    clear hno hyes hP
    generalize lintsOf l = X at *
    generalize lintsOf (noComments l) = Y at *
    generalize assignedAll l = Z at *
    generalize cleanB l = cl at *
    generalize noComments l = L at *
    have hYi : ((Y.length : Int) == (X.length : Int)) = true := by simp [hY]
    have hZi : decide ((Z.length : Int) ≤ (X.length : Int)) = true := by simp; omega
    replace hY := hid hY
    by_cases hX : X.length = 0
    · have hcl2 : cl = true := by rw [hcl.out, hX]; rfl
      subst hcl2
      have hX0 : ((X.length : Int) == 0) = true := by simp [hX]
      replace hX := hid hX
      go_wp2_with fail
      refine (clints.out w1 hb1.out).mono ?_; rintro e w2 ⟨v2, rfl, hbx, ho2⟩
      have hb2 := hid (hb1.out.trans (hbx.mono hb1.out.size))
      have hx2 := hid (fun (W : World) (h : Below w2.heap.size w2 W) => (Slc.of_own ho2).mono h (Nat.le_refl _))
      obtain ⟨a2, c2, rfl, _⟩ := own_slice ho2
      clear hbx ho2
      go_wp2_with fail
      refine (cslints.out w2 hb2.out).mono ?_; rintro e w3 ⟨v3, rfl, hbx, ho3⟩
      have hb3 := hid (hb2.out.trans (hbx.mono hb2.out.size))
      have hsame := hid (lawssameTexts_self X _ _ w3 (hx2.out _ hbx) (Slc.of_own ho3))
      obtain ⟨a3, c3, rfl, _⟩ := own_slice ho3
      clear hbx ho3 hx2
      go_wp2_with fail
      refine hsame.out.mono ?_; rintro e w4 ⟨rfl, hbx⟩
      have hb4 := hid (hb3.out.trans (hbx.mono hb3.out.size))
      clear hbx hsame
      go_wp2_with fail
      refine (cclean.out w4 hb4.out).mono ?_; rintro e w5 ⟨rfl, hbx⟩
      have hb5 := hid (hb4.out.trans (hbx.mono hb4.out.size))
      clear hbx
      go_wp2_with fail
      refine (cprog.out w5 hb5.out).mono ?_; rintro e w6 ⟨rfl, hbx⟩
      have hb6 := hid (hb5.out.trans (hbx.mono hb5.out.size))
      clear hbx
      go_wp2_with fail
      refine (cprog.out w6 hb6.out).mono ?_; rintro e w7 ⟨rfl, hbx⟩
      have hb7 := hid (hb6.out.trans (hbx.mono hb6.out.size))
      clear hbx
      go_wp2_with fail
      refine (cbare.out w7 hb7.out).mono ?_; rintro e w8 ⟨v8, rfl, hbx, ho8⟩
      have hb8 := hid (hb7.out.trans (hbx.mono hb7.out.size))
      have hn8 := hid ho8.slc
      obtain ⟨a8, c8, rfl, _⟩ := hn8.out.shape
      clear hbx ho8
      go_wp2_with fail
      refine (cblints.out w8 _ hb8.out hn8.out).mono ?_; rintro e w9 ⟨v9, rfl, hbx, ho9⟩
      have hb9 := hid (hb8.out.trans (hbx.mono hb8.out.size))
      obtain ⟨a9, c9, rfl, _⟩ := own_slice ho9
      clear hbx ho9
      go_wp2_with fail
      refine (cass.out w9 hb9.out).mono ?_; rintro e w10 ⟨v10, rfl, hbx, ho10⟩
      have hb10 := hid (hb9.out.trans (hbx.mono hb9.out.size))
      obtain ⟨a10, c10, rfl, _⟩ := own_slice ho10
      clear hbx ho10
      go_wp2
      go_ret
      exact ⟨rfl, hB.out _ hb10.out⟩
    · have hcl2 : cl = false := by rw [hcl.out]; simpa using hX
      subst hcl2
      have hX0 : ((X.length : Int) == 0) = false := by rw [beq_eq_false_iff_ne]; omega
      replace hX := hid hX
      go_wp2_with fail
      refine (clints.out w1 hb1.out).mono ?_; rintro e w2 ⟨v2, rfl, hbx, ho2⟩
      have hb2 := hid (hb1.out.trans (hbx.mono hb1.out.size))
      have hx2 := hid (fun (W : World) (h : Below w2.heap.size w2 W) => (Slc.of_own ho2).mono h (Nat.le_refl _))
      obtain ⟨a2, c2, rfl, _⟩ := own_slice ho2
      clear hbx ho2
      go_wp2_with fail
      refine (cslints.out w2 hb2.out).mono ?_; rintro e w3 ⟨v3, rfl, hbx, ho3⟩
      have hb3 := hid (hb2.out.trans (hbx.mono hb2.out.size))
      have hsame := hid (lawssameTexts_self X _ _ w3 (hx2.out _ hbx) (Slc.of_own ho3))
      obtain ⟨a3, c3, rfl, _⟩ := own_slice ho3
      clear hbx ho3 hx2
      go_wp2_with fail
      refine hsame.out.mono ?_; rintro e w4 ⟨rfl, hbx⟩
      have hb4 := hid (hb3.out.trans (hbx.mono hb3.out.size))
      clear hbx hsame
      go_wp2_with fail
      refine (cclean.out w4 hb4.out).mono ?_; rintro e w5 ⟨rfl, hbx⟩
      have hb5 := hid (hb4.out.trans (hbx.mono hb4.out.size))
      clear hbx
      go_wp2_with fail
      refine (cprog.out w5 hb5.out).mono ?_; rintro e w6 ⟨rfl, hbx⟩
      have hb6 := hid (hb5.out.trans (hbx.mono hb5.out.size))
      clear hbx
      go_wp2_with fail
      refine (cprog.out w6 hb6.out).mono ?_; rintro e w7 ⟨rfl, hbx⟩
      have hb7 := hid (hb6.out.trans (hbx.mono hb6.out.size))
      clear hbx
      go_wp2_with fail
      refine (cbare.out w7 hb7.out).mono ?_; rintro e w8 ⟨v8, rfl, hbx, ho8⟩
      have hb8 := hid (hb7.out.trans (hbx.mono hb7.out.size))
      have hn8 := hid ho8.slc
      obtain ⟨a8, c8, rfl, _⟩ := hn8.out.shape
      clear hbx ho8
      go_wp2_with fail
      refine (cblints.out w8 _ hb8.out hn8.out).mono ?_; rintro e w9 ⟨v9, rfl, hbx, ho9⟩
      have hb9 := hid (hb8.out.trans (hbx.mono hb8.out.size))
      obtain ⟨a9, c9, rfl, _⟩ := own_slice ho9
      clear hbx ho9
      go_wp2_with fail
      refine (cass.out w9 hb9.out).mono ?_; rintro e w10 ⟨v10, rfl, hbx, ho10⟩
      have hb10 := hid (hb9.out.trans (hbx.mono hb9.out.size))
      obtain ⟨a10, c10, rfl, _⟩ := own_slice ho10
      clear hbx ho10
      go_wp2
      go_ret
      exact ⟨rfl, hB.out _ hb10.out⟩
  · have hP : progOkB l = false := by simpa using hP
    have hX := hno.out hP
    rw [hP] at cprog hcl
    have hcl2 : cleanB l = false := by rw [hcl.out]; rfl
    rw [hcl2] at cclean
    rw [hX] at clints cslints
    clear hno hyes hP hcl hcl2 hX hXl
    go_wp2_with fail
    refine (clints.out w1 hb1.out).mono ?_; rintro e w2 ⟨v2, rfl, hbx, ho2⟩
    have hb2 := hid (hb1.out.trans (hbx.mono hb1.out.size))
    have hx2 := hid (fun (W : World) (h : Below w2.heap.size w2 W) => (Slc.of_own ho2).mono h (Nat.le_refl _))
    obtain ⟨a2, c2, rfl, _⟩ := own_slice ho2
    clear hbx ho2
    go_wp2_with fail
    refine (cslints.out w2 hb2.out).mono ?_; rintro e w3 ⟨v3, rfl, hbx, ho3⟩
    have hb3 := hid (hb2.out.trans (hbx.mono hb2.out.size))
    have hsame := hid (lawssameTexts_self [] _ _ w3 (hx2.out _ hbx) (Slc.of_own ho3))
    obtain ⟨a3, c3, rfl, _⟩ := own_slice ho3
    clear hbx ho3 hx2
    go_wp2_with fail
    refine hsame.out.mono ?_; rintro e w4 ⟨rfl, hbx⟩
    have hb4 := hid (hb3.out.trans (hbx.mono hb3.out.size))
    clear hbx hsame
    go_wp2_with fail
    refine (cclean.out w4 hb4.out).mono ?_; rintro e w5 ⟨rfl, hbx⟩
    have hb5 := hid (hb4.out.trans (hbx.mono hb4.out.size))
    clear hbx
    go_wp2_with fail
    refine (cprog.out w5 hb5.out).mono ?_; rintro e w6 ⟨rfl, hbx⟩
    have hb6 := hid (hb5.out.trans (hbx.mono hb5.out.size))
    clear hbx
    go_wp2_with fail
    refine (cprog.out w6 hb6.out).mono ?_; rintro e w7 ⟨rfl, hbx⟩
    have hb7 := hid (hb6.out.trans (hbx.mono hb6.out.size))
    clear hbx
    go_wp2
    go_ret
    exact ⟨rfl, hB.out _ hb7.out⟩
end Go.Proofs.YtgmciglaapnahaaGreatDoor
