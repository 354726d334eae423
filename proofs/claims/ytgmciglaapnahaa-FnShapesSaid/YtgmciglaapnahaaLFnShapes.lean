/- Walks and lemmas of this seat (LFnShapes): what each theorem says of the functions that it names. Conditions: those that each theorem states. -/
import Derived.Test.YtgmciglaapnahaaGBD
import Derived.Test.YtgmciglaapnahaaGSH
import Derived.Test.YtgmciglaapnahaaGSM
import Derived.Test.YtgmciglaapnahaaGHB
namespace Go.Proofs.Ytgmciglaapnahaa
set_option linter.unusedVariables false
set_option linter.unusedSimpArgs false
open Go.RowKit

theorem eqNodes_self (l : List Node) : eqList eqNode l l = true := (eqList_iff eqNode eqNode_iff l l).2 rfl
theorem bulk_nil : bulk Node.sizes ([] : List Node) ≤ 1048576 := by simp [bulk]
theorem part_bulk2 {l : List Node} (h : bulk Node.sizes l ≤ 1048576) (i : Int) : bulk Node.sizes (part l i) ≤ 1048576 := part_bulk l i h
theorem part_Ok {l : List Node} (hx : ∀ x ∈ l, x.Ok) (hl : l.length ≤ 1048576) (i : Int) : ∀ y ∈ part l i, y.Ok := by
  intro y hy
  unfold part at hy
  split at hy
  · rename_i h
    split at hy
    · simp at hy
    · rename_i s hs
      obtain ⟨x, hx', rfl⟩ := List.mem_map.1 hy
      have hm : x ∈ l := List.mem_of_mem_drop (List.mem_of_mem_take hx')
      obtain ⟨j, hj⟩ := List.getElem?_of_mem hm
      have hah := ahead_of hs j x hj
      have hjl := (List.getElem?_eq_some_iff.1 hj).1
      have hlow := (starts_len hs).1.getD i.toNat
      obtain ⟨h1, h2, h3, h4, h5, h6⟩ := hx x hm
      refine ⟨h1, h2, h3, h4, fun k hk => ?_, by simpa [Node.shift] using h6⟩
      obtain ⟨k', hk', rfl⟩ := List.mem_map.1 hk
      have := hah k' hk'
      unfold I64; omega
  · simp at hy

set_option maxRecDepth 100000 in
set_option maxHeartbeats 6400000 in
theorem lawFnShapes {w : World} (bs : List UInt8) (v0 : Value) (hv0 : Slc w v0 1 bs.length (bs.flatMap byte1)) :
    Calls Try.prog 3 #[v0] w fun e w' => e = .returned (.bool true) ∧ Below w.heap.size w w' := by
  have hbig := hid (lawsbig_any v0 bs w hv0)
  by_cases hs : 1048576 < bs.length
  · have hd : decide (1048576 < bs.length) = true := by simpa using hs
    rw [hd] at hbig
    obtain ⟨_, a, cap, rfl, hcap, hm, hrow⟩ := hv0
    go_enter Try.func3, Try.ntmps3
    go_wp2_with (go_at_call 4; refine hbig.out.mono ?_; rintro e w' ⟨rfl, rfl⟩)
    go_ret
    exact ⟨rfl, Below.refl _ _⟩
  have hd : decide (1048576 < bs.length) = false := by simpa using hs
  rw [hd] at hbig
  have hdraw := hid (specDrawPart_any w v0 bs hv0 (by omega))
  obtain ⟨_, a, cap, rfl, hcap, hm, _⟩ := hv0
  clear hd hs
  go_enter Try.func3, Try.ntmps3
  go_wp2_with (go_at_call 4; refine hbig.out.mono ?_; rintro e w' ⟨rfl, hw'⟩; subst w')
  refine hdraw.out.mono ?_; rintro e w1 ⟨v, l, i, rfl, hbw, hD, hfn, hi0, hi1⟩
  have hf := hfn.fine
  have hlen := hfn.1
  have hi64 : I64 i := by unfold I64; omega
  obtain ⟨va, vc, rfl, hvm, hvc, hsl⟩ := hD.shape
  have hn0 : bulk Node.sizes l ≤ 1048576 := by omega
  have cpart := hid (fun (j : Int) (hj : I64 j) (W : World) (hb : Below w1.heap.size w1 W) => implPart_any l _ j W hf.1 hn0 (hD.mono hb (Nat.le_refl _)) hj)
  have cshape := hid (fun (W : World) (hb : Below w1.heap.size w1 W) => specShapeOk_any l _ W hf.1 hn0 (hD.mono hb (Nat.le_refl _)))
  have cstart := hid (fun (W : World) (hb : Below w1.heap.size w1 W) => implStartOf_exact l _ i W hf.1 hn0 (hD.mono hb (Nat.le_refl _)) hi64)
  have cdepth := hid (fun (W : World) (hb : Below w1.heap.size w1 W) => implDepthOf_any l _ W hf.1 hn0 (hD.mono hb (Nat.le_refl _)))
  have cspart := hid (fun (W : World) (hb : Below w1.heap.size w1 W) => specPart_any l _ i W hf.1 hn0 (hD.mono hb (Nat.le_refl _)) hi64)
  have cparent := hid (fun (W : World) (hb : Below w1.heap.size w1 W) => implParentOf_any l _ i W hf.1 hn0 (hD.mono hb (Nat.le_refl _)))
  have hws := hbw.size
  have hB := hid (fun (W : World) (hb : Below w1.heap.size w1 W) => hbw.trans (hb.mono hws))
  have hb1 := hid (Below.refl w1.heap.size w1)
  have hpx := hid (part_Ok hf.1 (by omega))
  have hpn := hid (fun i => part_bulk2 hn0 i)
  clear hdraw hbig hbw hfn
  by_cases hin : inPart l i = true
  · obtain ⟨hok, hi2, hi3⟩ := inPart_yes hin
    obtain ⟨n, rfl⟩ : ∃ n : Nat, i = (n : Int) := ⟨i.toNat, by omega⟩
    have hnl : n < l.length := by omega
    obtain ⟨hst0, hst1, hplen⟩ := part_count hok hnl
    have hshape := part_shape hok hnl
    have hdep := part_depth hok hnl
    have hlast := hid (fun h => parent_last hok (i := n) h)
    have hfound := hid (fun h => parent_found hok (i := n) h)
    have hdl := depthOf_le l
    have hdp := depthOf_le (part l (n : Int))
    rw [hok] at cshape
    generalize startAt l (n : Int) = st at *
    have hlt1 : ((n : Int) < 0) = False := by simp
    have hlt2 : decide ((n : Int) < (0 : Int)) = false := by simp
    have hlt3 : decide ((n : Int) ≥ (l.length : Int)) = false := by simp; omega
    have hpx2 := hid (hpx.out (n : Int))
    have hpn2 := hpn.out (n : Int)
    go_wp2_with fail
    refine (cpart.out _ hi64 w1 hb1.out).mono ?_; rintro e w2 ⟨v2, rfl, hbx, ho2⟩
    have hb2 := hid (hb1.out.trans (hbx.mono hb1.out.size))
    have hP := hid ho2.slc
    obtain ⟨va2, vc2, rfl, hvm2, hvc2, _⟩ := hP.out.shape
    clear hbx ho2 hin hok
    have hd1 : (((part l (n : Int)).length : Int) != (n : Int) - st + 1) = false := by rw [hplen]; simp
    have hd2 : decide (((depthOf l : Nat) : Int) < ((depthOf (part l (n : Int)) : Nat) : Int)) = false := by simp; omega
    have hPl : (part l (n : Int)).length ≤ 1048576 := by have := length_bulk Node.sizes (part l (n : Int)); omega
    replace hplen := hid hplen
    replace hshape := hid hshape
    have cdP := hid (fun (W : World) (h : NodeSlc W (.slice va2 (part l (n : Int)).length vc2) (part l (n : Int))) => implDepthOf_any (part l (n : Int)) _ W hpx2.out hpn2 h)
    generalize hPg : part l (n : Int) = P at *
    replace hPg := hid hPg
    generalize depthOf P = dP at *
    generalize hdLg : depthOf l = dL at *
    replace hdLg := hid hdLg
    clear hlt1
    go_wp2_with fail
    refine (cshape.out w2 hb2.out).mono ?_; rintro e w3 ⟨rfl, hbx⟩
    have hb3 := hid (hb2.out.trans (hbx.mono hb2.out.size))
    have hP3 := hid (hP.out.mono hbx (Nat.le_refl _))
    clear hbx
    have hcs := implShapeOk_any P _ w3 hpx2.out hpn2 hP3.out
    rw [hshape.out] at hcs
    replace hcs := hid hcs
    go_wp2_with fail
    refine hcs.out.mono ?_; rintro e w4 ⟨rfl, hbx⟩
    have hb4 := hid (hb3.out.trans (hbx.mono hb3.out.size))
    have hP4 := hid (hP3.out.mono hbx (Nat.le_refl _))
    clear hbx hcs
    go_wp2_with fail
    refine (cstart.out w4 hb4.out).mono ?_; rintro e w5 ⟨rfl, hbx⟩
    have hb5 := hid (hb4.out.trans (hbx.mono hb4.out.size))
    have hP5 := hid (hP4.out.mono hbx (Nat.le_refl _))
    clear hbx
    go_wp2_with fail
    refine (cdP.out w5 hP5.out).mono ?_; rintro e w6 ⟨rfl, hbx⟩
    have hb6 := hid (hb5.out.trans (hbx.mono hb5.out.size))
    have hP6 := hid (hP5.out.mono hbx (Nat.le_refl _))
    clear hbx
    go_wp2_with fail
    refine (cdepth.out w6 hb6.out).mono ?_; rintro e w7 ⟨rfl, hbx⟩
    have hb7 := hid (hb6.out.trans (hbx.mono hb6.out.size))
    have hP7 := hid (hP6.out.mono hbx (Nat.le_refl _))
    clear hbx
    go_wp2_with fail
    refine (cspart.out w7 hb7.out).mono ?_; rintro e w8 ⟨v8, rfl, hbx, ho8⟩
    have hb8 := hid (hb7.out.trans (hbx.mono hb7.out.size))
    have hP8 := hid (hP7.out.mono hbx (Nat.le_refl _))
    have hQ8 := hid ho8.slc
    obtain ⟨va8, vc8, rfl, _⟩ := hQ8.out.shape
    have hsame := specSameTree_any P _ P _ w8 hpx2.out hpn2 hP8.out hpx2.out hpn2 hQ8.out
    rw [eqNodes_self] at hsame
    replace hsame := hid hsame
    clear hbx ho8
    go_wp2_with fail
    refine hsame.out.mono ?_; rintro e w9 ⟨rfl, hbx⟩
    have hb9 := hid (hb8.out.trans (hbx.mono hb8.out.size))
    have hP9 := hid (hP8.out.mono hbx (Nat.le_refl _))
    clear hbx hsame
    go_wp2_with fail
    refine (cparent.out w9 hb9.out).mono ?_; rintro e w10 ⟨rfl, hbx⟩
    have hb10 := hid (hb9.out.trans (hbx.mono hb9.out.size))
    have hP10 := hid (hP9.out.mono hbx (Nat.le_refl _))
    clear hbx
    by_cases hend : n = l.length - 1
    · obtain ⟨hpa, hPl2⟩ := hlast.out hend
      have hq : ((n : Int) == (l.length : Int) - 1) = true := by simp; omega
      have hself := hid (implSameTree_self P _ (.slice va l.length vc) w10 hpn2 hP10.out (by
        have := hD.mono hb10.out (Nat.le_refl _)
        rw [hPl2]
        exact this))
      rw [hpa]
      clear hpa hPl2 hend hlast hfound
      go_wp2_with fail
      refine hself.out.mono ?_; rintro e w11 ⟨rfl, hbx⟩
      have hb11 := hid (hb10.out.trans (hbx.mono hb10.out.size))
      clear hbx
      go_wp2
      go_ret
      exact ⟨rfl, hB.out _ hb11.out⟩
    · have hq : ((n : Int) == (l.length : Int) - 1) = false := by simp; omega
      obtain ⟨p, y, hpe, hp1, hp2, hy, hmem, hdpl⟩ := hfound.out (by omega)
      obtain ⟨y', ka, kc, b, off, hy', rfl, c0, c1, c2, c3, c4, hkd⟩ := hsl.at hb10.out (Nat.le_refl _) hp2
      obtain rfl : y = y' := by rw [hy] at hy'; exact Option.some.inj hy'
      have hp3 : (n : Int) < (p : Int) := by omega
      have hp4 : (p : Int) < (l.length : Int) := by omega
      have hhas := hid (lawshas_any y.kids _ (n : Int) w10 hkd hmem)
      have hpI : I64 (p : Int) := by unfold I64; omega
      have hdq := depthOf_le (part l (p : Int))
      have cdQ := hid (fun (W : World) (v : Value) (h : NodeSlc W v (part l (p : Int))) => implDepthOf_any (part l (p : Int)) v W (hpx.out (p : Int)) (hpn.out (p : Int)) h)
      have cpq := hid (fun (W : World) (hb : Below w1.heap.size w1 W) => cpart.out (p : Int) hpI W hb)
      have hQn := length_bulk Node.sizes (part l (p : Int))
      have hQn2 := hpn.out (p : Int)
      rw [hpe]
      generalize part l (p : Int) = Q at *
      generalize depthOf Q = dQ at *
      have hdd : decide (((dP : Nat) : Int) < ((dQ : Nat) : Int)) = true := by simp; omega
      replace hy := hid hy
      replace hpe := hid hpe
      clear hlast hfound hmem hkd hy' c0 c1 c2 c3 hend
      go_wp2_with fail
      refine hhas.out.mono ?_; rintro e w11 ⟨rfl, hbx⟩
      have hb11 := hid (hb10.out.trans (hbx.mono hb10.out.size))
      have hP11 := hid (hP10.out.mono hbx (Nat.le_refl _))
      clear hbx hhas c4
      go_wp2_with fail
      refine (cpq.out w11 hb11.out).mono ?_; rintro e w12 ⟨v12, rfl, hbx, ho12⟩
      have hb12 := hid (hb11.out.trans (hbx.mono hb11.out.size))
      have hP12 := hid (hP11.out.mono hbx (Nat.le_refl _))
      have hQ12 := hid ho12.slc
      obtain ⟨va12, vc12, rfl, _⟩ := hQ12.out.shape
      clear hbx ho12
      go_wp2_with fail
      refine (cdQ.out w12 _ hQ12.out).mono ?_; rintro e w13 ⟨rfl, hbx⟩
      have hb13 := hid (hb12.out.trans (hbx.mono hb12.out.size))
      have hP13 := hid (hP12.out.mono hbx (Nat.le_refl _))
      clear hbx
      go_wp2_with fail
      refine (cdP.out w13 hP13.out).mono ?_; rintro e w14 ⟨rfl, hbx⟩
      have hb14 := hid (hb13.out.trans (hbx.mono hb13.out.size))
      clear hbx
      go_wp2
      go_ret
      exact ⟨rfl, hB.out _ hb14.out⟩
  · have hin : inPart l i = false := by simpa using hin
    have hp0 := part_no hin
    have hst := startAt_no hin
    have hcond : Hid (shapeOk (l.map Node.kids) = false ∨ (shapeOk (l.map Node.kids) = true ∧ (i < 0 ∨ (l.length : Int) ≤ i))) := hid (by
      unfold inPart at hin
      cases hk : shapeOk (l.map Node.kids) with
      | false => exact .inl rfl
      | true =>
        right
        rw [hk] at hin
        simp at hin
        exact ⟨rfl, by omega⟩)
    go_wp2_with fail
    refine (cpart.out _ hi64 w1 hb1.out).mono ?_; rintro e w2 ⟨v2, rfl, hbx, ho2⟩
    rw [hp0] at ho2
    have hb2 := hid (hb1.out.trans (hbx.mono hb1.out.size))
    obtain ⟨va2, vc2, rfl, _⟩ := ho2.slc.shape
    have cst := cstart.out
    rw [hst] at cst
    replace cst := hid cst
    clear hbx ho2 hin hp0 hst cstart
    simp only [List.length_nil]
    generalize shapeOk (l.map Node.kids) = ok at *
    rcases hcond.out with rfl | ⟨rfl, hi⟩
    · go_wp2_with fail
      refine (cshape.out w2 hb2.out).mono ?_; rintro e w3 ⟨rfl, hbx⟩
      have hb3 := hid (hb2.out.trans (hbx.mono hb2.out.size))
      clear hbx hcond
      go_wp2_with fail
      refine (cst.out w3 hb3.out).mono ?_; rintro e w4 ⟨rfl, hbx⟩
      have hb4 := hid (hb3.out.trans (hbx.mono hb3.out.size))
      clear hbx
      go_wp2
      go_ret
      exact ⟨rfl, hB.out _ hb4.out⟩
    · clear hcond
      by_cases hneg : i < 0
      · go_wp2_with fail
        refine (cshape.out w2 hb2.out).mono ?_; rintro e w3 ⟨rfl, hbx⟩
        have hb3 := hid (hb2.out.trans (hbx.mono hb2.out.size))
        clear hbx
        go_wp2_with fail
        refine (cst.out w3 hb3.out).mono ?_; rintro e w4 ⟨rfl, hbx⟩
        have hb4 := hid (hb3.out.trans (hbx.mono hb3.out.size))
        clear hbx
        go_wp2
        go_ret
        exact ⟨rfl, hB.out _ hb4.out⟩
      · have hi2 : (l.length : Int) ≤ i := by omega
        go_wp2_with fail
        refine (cshape.out w2 hb2.out).mono ?_; rintro e w3 ⟨rfl, hbx⟩
        have hb3 := hid (hb2.out.trans (hbx.mono hb2.out.size))
        clear hbx
        go_wp2_with fail
        refine (cst.out w3 hb3.out).mono ?_; rintro e w4 ⟨rfl, hbx⟩
        have hb4 := hid (hb3.out.trans (hbx.mono hb3.out.size))
        clear hbx
        go_wp2
        go_ret
        exact ⟨rfl, hB.out _ hb4.out⟩
end Go.Proofs.Ytgmciglaapnahaa
