/- Walks and lemmas of this seat (LFnFolds): what each theorem says of the functions that it names. Conditions: those that each theorem states. -/
import Derived.Test.YtmemgmcopnaogaaGreatDoorFFold
import Derived.Test.YtmemgmcopnaogaaGreatDoorFDrawFold
import Derived.Test.YtmemgmcopnaogaaGreatDoorFDrawNum
import Derived.Test.YtmemgmcopnaogaaGreatDoorGQ
import Derived.Test.YtmemgmcopnaogaaGreatDoorGN
import Derived.Test.YtmemgmcopnaogaaGreatDoorGSM
import Derived.Test.YtmemgmcopnaogaaGreatDoorGHB
namespace Go.Proofs.YtmemgmcopnaogaaGreatDoor
set_option linter.unusedVariables false
set_option linter.unusedSimpArgs false
open Go.RowKit Go.Lib

/-! The law FnFolds: what folding and numbers are, in plain words. -/
theorem eqNodes_self (l : List Node) : eqList eqNode l l = true := (eqList_iff eqNode eqNode_iff l l).2 rfl
theorem foldOf_fine {l : List Node} (hx : ∀ x ∈ l, x.Ok) (hn : bulk Node.sizes l ≤ 1048576) : (∀ x ∈ foldOf l, x.Ok) ∧ bulk Node.sizes (foldOf l) ≤ 1048576 := by
  refine ⟨?_, foldOf_bulk l hn⟩
  unfold foldOf
  split
  · rename_i hok
    have hs := treeOk_shape hok
    obtain ⟨h1, h2, _⟩ := shapeOk_yes hs
    have hsane : (rootTree l).Sane := treeIx_sane hx (shapeOk_ahead hs) _ (by omega)
    exact (laid_fine (Tree.fold_sane hsane).1 (Nat.le_trans (Tree.fold_weight _).1 (treeIx_weight hn hs (by omega)))).1
  · simp
theorem foldOf_len {l : List Node} (h : treeOk l = false) : foldOf l = [] := by unfold foldOf; rw [if_neg (by rw [h]; simp)]
theorem fromNodes_fine {n : Int} : (∀ x ∈ fromNodes n, x.Ok) ∧ bulk Node.sizes (fromNodes n) ≤ 1048576 := by
  by_cases h : -999999999 ≤ n ∧ n ≤ 999999999
  · rw [← numT_nodes h]
    have h1 : (numT n).weight ≤ 1048576 := by
      rw [numT_weight]
      have h2 := (numW_le n).1
      have h3 : ndI n ≤ 9 := ndI_le (by omega) (by omega)
      omega
    exact laid_fine (numT_sane n) h1
  · rw [fromNodes_out h]
    exact ⟨by simp, by simp [bulk]⟩
theorem fromNodes_const (n : Int) : ((constV (fromNodes n)).2 = decide (n > -1000000000 ∧ n < 1000000000)) ∧ ((constV (fromNodes n)).2 = true → (constV (fromNodes n)).1 = n) := by
  by_cases h : -999999999 ≤ n ∧ n ≤ 999999999
  · have h2 := numT_small n
    have e : constV (fromNodes n) = (n, true) := by
      rw [← numT_nodes h, constV_tree (numT_ok n) (by omega) (by omega), numT_const h]
    rw [e]
    refine ⟨?_, fun _ => rfl⟩
    symm
    rw [decide_eq_true_eq]
    omega
  · rw [fromNodes_out h]
    have e : constV [] = (0, false) := by decide +kernel
    rw [e]
    refine ⟨?_, fun h => by cases h⟩
    symm
    rw [decide_eq_false_iff_not]
    omega
/-- What a numeral says is written as it stands. -/
def numK (s : ByteArray) : Int := if rdOk s.data.toList && decide (0 ≤ rdVal s.data.toList) then rdVal s.data.toList else 0
def numF (s : ByteArray) : Bool := rdOk s.data.toList && decide (0 ≤ rdVal s.data.toList)
theorem numeralEnd_kf (s : ByteArray) : numeralEnd s = .returned (.tuple #[.int .i64 (numK s), .bool (numF s)]) := rfl
theorem numF_dec {s : ByteArray} (h : numF s = true) : 0 ≤ numK s ∧ numK s ≤ 999999999 ∧ (⟨(itoa (numK s)).toArray⟩ : ByteArray) = s := by
  have e : numK s = rdVal s.data.toList := by unfold numK; unfold numF at h; rw [if_pos h]
  unfold numF at h
  simp only [Bool.and_eq_true, decide_eq_true_eq] at h
  obtain ⟨h1, h2, h3⟩ := rdOk_isDec h.1
  rw [e]
  refine ⟨h.2, h3, ?_⟩
  rw [← h1]
theorem intsD_range {n : Int} (h : n ∈ intsD) : I64 n := by
  simp only [intsD, List.mem_cons, List.not_mem_nil, or_false] at h
  unfold I64
  omega

set_option maxRecDepth 100000 in
set_option maxHeartbeats 12800000 in
theorem lawFnFolds {w : World} (bs : List UInt8) (v0 : Value) (hv0 : Slc w v0 1 bs.length (bs.flatMap byte1)) (hE0 : EvalEnv w) :
    Calls Tryz.prog 3 #[v0] w fun e w' => e = .returned (.bool true) ∧ Below w.heap.size w w' := by
  have hbig := hid (lawsbig_any v0 bs w hv0)
  by_cases hs : 1048576 < bs.length
  · have hd : decide (1048576 < bs.length) = true := by simpa using hs
    rw [hd] at hbig
    obtain ⟨_, a, cap, rfl, hcap, hm, hrow⟩ := hv0
    go_enter Tryz.func3, Tryz.ntmps3
    go_wp2_with (go_at_call 10; refine hbig.out.mono ?_; rintro e w' ⟨rfl, rfl⟩)
    go_ret
    exact ⟨rfl, Below.refl _ _⟩
  have hd : decide (1048576 < bs.length) = false := by simpa using hs
  rw [hd] at hbig
  have hdraw := hid (specDrawFold_any w v0 bs hv0 (by omega))
  have hdint := hid (fun (W : World) (hb : Below w.heap.size w W) => specDrawFromInt_any W v0 bs (hv0.mono hb (Nat.le_refl _)) (by omega))
  have hdnum := hid (fun (W : World) (hb : Below w.heap.size w W) => specDrawNumeral_any W v0 bs (hv0.mono hb (Nat.le_refl _)) (by omega))
  obtain ⟨_, a0, cap, rfl, hcap, hm, _⟩ := hv0
  clear hd hs
  go_enter Tryz.func3, Tryz.ntmps3
  go_wp2_with (go_at_call 10; refine hbig.out.mono ?_; rintro e w' ⟨rfl, hw'⟩; subst w')
  refine hdraw.out.mono ?_; rintro e w1 ⟨v, l, rfl, hb1, hD0, hfn⟩
  have hf := hfn.fine
  have hlen := hfn.1
  have hn0 : bulk Node.sizes l ≤ 1048576 := by omega
  obtain ⟨va, vc, rfl, hvm, hvc, _⟩ := hD0.shape
  obtain ⟨ff1, ff2⟩ := foldOf_fine hf.1 hn0
  have hl := hid (fun (W : World) (hb : Below w1.heap.size w1 W) => hD0.mono hb (Nat.le_refl _))
  have cfo := hid (fun (W : World) (hb : Below w1.heap.size w1 W) (hE : EvalEnv W) => implFold_any l _ W hf.1 hn0 (hl.out W hb) hE)
  have cto := hid (fun (W : World) (hb : Below w1.heap.size w1 W) => specTreeOk_any l _ W hf.1 hn0 (hl.out W hb))
  have hE1 := hid (fun (W : World) (hb : Below w.heap.size w W) => hE0.below hb)
  have hfl := foldOf_len (l := l)
  have hfk := foldOf_ok (l := l)
  clear hdraw hbig hD0 hf hn0 hfn
  go_wp2_with fail
  refine (cfo.out w1 (Below.refl _ _) (hE1.out _ hb1)).mono ?_; rintro e w2 ⟨v2, rfl, hbx, ho2⟩
  have hb2 := hid (hb1.trans (hbx.mono hb1.size))
  have hbl2 := hid hbx
  have hx2 := hid (fun (W : World) (h : Below w2.heap.size w2 W) => ho2.slc.mono h (Nat.le_refl _))
  obtain ⟨a2, c2, rfl, _⟩ := ho2.slc.shape
  clear ho2
  go_wp2_with fail
  refine (cto.out w2 hbl2.out).mono ?_; rintro e w3 ⟨rfl, hbx⟩
  have hb3 := hid (hb2.out.trans (hbx.mono hb2.out.size))
  have hx3 := hid (fun (W : World) (h : Below w3.heap.size w3 W) => hx2.out W (hbx.trans (h.mono hbx.size)))
  clear hbx hx2 hbl2 cto cfo
  cases hok : treeOk l with
  | false =>
    have h0 : ((List.length (foldOf l) : Nat) : Int) = 0 := by rw [hfl hok]; rfl
    have h00 : (((List.length (foldOf l) : Nat) : Int) == 0) = true := by rw [h0]; rfl
    clear hfk hfl hx3 hok ff1 ff2
    generalize List.length (foldOf l) = n0 at *
    clear h0
    go_wp2
    go_ret
    exact ⟨rfl, hb3.out⟩
  | true =>
    obtain ⟨k1, k2⟩ := hfk hok
    clear hfk hfl hok
    have cfo := hid (fun (u : Value) (W : World) (hu : NodeSlc W u (foldOf l)) (hE : EvalEnv W) => implFold_any (foldOf l) u W ff1 ff2 hu hE)
    rw [k2] at cfo
    have cto := hid (fun (u : Value) (W : World) (hu : NodeSlc W u (foldOf l)) => specTreeOk_any (foldOf l) u W ff1 ff2 hu)
    rw [k1] at cto
    have csame := hid (fun (u v : Value) (W : World) (hu : NodeSlc W u (foldOf l)) (hv : NodeSlc W v (foldOf l)) => specSameTree_any (foldOf l) u (foldOf l) v W ff1 ff2 hu ff1 ff2 hv)
    rw [eqNodes_self] at csame
    clear k1 k2 ff1 ff2
    generalize foldOf l = F at *
    go_wp2_with fail
    refine (hdint.out w3 hb3.out).mono ?_; rintro e w4 ⟨n, hn, rfl, hbx⟩
    have hb4 := hid (hb3.out.trans (hbx.mono hb3.out.size))
    have hx4 := hid (fun (W : World) (h : Below w4.heap.size w4 W) => hx3.out W (hbx.trans (h.mono hbx.size)))
    have hni := intsD_range hn
    have hcv := fromNodes_const n
    obtain ⟨fn1, fn2⟩ := fromNodes_fine (n := n)
    clear hbx hx3 hn
    go_wp2_with fail
    refine (implFromInt_any n w4 hni (hE1.out _ hb4.out).2.1).mono ?_; rintro e w5 ⟨v5, rfl, hbx, ho5⟩
    have hb5 := hid (hb4.out.trans (hbx.mono hb4.out.size))
    have hx5 := hid (fun (W : World) (h : Below w5.heap.size w5 W) => hx4.out W (hbx.trans (h.mono hbx.size)))
    have cco := hid (implConstant_any (fromNodes n) v5 w5 fn1 fn2 ho5.slc (hE1.out _ hb5.out))
    obtain ⟨a5, c5, rfl, _⟩ := ho5.slc.shape
    unfold pairEnd at cco
    clear hbx hx4 ho5 fn1 fn2
    generalize (constV (fromNodes n)).1 = cv at *
    generalize (constV (fromNodes n)).2 = cb at *
    generalize List.length (fromNodes n) = nl at *
    go_wp2_with fail
    refine cco.out.mono ?_; rintro e w6 ⟨rfl, hbx⟩
    have hb6 := hid (hb5.out.trans (hbx.mono hb5.out.size))
    have hx6 := hid (fun (W : World) (h : Below w6.heap.size w6 W) => hx5.out W (hbx.trans (h.mono hbx.size)))
    clear hbx hx5 cco
    go_wp2_with fail
    refine (hdnum.out w6 hb6.out).mono ?_; rintro e w7 ⟨rfl, hbx⟩
    have hb7 := hid (hb6.out.trans (hbx.mono hb6.out.size))
    have hx7 := hid (fun (W : World) (h : Below w7.heap.size w7 W) => hx6.out W (hbx.trans (h.mono hbx.size)))
    have hXs := numeralX_small bs
    clear hbx hx6
    have hdn := hid (fun (W : World) (hb : Below w.heap.size w W) => (hdnum.out W hb))
    clear hdnum
    generalize numeralX bs = X at *
    have cnu := hid (implNumeral_any X w7 (by omega) (hE1.out _ hb7.out).2)
    rw [numeralEnd_kf] at cnu
    have hK := numF_dec (s := X)
    generalize numK X = kk at *
    generalize numF X = kf at *
    go_wp2_with fail
    refine cnu.out.mono ?_; rintro e w8 ⟨rfl, hbx⟩
    have hb8 := hid (hb7.out.trans (hbx.mono hb7.out.size))
    have hx8 := hid (fun (W : World) (h : Below w8.heap.size w8 W) => hx7.out W (hbx.trans (h.mono hbx.size)))
    clear hbx hx7 cnu
    have hH := hid hK
    have hC := hid hcv
    clear hK hcv
    go_wp2_with fail
    refine (cfo.out _ w8 (hx8.out _ (Below.refl _ _)) (hE1.out _ hb8.out)).mono ?_; rintro e w9 ⟨v9, rfl, hbx, ho9⟩
    have hb9 := hid (hb8.out.trans (hbx.mono hb8.out.size))
    have hx9 := hid (fun (W : World) (h : Below w9.heap.size w9 W) => hx8.out W (hbx.trans (h.mono hbx.size)))
    have cs9 := hid (csame.out _ _ w9 ho9.slc (hx9.out _ (Below.refl _ _)))
    obtain ⟨a9, c9, rfl, _⟩ := ho9.slc.shape
    clear hbx ho9 hx8 cfo
    go_wp2_with fail
    refine cs9.out.mono ?_; rintro e w10 ⟨rfl, hbx⟩
    have hb10 := hid (hb9.out.trans (hbx.mono hb9.out.size))
    have hx10 := hid (fun (W : World) (h : Below w10.heap.size w10 W) => hx9.out W (hbx.trans (h.mono hbx.size)))
    clear hbx cs9 hx9 csame
    go_wp2_with fail
    refine (cto.out _ w10 (hx10.out _ (Below.refl _ _))).mono ?_; rintro e w11 ⟨rfl, hbx⟩
    have hb11 := hid (hb10.out.trans (hbx.mono hb10.out.size))
    clear hbx hx10 cto
    obtain ⟨q1, q2⟩ := hC.out
    clear hC
    have q3 : cb = (decide (n > -1000000000) && decide (n < 1000000000)) := by rw [q1]; simp
    clear q1
    have q4 := hid q3
    clear q3 hdint
    cases cb with
    | true =>
      obtain rfl := q2 rfl
      have hd := q4.out.symm
      simp only [Bool.and_eq_true, decide_eq_true_eq] at hd
      obtain ⟨hd1, hd2⟩ := hd
      have hd3 : -1000000000 < cv := hd1
      cases kf with
      | false =>
        go_wp2
        go_ret
        exact ⟨rfl, hb11.out⟩
      | true =>
        obtain ⟨h0, h1, h2⟩ := hH.out rfl
        replace h2 := hid h2
        go_wp2_with fail
        refine (implDec_any kk w11 (by omega) (by omega) (hE1.out _ hb11.out).2.1).mono ?_; rintro e w12 ⟨rfl, hbx⟩
        rw [h2.out]
        have hb12 := hid (hb11.out.trans (hbx.mono hb11.out.size))
        clear hbx
        go_wp2_with fail
        refine (hdn.out w12 hb12.out).mono ?_; rintro e w13 ⟨rfl, hbx⟩
        have hb13 := hid (hb12.out.trans (hbx.mono hb12.out.size))
        clear hbx
        go_wp2
        go_ret
        exact ⟨rfl, hb13.out⟩
    | false =>
      have hd := q4.out.symm
      clear q2
      by_cases hd1 : -1000000000 < n
      · have hd2 : ¬ n < 1000000000 := by
          intro h
          rw [decide_eq_true (show n > -1000000000 from hd1), decide_eq_true h] at hd
          cases hd
        clear hd
        cases kf with
        | false =>
          go_wp2
          go_ret
          exact ⟨rfl, hb11.out⟩
        | true =>
          obtain ⟨h0, h1, h2⟩ := hH.out rfl
          replace h2 := hid h2
          go_wp2_with fail
          refine (implDec_any kk w11 (by omega) (by omega) (hE1.out _ hb11.out).2.1).mono ?_; rintro e w12 ⟨rfl, hbx⟩
          rw [h2.out]
          have hb12 := hid (hb11.out.trans (hbx.mono hb11.out.size))
          clear hbx
          go_wp2_with fail
          refine (hdn.out w12 hb12.out).mono ?_; rintro e w13 ⟨rfl, hbx⟩
          have hb13 := hid (hb12.out.trans (hbx.mono hb12.out.size))
          clear hbx
          go_wp2
          go_ret
          exact ⟨rfl, hb13.out⟩
      · clear hd
        cases kf with
        | false =>
          go_wp2
          go_ret
          exact ⟨rfl, hb11.out⟩
        | true =>
          obtain ⟨h0, h1, h2⟩ := hH.out rfl
          replace h2 := hid h2
          go_wp2_with fail
          refine (implDec_any kk w11 (by omega) (by omega) (hE1.out _ hb11.out).2.1).mono ?_; rintro e w12 ⟨rfl, hbx⟩
          rw [h2.out]
          have hb12 := hid (hb11.out.trans (hbx.mono hb11.out.size))
          clear hbx
          go_wp2_with fail
          refine (hdn.out w12 hb12.out).mono ?_; rintro e w13 ⟨rfl, hbx⟩
          have hb13 := hid (hb12.out.trans (hbx.mono hb12.out.size))
          clear hbx
          go_wp2
          go_ret
          exact ⟨rfl, hb13.out⟩
end Go.Proofs.YtmemgmcopnaogaaGreatDoor
