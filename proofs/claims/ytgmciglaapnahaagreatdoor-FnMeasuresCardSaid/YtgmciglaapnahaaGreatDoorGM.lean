/- Walks and lemmas of this seat (FDepth3): what each theorem says of the functions that it names. Conditions: those that each theorem states. -/
import Derived.Test.YtgmciglaapnahaaGreatDoorGD
import Derived.Test.YtgmciglaapnahaaGreatDoorGV
import Derived.Test.YtgmciglaapnahaaGreatDoorGE
import Derived.Test.YtgmciglaapnahaaGreatDoorGH
import Derived.Test.YtgmciglaapnahaaGreatDoorGN
namespace Go.Proofs.YtgmciglaapnahaaGreatDoor
set_option linter.unusedVariables false
set_option linter.unusedSimpArgs false
open Go.RowKit

set_option maxRecDepth 100000 in
theorem implDepthOf_any (l0 : List Node) (v0 : Value) (w : World) (hx0 : ∀ x ∈ l0, x.Ok) (hn0 : bulk Node.sizes l0 ≤ 1048576) (hv0 : NodeSlc w v0 l0) :
    Calls Tryz.prog 119 #[v0] w fun e w' => e = .returned (.int .i64 ((depthOf l0 : Nat))) ∧ Below w.heap.size w w' := by
  have hsh := implShapeOk_any l0 v0 w hx0 hn0 hv0
  have hv := hv0
  obtain ⟨a, cap, rfl, hm, hc, hsl⟩ := hv0.shape
  by_cases hok : shapeOk (l0.map Node.kids) = true
  · have hR : Hid (depthOf l0 = (rootTree l0).depth) := hid (by unfold depthOf; rw [if_pos hok])
    obtain ⟨h1, h2, _⟩ := shapeOk_yes hok
    have hbd : (rootTree l0).depth ≤ 1048576 := by have := treeIx_depth_le (shapeOk_ahead hok) (l0.length - 1) (by omega); unfold rootTree; omega
    have hroot := hid (fun W (hb : Below w.heap.size w W) => implrootOf_any l0 _ W hx0 hn0 (hv.mono hb (Nat.le_refl _)) hok)
    rw [hok] at hsh
    replace hok := hid hok
    go_enter Tryz.func119, Tryz.ntmps119
    go_wp2_with fail
    refine hsh.mono ?_; rintro e w1 ⟨rfl, hb1⟩
    clear hsh
    go_wp2_with fail
    refine (hroot.out _ hb1).mono ?_; rintro e w2 ⟨ka, kn, kc, rfl, hb2, ht2⟩
    go_wp2_with fail
    refine (impldepth_any _ (rootTree l0) _ _ _ (Nat.lt_succ_self _) hbd ht2).mono ?_; rintro e w3 ⟨rfl, hb3⟩
    generalize (rootTree l0).depth = val at hR ⊢
    go_wp2
    go_ret
    exact ⟨ret_int (by rw [hR.out]), (hb1.trans (hb2.mono hb1.size)).trans (hb3.mono (Nat.le_trans hb1.size hb2.size))⟩
  · have hR : Hid (depthOf l0 = 0) := hid (by unfold depthOf; rw [if_neg hok])
    have hok : shapeOk (l0.map Node.kids) = false := by simpa using hok
    rw [hok] at hsh
    clear hok
    go_enter Tryz.func119, Tryz.ntmps119
    go_wp2_with fail
    refine hsh.mono ?_; rintro e w1 ⟨rfl, hb1⟩
    clear hsh
    go_wp2
    go_ret
    exact ⟨ret_int (by rw [hR.out]; rfl), hb1⟩
theorem depthOf_le (l : List Node) : depthOf l ≤ 1048576 := by
  unfold depthOf
  split
  · rename_i hok
    obtain ⟨h1, h2, _⟩ := shapeOk_yes hok
    have := treeIx_depth_le (shapeOk_ahead hok) (l.length - 1) (by omega)
    unfold rootTree
    omega
  · omega

end Go.Proofs.YtgmciglaapnahaaGreatDoor
/- Walks and lemmas of this seat (FBlockDepth2): what each theorem says of the functions that it names. Conditions: those that each theorem states. -/
namespace Go.Proofs.YtgmciglaapnahaaGreatDoor
set_option linter.unusedVariables false
set_option linter.unusedSimpArgs false
open Go.RowKit

def depthsTo (l : List Node) (k : Nat) : List Nat := (List.range k).map fun i => (treeIx l i).blocks
theorem depthsTo_len (l : List Node) (k : Nat) : (depthsTo l k).length = k := by simp [depthsTo]
theorem depthsTo_succ (l : List Node) (k : Nat) : depthsTo l (k + 1) = depthsTo l k ++ [(treeIx l k).blocks] := by simp [depthsTo, List.range_succ]
theorem depthsTo_get (l : List Node) {k j : Nat} (h : j < k) : (depthsTo l k).getD j 0 = (treeIx l j).blocks := by
  simp [depthsTo, List.getD_eq_getElem?_getD, h]

set_option maxRecDepth 100000 in
set_option maxHeartbeats 1600000 in
theorem specBlockDepth_any (l0 : List Node) (v0 : Value) (w : World) (hx0 : ∀ x ∈ l0, x.Ok) (hn0 : bulk Node.sizes l0 ≤ 1048576) (hv0 : NodeSlc w v0 l0) :
    Calls Tryz.prog 126 #[v0] w fun e w' => e = .returned (.int .i64 ((blockDepth l0 : Nat))) ∧ Below w.heap.size w w' := by
  have hsh := specShapeOk_any l0 v0 w hx0 hn0 hv0
  have hv := hv0
  obtain ⟨a, cap, rfl, hm, hc, hsl⟩ := hv0.shape
  by_cases hok : shapeOk (l0.map Node.kids) = true
  · have hR : Hid (blockDepth l0 = (rootTree l0).blocks) := hid (by unfold blockDepth; rw [if_pos hok])
    obtain ⟨h1, h2, _⟩ := shapeOk_yes hok
    have hah := hid (shapeOk_ahead hok)
    have hble := hid (treeIx_blocks_le (shapeOk_ahead hok))
    obtain ⟨i0, hi, hz0, hz1, hz2⟩ := info_parts Tryz.info3
    rw [hok] at hsh
    clear hok
    go_enter Tryz.func126, Tryz.ntmps126
    go_wp2_with fail
    refine hsh.mono ?_; rintro e w1 ⟨rfl, hb1⟩
    clear hsh
    have hbs1 := hb1.size
    go_wp2
    go_loopw [3, 4] (fun v i wr => ∃ (k : Nat), i = .int .i64 k ∧ k ≤ l0.length ∧ Below w.heap.size w wr ∧ wr.ownsRow w.heap.size 3 1 v (depthsTo l0 k).length ((depthsTo l0 k).flatMap nat1)) (fun _ i _ => l0.length - (intOf i).toNat)
    case atStart => exact ⟨0, rfl, by omega, hb1.alloc hb1.size _, own_base (own_new0 _ _ _) hb1.size⟩
    clear hb1
    obtain ⟨k, rfl, hk, hb, hown⟩ := hrel
    have hbs := hb.size
    have hdl := depthsTo_len l0 k
    by_cases hlt : k < l0.length
    · generalize hout : depthsTo l0 k = out at hown hdl
      replace hout := hid hout
      obtain ⟨x, ka, kc, b, off, hx, rfl, c0, c1, c2, c3, c4, hkd⟩ := hsl.at hb (Nat.le_refl _) hlt
      have hti := hid (show (treeIx l0 k).blocks = _ from (congrArg Tree.blocks (treeIx_eq hah.out hx)).trans (by rw [Tree.blocks]))
      have hkx := hid (hah.out k x hx)
      have hxo := hx0 x (List.mem_of_getElem? hx)
      clear hx
      obtain ⟨_, _, _, hkv, hkc, hkm, hkrow⟩ := hkd
      simp at hkv
      obtain ⟨rfl, rfl⟩ := hkv
      unfold Node.Ok at hxo
      obtain ⟨_, _, _, _, hki, hkl⟩ := hxo
      unfold maxLen at hkm hkl
      clear hki
      replace hdl := hid hdl
      go_wp2
      go_loop [5, 6] (fun n_ j => ∃ (q m : Nat), j = .int .i64 q ∧ q ≤ x.kids.length ∧ n_ = .int .i64 m ∧ m ≤ k ∧ Hid (Tree.blocksL (x.kids.map fun k => treeIx l0 k.toNat) = max m (Tree.blocksL ((x.kids.drop q).map fun k => treeIx l0 k.toNat)))) (fun _ j => x.kids.length - (intOf j).toNat)
      case atStart => exact ⟨0, 0, rfl, by omega, rfl, by omega, hid (by rw [List.drop_zero]; omega)⟩
      obtain ⟨q, m, rfl, hq, rfl, hmk, hrel⟩ := hrel
      by_cases hql : q < x.kids.length
      · obtain ⟨kid, hkid⟩ := get_of_lt hql
        obtain ⟨kb, koff, rfl, hkro⟩ := slc_some hkrow (by omega)
        have d0 := hkro.one int1_len hkid rfl
        obtain ⟨hk0, hkj⟩ := hkx.out kid (List.mem_of_getElem? hkid)
        obtain ⟨j, rfl⟩ : ∃ j : Nat, kid = (j : Int) := ⟨kid.toNat, by omega⟩
        have hj : j < k := by omega
        rw [drop_cons hkid, List.map_cons, Tree.blocksL] at hrel
        have hrel2 : Hid (Tree.blocksL (x.kids.map fun k => treeIx l0 k.toNat) = max m (max (treeIx l0 j).blocks (Tree.blocksL ((x.kids.drop (q + 1)).map fun k => treeIx l0 k.toNat)))) := hrel
        clear hkid hkro hk0 hkj hrel
        obtain ⟨g, cp, rfl, hcp⟩ := own_slice' hown (by have := hdl.out; omega)
        have r0 := own_read hown (nat1_at (show j < out.length by have := hdl.out; omega))
        rw [← hout.out, depthsTo_get l0 hj] at r0
        have hbj := hble.out j (by omega)
        generalize (treeIx l0 j).blocks = pb at r0 hrel2 hbj
        have hown2 := hid hown
        have hjl : j < out.length := by have := hdl.out; omega
        generalize out.length = dl at *
        clear hown
        go_wp2
        all_goals go_round
        all_goals first
          | (simp [intOf]; omega)
          | (refine ⟨q + 1, max m pb, by go_num, by omega, ?_, by omega, hid (by rw [hrel2.out]; omega)⟩
             first
               | rfl
               | (congr 1; omega)
               | (by_cases hcm : m < pb
                  · rw [if_pos (by omega), Nat.max_eq_right (by omega)]
                  · rw [if_neg (by omega), Nat.max_eq_left (by omega)]))
      · have hR2 : Hid (Tree.blocksL (x.kids.map fun k => treeIx l0 k.toNat) = m) := hid (by rw [hrel.out, List.drop_of_length_le (by omega), List.map_nil, Tree.blocksL]; omega)
        have hol2 : out.length ≤ 1048576 := by have := hdl.out; omega
        clear hrel
        by_cases h33 : x.kind = 33
        · have hB : Hid ((treeIx l0 k).blocks = m + 1) := hid (by rw [hti.out, hR2.out, if_pos h33])
          go_wp2_with (at_builtin; refine wpList_append_own _ rfl _ _ 31 rfl w.heap.size 3 i0 _ 1 8 Tryz.underlying31 hi hz0 hz1 hz2 rfl (by decide) _ out.length (out.flatMap nat1) rfl (hown.alloc _) _ _ _ (nat1 (m + 1)) rfl rfl (new_cells_at _ _ _ _ _ rfl (by first | rfl | simp)) (by intro u hu; simp [nat1] at hu; rcases hu with rfl | rfl | rfl | rfl | rfl <;> rfl) (by unfold maxLen; omega) (by omega) (by first | omega | (simp; done) | (simp; omega)) ?_; intro v2 w2 hown2 hgr2 hiff; clear hiff; have hb2 := app_below (hb.alloc (by first | omega | (simp; done) | (simp; omega)) _) (hown.alloc _) hgr2)
          all_goals go_roundw
          all_goals first
            | (simp [intOf]; omega)
            | exact ⟨k + 1, by go_num, by omega, hb2, by rw [depthsTo_succ, hout.out, hB.out]; simpa using hown2⟩
        · have hB : Hid ((treeIx l0 k).blocks = m) := hid (by rw [hti.out, hR2.out, if_neg h33]; rfl)
          go_wp2_with (at_builtin; refine wpList_append_own _ rfl _ _ 31 rfl w.heap.size 3 i0 _ 1 8 Tryz.underlying31 hi hz0 hz1 hz2 rfl (by decide) _ out.length (out.flatMap nat1) rfl (hown.alloc _) _ _ _ (nat1 m) rfl rfl (new_cells_at _ _ _ _ _ rfl (by first | rfl | simp)) (by intro u hu; simp [nat1] at hu; rcases hu with rfl | rfl | rfl | rfl | rfl <;> rfl) (by unfold maxLen; omega) (by omega) (by first | omega | (simp; done) | (simp; omega)) ?_; intro v2 w2 hown2 hgr2 hiff; clear hiff; have hb2 := app_below (hb.alloc (by first | omega | (simp; done) | (simp; omega)) _) (hown.alloc _) hgr2)
          all_goals go_roundw
          all_goals first
            | (simp [intOf]; omega)
            | exact ⟨k + 1, by go_num, by omega, hb2, by rw [depthsTo_succ, hout.out, hB.out]; simpa using hown2⟩
    · obtain rfl : k = l0.length := by omega
      obtain ⟨n', hn'⟩ : ∃ n', n' = l0.length - 1 := ⟨_, rfl⟩
      obtain ⟨g, cp, rfl, hcp⟩ := own_slice' hown (by omega)
      have r0 := own_read hown (nat1_at (show n' < (depthsTo l0 l0.length).length by omega))
      rw [depthsTo_get l0 (by omega)] at r0
      have hR3 : Hid (blockDepth l0 = (treeIx l0 n').blocks) := hid (by rw [hR.out]; unfold rootTree; rw [hn'])
      have hv1 : (l0.length : Int) - 1 = (n' : Int) := by omega
      have hi1 : n' < (depthsTo l0 l0.length).length := by omega
      have hi2 : (n' : Int) < ((depthsTo l0 l0.length).length : Int) := by omega
      generalize (treeIx l0 n').blocks = val at r0 hR3
      replace hn' := hid hn'
      generalize (depthsTo l0 l0.length).length = dl at *
      clear hown hdl
      go_wp2
      go_ret
      exact ⟨ret_int (by rw [hR3.out]), hb⟩
  · have hR : Hid (blockDepth l0 = 0) := hid (by unfold blockDepth; rw [if_neg hok])
    have hok : shapeOk (l0.map Node.kids) = false := by simpa using hok
    rw [hok] at hsh
    clear hok
    go_enter Tryz.func126, Tryz.ntmps126
    go_wp2_with fail
    refine hsh.mono ?_; rintro e w1 ⟨rfl, hb1⟩
    clear hsh
    go_wp2
    go_ret
    exact ⟨ret_int (by rw [hR.out]; rfl), hb1⟩

end Go.Proofs.YtgmciglaapnahaaGreatDoor
/- Walks and lemmas of this seat (FMeasure): what each theorem says of the functions that it names. Conditions: those that each theorem states. -/
namespace Go.Proofs.YtgmciglaapnahaaGreatDoor
set_option linter.unusedVariables false
set_option linter.unusedSimpArgs false
open Go.RowKit Go.Lib

def decN (n : Nat) : ByteArray := ⟨(itoa (n : Int)).toArray⟩
/-- The measures of a tree, in words. -/
def measureText (n d b s r : ByteArray) : ByteArray :=
  (⟨#[110, 111, 100, 101, 115, 32]⟩ : ByteArray) ++ n ++ (⟨#[32, 100, 101, 112, 116, 104, 32]⟩ : ByteArray) ++ d ++ (⟨#[32, 98, 108, 111, 99, 107, 115, 32]⟩ : ByteArray) ++ b ++ (⟨#[32, 115, 116, 97, 116, 101, 109, 101, 110, 116, 115, 32]⟩ : ByteArray) ++ s ++ (⟨#[32, 98, 114, 97, 110, 99, 104, 101, 115, 32]⟩ : ByteArray) ++ r
def measureOf (l : List Node) : ByteArray := if treeOk l = true then measureText (decN l.length) (decN (depthOf l)) (decN (blockDepth l)) (decN (l.countP isStatementB)) (decN (l.countP isBranchB)) else ⟨#[]⟩
theorem blockDepth_le (l : List Node) : blockDepth l ≤ 1048576 := by
  unfold blockDepth
  split
  · rename_i hok
    obtain ⟨h1, h2, _⟩ := shapeOk_yes hok
    have := treeIx_blocks_le (shapeOk_ahead hok) (l.length - 1) (by omega)
    unfold rootTree
    omega
  · omega
theorem dec_size (n : Nat) (h : n ≤ 1048576) : (decN n).size ≤ 9 := by
  show (itoa (n : Int)).length ≤ 9
  rw [itoa_nonneg, decDigits_length]
  exact nD_of_lt (by omega) (by omega)

/-- What the program's side of Measure reads: its words and the table of powers. -/
def MeasEnv (w : World) : Prop := WordEnv w ∧ PowEnv w
theorem MeasEnv.below {w w' : World} (h : MeasEnv w) (hb : Below w.heap.size w w') : MeasEnv w' := ⟨h.1.below hb, h.2.below hb⟩

set_option maxRecDepth 100000 in
set_option maxHeartbeats 3200000 in
theorem implMeasure_any (l0 : List Node) (v0 : Value) (w : World) (hx0 : ∀ x ∈ l0, x.Ok) (hn0 : bulk Node.sizes l0 ≤ 1048576) (hv0 : NodeSlc w v0 l0) (hE : MeasEnv w) :
    Calls Tryz.prog 41 #[v0] w fun e w' => e = .returned (.string (measureOf l0)) ∧ Below w.heap.size w w' := by
  have hlen := length_bulk Node.sizes l0
  have htree := hid fun W (hb : Below w.heap.size w W) => implTreeOk_any l0 v0 W hx0 hn0 (hv0.mono hb (Nat.le_refl _)) (hE.1.below hb)
  have hdep := hid fun W (hb : Below w.heap.size w W) => implDepthOf_any l0 v0 W hx0 hn0 (hv0.mono hb (Nat.le_refl _))
  have hblk := hid fun W (hb : Below w.heap.size w W) => implBlockDepth_any l0 v0 W hx0 hn0 (hv0.mono hb (Nat.le_refl _))
  have hsta := hid fun W (hb : Below w.heap.size w W) => implStatements_any l0 v0 W hx0 hn0 (hv0.mono hb (Nat.le_refl _))
  have hbra := hid fun W (hb : Below w.heap.size w W) => implBranches_any l0 v0 W hx0 hn0 (hv0.mono hb (Nat.le_refl _))
  have hdec := hid fun (n : Nat) (hn : n ≤ 1048576) W (hb : Below w.heap.size w W) => implDec_any (n : Int) W (by omega) (by omega) (hE.2.below hb)
  obtain ⟨a, cap, rfl, hm, hc, hsl⟩ := hv0.shape
  clear hsl hv0 hE
  have hR : measureOf l0 = if treeOk l0 = true then measureText (decN l0.length) (decN (depthOf l0)) (decN (blockDepth l0)) (decN (l0.countP isStatementB)) (decN (l0.countP isBranchB)) else ⟨#[]⟩ := rfl
  have hd := depthOf_le l0
  have hbl := blockDepth_le l0
  have hs := List.countP_le_length (p := isStatementB) (l := l0)
  have hbb := List.countP_le_length (p := isBranchB) (l := l0)
  generalize depthOf l0 = dd at *
  generalize blockDepth l0 = bb at *
  generalize l0.countP isStatementB = ss at *
  generalize l0.countP isBranchB = rr at *
  generalize l0.length = n at *
  generalize measureOf l0 = ans at *
  have hn1 : n ≤ 1048576 := by omega
  have hs1 : ss ≤ 1048576 := by omega
  have hb1 : rr ≤ 1048576 := by omega
  have z1 : (itoa (n : Int)).length ≤ 9 := dec_size n hn1
  have z2 : (itoa (dd : Int)).length ≤ 9 := dec_size dd hd
  have z3 : (itoa (bb : Int)).length ≤ 9 := dec_size bb hbl
  have z4 : (itoa (ss : Int)).length ≤ 9 := dec_size ss hs1
  have z5 : (itoa (rr : Int)).length ≤ 9 := dec_size rr hb1
  by_cases hok : treeOk l0 = true
  · rw [hok] at htree
    rw [if_pos hok] at hR
    replace hR := hid hR
    clear hok hx0 hn0 hlen hs hbb
    go_enter Tryz.func41, Tryz.ntmps41
    go_wp2_with fail
    refine (htree.out _ (Below.refl _ _)).mono ?_; rintro e w1 ⟨rfl, hB⟩
    clear htree
    go_wp2_with (first | (go_at_call 119; refine (hdep.out _ hB).mono ?_; rintro e w9 ⟨rfl, hq⟩; replace hB := hB.trans (hq.mono hB.size); clear hq) | (go_at_call 45; refine (hblk.out _ hB).mono ?_; rintro e w9 ⟨rfl, hq⟩; replace hB := hB.trans (hq.mono hB.size); clear hq) | (go_at_call 44; refine (hsta.out _ hB).mono ?_; rintro e w9 ⟨rfl, hq⟩; replace hB := hB.trans (hq.mono hB.size); clear hq) | (go_at_call 43; refine (hbra.out _ hB).mono ?_; rintro e w9 ⟨rfl, hq⟩; replace hB := hB.trans (hq.mono hB.size); clear hq) | (go_at_call 62; refine (hdec.out _ (by assumption) _ hB).mono ?_; rintro e w9 ⟨rfl, hq⟩; replace hB := hB.trans (hq.mono hB.size); clear hq))
    go_ret
    exact ⟨by rw [hR.out]; rfl, hB⟩
  · have hok : treeOk l0 = false := by simpa using hok
    rw [hok] at htree hR
    replace hR := hid hR
    clear hok hx0 hn0 hlen hs hbb
    go_enter Tryz.func41, Tryz.ntmps41
    go_wp2_with fail
    refine (htree.out _ (Below.refl _ _)).mono ?_; rintro e w1 ⟨rfl, hB⟩
    go_wp2
    go_ret
    exact ⟨by rw [hR.out]; rfl, hB⟩

set_option maxRecDepth 100000 in
set_option maxHeartbeats 3200000 in
theorem specMeasure_any (l0 : List Node) (v0 : Value) (w : World) (hx0 : ∀ x ∈ l0, x.Ok) (hn0 : bulk Node.sizes l0 ≤ 1048576) (hv0 : NodeSlc w v0 l0) :
    Calls Tryz.prog 46 #[v0] w fun e w' => e = .returned (.string (measureOf l0)) ∧ Below w.heap.size w w' := by
  have hlen := length_bulk Node.sizes l0
  have htree := hid fun W (hb : Below w.heap.size w W) => specTreeOk_any l0 v0 W hx0 hn0 (hv0.mono hb (Nat.le_refl _))
  have hdep := hid fun W (hb : Below w.heap.size w W) => specDepthOf_any l0 v0 W hx0 hn0 (hv0.mono hb (Nat.le_refl _))
  have hblk := hid fun W (hb : Below w.heap.size w W) => specBlockDepth_any l0 v0 W hx0 hn0 (hv0.mono hb (Nat.le_refl _))
  have hsta := hid fun W (hb : Below w.heap.size w W) => specStatements_any l0 v0 W hx0 hn0 (hv0.mono hb (Nat.le_refl _))
  have hbra := hid fun W (hb : Below w.heap.size w W) => specBranches_any l0 v0 W hx0 hn0 (hv0.mono hb (Nat.le_refl _))
  have hdec := hid fun (n : Nat) (hn : n ≤ 1048576) W (hb : Below w.heap.size w W) => specDec_any (n : Int) W (by omega) (by omega)
  obtain ⟨a, cap, rfl, hm, hc, hsl⟩ := hv0.shape
  clear hsl hv0
  have hR : measureOf l0 = if treeOk l0 = true then measureText (decN l0.length) (decN (depthOf l0)) (decN (blockDepth l0)) (decN (l0.countP isStatementB)) (decN (l0.countP isBranchB)) else ⟨#[]⟩ := rfl
  have hd := depthOf_le l0
  have hbl := blockDepth_le l0
  have hs := List.countP_le_length (p := isStatementB) (l := l0)
  have hbb := List.countP_le_length (p := isBranchB) (l := l0)
  generalize depthOf l0 = dd at *
  generalize blockDepth l0 = bb at *
  generalize l0.countP isStatementB = ss at *
  generalize l0.countP isBranchB = rr at *
  generalize l0.length = n at *
  generalize measureOf l0 = ans at *
  have hn1 : n ≤ 1048576 := by omega
  have hs1 : ss ≤ 1048576 := by omega
  have hb1 : rr ≤ 1048576 := by omega
  have z1 : (itoa (n : Int)).length ≤ 9 := dec_size n hn1
  have z2 : (itoa (dd : Int)).length ≤ 9 := dec_size dd hd
  have z3 : (itoa (bb : Int)).length ≤ 9 := dec_size bb hbl
  have z4 : (itoa (ss : Int)).length ≤ 9 := dec_size ss hs1
  have z5 : (itoa (rr : Int)).length ≤ 9 := dec_size rr hb1
  by_cases hok : treeOk l0 = true
  · rw [hok] at htree
    rw [if_pos hok] at hR
    replace hR := hid hR
    clear hok hx0 hn0 hlen hs hbb
    go_enter Tryz.func46, Tryz.ntmps46
    go_wp2_with fail
    refine (htree.out _ (Below.refl _ _)).mono ?_; rintro e w1 ⟨rfl, hB⟩
    clear htree
    go_wp2_with (first | (go_at_call 116; refine (hdep.out _ hB).mono ?_; rintro e w9 ⟨rfl, hq⟩; replace hB := hB.trans (hq.mono hB.size); clear hq) | (go_at_call 126; refine (hblk.out _ hB).mono ?_; rintro e w9 ⟨rfl, hq⟩; replace hB := hB.trans (hq.mono hB.size); clear hq) | (go_at_call 127; refine (hsta.out _ hB).mono ?_; rintro e w9 ⟨rfl, hq⟩; replace hB := hB.trans (hq.mono hB.size); clear hq) | (go_at_call 128; refine (hbra.out _ hB).mono ?_; rintro e w9 ⟨rfl, hq⟩; replace hB := hB.trans (hq.mono hB.size); clear hq) | (go_at_call 95; refine (hdec.out _ (by assumption) _ hB).mono ?_; rintro e w9 ⟨rfl, hq⟩; replace hB := hB.trans (hq.mono hB.size); clear hq))
    go_ret
    exact ⟨by rw [hR.out]; rfl, hB⟩
  · have hok : treeOk l0 = false := by simpa using hok
    rw [hok] at htree hR
    replace hR := hid hR
    clear hok hx0 hn0 hlen hs hbb
    go_enter Tryz.func46, Tryz.ntmps46
    go_wp2_with fail
    refine (htree.out _ (Below.refl _ _)).mono ?_; rintro e w1 ⟨rfl, hB⟩
    go_wp2
    go_ret
    exact ⟨by rw [hR.out]; rfl, hB⟩

end Go.Proofs.YtgmciglaapnahaaGreatDoor
