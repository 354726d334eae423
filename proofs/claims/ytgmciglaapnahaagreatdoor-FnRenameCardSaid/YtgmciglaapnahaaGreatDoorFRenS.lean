/- Walks and lemmas of this seat (FRenS): what each theorem says of the functions that it names. Conditions: those that each theorem states. -/
import Derived.Test.YtgmciglaapnahaaGreatDoorFRenI
import Derived.Test.YtgmciglaapnahaaGreatDoorGB
import Derived.Test.YtgmciglaapnahaaGreatDoorHNodeK
namespace Go.Proofs.YtgmciglaapnahaaGreatDoor
set_option linter.unusedVariables false
set_option linter.unusedSimpArgs false
open Go.RowKit Go.Lib

theorem OwnNode.wide2 {w : World} {lo lo' hi hi' : Nat} {v : Value} {l : List Node} (h : OwnNode w lo hi v l) (hl : lo' ≤ lo) (hh : hi ≤ hi') : OwnNode w lo' hi' v l := by
  obtain ⟨q, h1, h2, h3, h4⟩ := h
  exact ⟨q, h1, h2.wide hl hh, fun p hp => (h3 p hp).wide hl hh, h4⟩
/-- What Rename hands back. -/
def RenPost (l : List Node) (f t : ByteArray) (w : World) (e : Ending) (w' : World) : Prop := ∃ v', e = .returned (.tuple #[v', .bool (renameOkB l t)]) ∧ Below w.heap.size w w' ∧ OwnNode w' w.heap.size w'.heap.size v' (renamed l f t)
theorem renamed_no {l : List Node} {f t : ByteArray} (h : renameOkB l t = false) : renamed l f t = l := by unfold renamed; rw [h]; rfl
theorem renFin {f t : ByteArray} {w5 wr : World} {lo hi g cap : Nat} {q : List (Node × Value)} (h3 : ∀ p ∈ q, OwnIn w5 lo hi 3 1 p.2 p.1.kids.length (p.1.kids.flatMap int1)) (h4 : (Value.slice (some ⟨g, 0, none⟩) q.length cap :: q.map Prod.snd).Pairwise Apart) (hgh : g < hi) (hg : w5.grownBy wr (some g))
    (hrow : wr.ownsRow lo 40 5 (.slice (some ⟨g, 0, none⟩) q.length cap) q.length ((q.map (renP f t)).flatMap Node.cells)) : OwnNode wr lo hi (.slice (some ⟨g, 0, none⟩) q.length cap) ((q.map Prod.fst).map (renameN f t)) := by
  have hap := List.pairwise_cons.1 h4
  refine ⟨q.map (renP f t), by rw [List.map_map, List.map_map]; rfl, ⟨by rw [List.length_map]; exact hrow, fun k hk => by have e : g = k := Option.some.inj hk; omega⟩, fun p hp => ?_, ?_⟩
  · obtain ⟨p0, hp0, rfl⟩ := List.mem_map.1 hp
    have ho := h3 p0 hp0
    refine ⟨ho.1.kept hg ?_, ho.2⟩
    have h5 := hap.1 p0.2 (List.mem_map.2 ⟨p0, hp0, rfl⟩)
    unfold Apart at h5
    rcases h5 with h5 | h5
    · cases h5
    · exact .inr (fun e => h5 e.symm)
  · have e : (q.map (renP f t)).map Prod.snd = q.map Prod.snd := by rw [List.map_map]; rfl
    rw [e]
    exact h4
theorem containsN (PL : List ByteArray) (pv : Value) (s : ByteArray) (W : World) (hn : PL.length ≤ 9223372036854775807) (h : Slc W pv 1 PL.length (PL.flatMap str1)) :
    Calls Tryz.prog 91 #[pv, .string s] W fun e w' => e = .returned (.bool (hasT PL s)) ∧ w' = W := by
  obtain ⟨_, pa, pc, rfl, hc, hm, hrow⟩ := h
  by_cases h0 : PL.length = 0
  · have hP : PL = [] := List.eq_nil_of_length_eq_zero h0
    subst hP
    exact Tryz.slices_Contains_string_empty pa pc s W
  · obtain ⟨b, off, rfl, hro⟩ := hrow.resolve_left h0
    have hhas := Tryz.slices_Contains_string b off PL.length pc PL s W (Nat.le_refl _) hn (fun j hj => by
      obtain ⟨y, hy⟩ := get_of_lt hj
      rw [hro.one str1_len hy rfl, List.getD_eq_getElem?_getD, hy]; rfl)
    have hcon : containsS (PL.take PL.length) s = hasT PL s := by
      rw [List.take_length]; unfold containsS; rw [idx_find, Bool.eq_iff_iff, decide_eq_true_eq, findS_iff]; rfl
    rw [hcon] at hhas
    exact hhas
theorem funcNames_len2 (l : List Node) : (namesOf l).length ≤ 2 * l.length ∧ True := ⟨by
  unfold namesOf
  have h1 := namesT_len (vnames l)
  have h2 := vnames_len l
  omega, trivial⟩

set_option maxRecDepth 100000 in
theorem specl6Copy_any (l0 : List Node) (v0 : Value) (w : World) (hx0 : ∀ x ∈ l0, x.Ok) (hn0 : bulk Node.sizes l0 ≤ 1048576) (hv0 : NodeSlc w v0 l0) :
    Calls Tryz.prog 138 #[v0] w fun e w' => ∃ v', e = .returned v' ∧ Below w.heap.size w w' ∧ OwnNode w' w.heap.size w'.heap.size v' l0 := by
  have hc := specl6Shift_any l0 v0 0 w hx0 hn0 hv0 (fun x hx k hk => by rw [Int.add_zero]; exact (hx0 x hx).2.2.2.2.1 k hk)
  have he : l0.map (Node.shift 0) = l0 := by
    have : Node.shift 0 = id := by funext x; exact Node.shift_zero x
    rw [this, List.map_id]
  rw [he] at hc
  obtain ⟨a, cap, rfl, hm, hcc, hsl⟩ := hv0.shape
  clear hv0 hsl
  go_enter Tryz.func138, Tryz.ntmps138
  go_wp2_with fail
  refine hc.mono ?_; rintro e w3 ⟨v3, rfl, hb3, ho3⟩
  obtain ⟨va, vc, rfl, -⟩ := ho3.slc.shape
  replace ho3 := hid ho3
  go_wp2
  go_ret
  exact ⟨_, rfl, hb3, ho3.out⟩

set_option maxRecDepth 100000 in
set_option maxHeartbeats 6400000 in
theorem specRename_any (l0 : List Node) (v0 : Value) (s1 s2 : ByteArray) (w : World) (hx0 : ∀ x ∈ l0, x.Ok) (hn0 : bulk Node.sizes l0 ≤ 1048576) (hv0 : NodeSlc w v0 l0) (hs1 : s1.size ≤ 1048576) (hs2 : s2.size ≤ 1048576) :
    Calls Tryz.prog 50 #[v0, .string s1, .string s2] w fun e w' => RenPost l0 s1 s2 w e w' := by
  have hv := hv0
  have hlen := length_bulk Node.sizes l0
  have hcopy := specl6Copy_any l0 v0 w hx0 hn0 hv0
  have htree := hid fun W (hb : Below w.heap.size w W) => specTreeOk_any l0 v0 W hx0 hn0 (hv.mono hb (Nat.le_refl _))
  have hname := hid fun W => specNameOk_any s2 W hs2
  have hnam := hid fun W (hb : Below w.heap.size w W) => specNamesOf_any l0 v0 W hx0 hn0 (hv.mono hb (Nat.le_refl _))
  have hfn := hid fun W (hb : Below w.heap.size w W) => specFuncNames_any l0 v0 W hx0 hn0 (hv.mono hb (Nat.le_refl _))
  have hnl : (namesOf l0).length ≤ 4194304 := by have := (funcNames_len2 l0).1; omega
  have hfl : (funcNames l0).length ≤ 4194304 := by have h9 : (funcNames l0).length ≤ (fnames l0).length := namesT_len _; have := fnames_len l0; omega
  have hfind := hid fun (L : List ByteArray) (hL : L.length ≤ 4194304) (lv : Value) W (h : Slc W lv 1 L.length (L.flatMap str1)) => specl3Find_any L lv s2 W hL h
  have hfh := hid fun (L : List ByteArray) => findS_has s2 L
  obtain ⟨a, cap, rfl, hm, hc, hsl⟩ := hv0.shape
  obtain ⟨c, hceq⟩ : ∃ c, c = renameOkB l0 s2 := ⟨_, rfl⟩
  have hcc : c = (treeOk l0 && (nameOkB s2 && (!hasT (namesOf l0) s2 && !hasT (funcNames l0) s2))) := hceq
  have hsh := hid fun (h : treeOk l0 = true) => (shapeOk_yes (treeOk_shape h)).1
  clear hsl hv0
  replace hv := hid hv
  obtain ⟨NL, hNL⟩ : ∃ NL, NL = namesOf l0 := ⟨_, rfl⟩
  obtain ⟨FL, hFL⟩ : ∃ FL, FL = funcNames l0 := ⟨_, rfl⟩
  rw [← hNL, ← hFL] at hcc
  rw [← hNL] at hnl hnam
  rw [← hFL] at hfl hfn
  have hfN := hfh.out NL
  have hfF := hfh.out FL
  have hfiN := hid fun lv W h => hfind.out NL hnl lv W h
  have hfiF := hid fun lv W h => hfind.out FL hfl lv W h
  generalize findS s2 NL 0 = fN at hfN hfiN
  generalize findS s2 FL 0 = fF at hfF hfiF
  clear hfind hfh hNL hFL
  unfold RenPost
  rw [← hceq]
  cases h1 : treeOk l0 with
  | false =>
    have hcf : Hid (c = false) := hid (by rw [hcc, h1]; rfl)
    rw [h1] at htree
    replace hceq := hid hceq
    clear hcc h1 hfN hfF
    go_enter Tryz.func50, Tryz.ntmps50
    go_wp2_with fail
    refine hcopy.mono ?_; rintro e w1 ⟨ov, rfl, hB1, ho1⟩
    obtain ⟨oa, oc, rfl, -⟩ := ho1.slc.shape
    have hO1 := hid ho1
    clear ho1
    go_wp2_with (first | (go_at_call 40; refine (htree.out _ hB1).mono ?_; rintro e wA ⟨rfl, hbA⟩; have hBA := hB1.trans (hbA.mono hB1.size)) | (go_at_call 54; refine (hname.out _).mono ?_; rintro e wB ⟨rfl, hbB⟩; have hBB := hBA.trans (hbB.mono hBA.size)) | (go_at_call 33; refine (hnam.out _ hBB).mono ?_; rintro e wN ⟨nv, rfl, hbN, hoN⟩; have hBN := hBB.trans (hbN.mono hBB.size); have hsN := hid (hfiN.out _ _ (Slc.of_own hoN)); obtain ⟨na, nc, rfl, hnm⟩ := own_slice hoN) | (go_at_call 31; refine (hfn.out _ hBN).mono ?_; rintro e wF ⟨fv, rfl, hbF, hoF⟩; have hBF := hBN.trans (hbF.mono hBN.size); have hsF := hid (hfiF.out _ _ (Slc.of_own hoF)); obtain ⟨fa, fc, rfl, hfm⟩ := own_slice hoF) | (go_at_call 92; first | (refine hsF.out.mono ?_; rintro e w' ⟨rfl, hw9⟩; subst w') | (refine hsN.out.mono ?_; rintro e w' ⟨rfl, hw9⟩; subst w')))
    all_goals go_ret2
    all_goals exact ⟨_, by rw [hcf.out]; rfl, hBA, by rw [renamed_no (by rw [← hceq.out]; exact hcf.out)]; exact OwnNode.wide2 (hO1.out.below hbA (Nat.le_refl _)) (Nat.le_refl _) hbA.size⟩
  | true =>
  cases h2 : nameOkB s2 with
  | false =>
    have hcf : Hid (c = false) := hid (by rw [hcc, h1, h2]; rfl)
    rw [h1] at htree
    rw [h2] at hname
    replace hceq := hid hceq
    clear hcc h1 h2 hfN hfF
    go_enter Tryz.func50, Tryz.ntmps50
    go_wp2_with fail
    refine hcopy.mono ?_; rintro e w1 ⟨ov, rfl, hB1, ho1⟩
    obtain ⟨oa, oc, rfl, -⟩ := ho1.slc.shape
    have hO1 := hid ho1
    clear ho1
    go_wp2_with (first | (go_at_call 40; refine (htree.out _ hB1).mono ?_; rintro e wA ⟨rfl, hbA⟩; have hBA := hB1.trans (hbA.mono hB1.size)) | (go_at_call 54; refine (hname.out _).mono ?_; rintro e wB ⟨rfl, hbB⟩; have hBB := hBA.trans (hbB.mono hBA.size)) | (go_at_call 33; refine (hnam.out _ hBB).mono ?_; rintro e wN ⟨nv, rfl, hbN, hoN⟩; have hBN := hBB.trans (hbN.mono hBB.size); have hsN := hid (hfiN.out _ _ (Slc.of_own hoN)); obtain ⟨na, nc, rfl, hnm⟩ := own_slice hoN) | (go_at_call 31; refine (hfn.out _ hBN).mono ?_; rintro e wF ⟨fv, rfl, hbF, hoF⟩; have hBF := hBN.trans (hbF.mono hBN.size); have hsF := hid (hfiF.out _ _ (Slc.of_own hoF)); obtain ⟨fa, fc, rfl, hfm⟩ := own_slice hoF) | (go_at_call 92; first | (refine hsF.out.mono ?_; rintro e w' ⟨rfl, hw9⟩; subst w') | (refine hsN.out.mono ?_; rintro e w' ⟨rfl, hw9⟩; subst w')))
    all_goals go_ret2
    all_goals exact ⟨_, by rw [hcf.out]; rfl, hBB, by rw [renamed_no (by rw [← hceq.out]; exact hcf.out)]; exact OwnNode.wide2 ((hO1.out.below hbA (Nat.le_refl _)).below hbB (Nat.le_refl _)) (Nat.le_refl _) (Nat.le_trans hbA.size hbB.size)⟩
  | true =>
  cases h3 : hasT NL s2 with
  | true =>
    have hcf : Hid (c = false) := hid (by rw [hcc, h1, h2, h3]; rfl)
    rw [h1] at htree
    rw [h2] at hname
    rw [h3] at hfN
    have hN0 : 0 ≤ fN := of_decide_eq_true hfN
    replace hceq := hid hceq
    clear hcc h1 h2 h3 hfN hfF
    go_enter Tryz.func50, Tryz.ntmps50
    go_wp2_with fail
    refine hcopy.mono ?_; rintro e w1 ⟨ov, rfl, hB1, ho1⟩
    obtain ⟨oa, oc, rfl, -⟩ := ho1.slc.shape
    have hO1 := hid ho1
    clear ho1
    go_wp2_with (first | (go_at_call 40; refine (htree.out _ hB1).mono ?_; rintro e wA ⟨rfl, hbA⟩; have hBA := hB1.trans (hbA.mono hB1.size)) | (go_at_call 54; refine (hname.out _).mono ?_; rintro e wB ⟨rfl, hbB⟩; have hBB := hBA.trans (hbB.mono hBA.size)) | (go_at_call 33; refine (hnam.out _ hBB).mono ?_; rintro e wN ⟨nv, rfl, hbN, hoN⟩; have hBN := hBB.trans (hbN.mono hBB.size); have hsN := hid (hfiN.out _ _ (Slc.of_own hoN)); obtain ⟨na, nc, rfl, hnm⟩ := own_slice hoN) | (go_at_call 31; refine (hfn.out _ hBN).mono ?_; rintro e wF ⟨fv, rfl, hbF, hoF⟩; have hBF := hBN.trans (hbF.mono hBN.size); have hsF := hid (hfiF.out _ _ (Slc.of_own hoF)); obtain ⟨fa, fc, rfl, hfm⟩ := own_slice hoF) | (go_at_call 92; first | (refine hsF.out.mono ?_; rintro e w' ⟨rfl, hw9⟩; subst w') | (refine hsN.out.mono ?_; rintro e w' ⟨rfl, hw9⟩; subst w')))
    all_goals go_ret2
    all_goals exact ⟨_, by rw [hcf.out]; rfl, hBN, by rw [renamed_no (by rw [← hceq.out]; exact hcf.out)]; exact OwnNode.wide2 (((hO1.out.below hbA (Nat.le_refl _)).below hbB (Nat.le_refl _)).below hbN (Nat.le_refl _)) (Nat.le_refl _) (Nat.le_trans (Nat.le_trans hbA.size hbB.size) hbN.size)⟩
  | false =>
  cases h4 : hasT FL s2 with
  | true =>
    have hcf : Hid (c = false) := hid (by rw [hcc, h1, h2, h3, h4]; rfl)
    rw [h1] at htree
    rw [h2] at hname
    rw [h3] at hfN
    rw [h4] at hfF
    have hN0 : ¬ 0 ≤ fN := of_decide_eq_false hfN
    have hF0 : 0 ≤ fF := of_decide_eq_true hfF
    replace hceq := hid hceq
    clear hcc h1 h2 h3 h4 hfN hfF
    go_enter Tryz.func50, Tryz.ntmps50
    go_wp2_with fail
    refine hcopy.mono ?_; rintro e w1 ⟨ov, rfl, hB1, ho1⟩
    obtain ⟨oa, oc, rfl, -⟩ := ho1.slc.shape
    have hO1 := hid ho1
    clear ho1
    go_wp2_with (first | (go_at_call 40; refine (htree.out _ hB1).mono ?_; rintro e wA ⟨rfl, hbA⟩; have hBA := hB1.trans (hbA.mono hB1.size)) | (go_at_call 54; refine (hname.out _).mono ?_; rintro e wB ⟨rfl, hbB⟩; have hBB := hBA.trans (hbB.mono hBA.size)) | (go_at_call 33; refine (hnam.out _ hBB).mono ?_; rintro e wN ⟨nv, rfl, hbN, hoN⟩; have hBN := hBB.trans (hbN.mono hBB.size); have hsN := hid (hfiN.out _ _ (Slc.of_own hoN)); obtain ⟨na, nc, rfl, hnm⟩ := own_slice hoN) | (go_at_call 31; refine (hfn.out _ hBN).mono ?_; rintro e wF ⟨fv, rfl, hbF, hoF⟩; have hBF := hBN.trans (hbF.mono hBN.size); have hsF := hid (hfiF.out _ _ (Slc.of_own hoF)); obtain ⟨fa, fc, rfl, hfm⟩ := own_slice hoF) | (go_at_call 92; first | (refine hsF.out.mono ?_; rintro e w' ⟨rfl, hw9⟩; subst w') | (refine hsN.out.mono ?_; rintro e w' ⟨rfl, hw9⟩; subst w')))
    all_goals go_ret2
    all_goals exact ⟨_, by rw [hcf.out]; rfl, hBF, by rw [renamed_no (by rw [← hceq.out]; exact hcf.out)]; exact OwnNode.wide2 ((((hO1.out.below hbA (Nat.le_refl _)).below hbB (Nat.le_refl _)).below hbN (Nat.le_refl _)).below hbF (Nat.le_refl _)) (Nat.le_refl _) (Nat.le_trans (Nat.le_trans (Nat.le_trans hbA.size hbB.size) hbN.size) hbF.size)⟩
  | false =>
    have hcf : Hid (c = true) := hid (by rw [hcc, h1, h2, h3, h4]; rfl)
    have hl1 := hsh.out h1
    rw [h1] at htree
    rw [h2] at hname
    rw [h3] at hfN
    rw [h4] at hfF
    have hN0 : ¬ 0 ≤ fN := of_decide_eq_false hfN
    have hF0 : ¬ 0 ≤ fF := of_decide_eq_false hfF
    have hren : Hid (renamed l0 s1 s2 = l0.map (renameN s1 s2)) := hid (by unfold renamed; rw [← hceq, hcf.out]; rfl)
    clear hcc h1 h2 h3 h4 hfN hfF hceq
    go_enter Tryz.func50, Tryz.ntmps50
    go_wp2_with fail
    refine hcopy.mono ?_; rintro e w1 ⟨ov, rfl, hB1, ho1⟩
    obtain ⟨q, hq, h2q, h3q, h4q⟩ := ho1
    have hql : q.length = l0.length := by rw [← hq]; simp
    obtain ⟨og, oc, rfl, hoc⟩ := own_slice' h2q.1 (by omega)
    have hgh : og < w1.heap.size := h2q.2 og rfl
    have hgl := (h2q.1.lt og rfl).1
    have hrow1 := hid h2q.1
    replace h3q := hid h3q
    replace h4q := hid h4q
    clear h2q
    have hqz : (q.length : Int) ≤ 9223372036854775807 := by omega
    replace hql := hid hql
    go_wp2_with (first | (go_at_call 40; refine (htree.out _ hB1).mono ?_; rintro e wA ⟨rfl, hbA⟩; have hBA := hB1.trans (hbA.mono hB1.size)) | (go_at_call 54; refine (hname.out _).mono ?_; rintro e wB ⟨rfl, hbB⟩; have hBB := hBA.trans (hbB.mono hBA.size)) | (go_at_call 33; refine (hnam.out _ hBB).mono ?_; rintro e wN ⟨nv, rfl, hbN, hoN⟩; have hBN := hBB.trans (hbN.mono hBB.size); have hsN := hid (hfiN.out _ _ (Slc.of_own hoN)); obtain ⟨na, nc, rfl, hnm⟩ := own_slice hoN) | (go_at_call 31; refine (hfn.out _ hBN).mono ?_; rintro e wF ⟨fv, rfl, hbF, hoF⟩; have hBF := hBN.trans (hbF.mono hBN.size); have hsF := hid (hfiF.out _ _ (Slc.of_own hoF)); obtain ⟨fa, fc, rfl, hfm⟩ := own_slice hoF) | (go_at_call 92; first | (refine hsF.out.mono ?_; rintro e w' ⟨rfl, hw9⟩; subst w') | (refine hsN.out.mono ?_; rintro e w' ⟨rfl, hw9⟩; subst w')))
    have hbF1 : Below w1.heap.size w1 wF := ((hbA.trans (hbB.mono hbA.size)).trans (hbN.mono (Nat.le_trans hbA.size hbB.size))).trans (hbF.mono (Nat.le_trans (Nat.le_trans hbA.size hbB.size) hbN.size))
    have hrowF := own_below hrow1.out hbF1 (Nat.le_refl _)
    have h3F : Hid (∀ p ∈ q, OwnIn wF w.heap.size w1.heap.size 3 1 p.2 p.1.kids.length (p.1.kids.flatMap int1)) := hid fun p hp => (h3q.out p hp).below hbF1 (Nat.le_refl _)
    clear hbA hbB hbN hbF hoN hoF hsN hsF hrow1
    go_loopw [9] (fun i wr => ∃ (k : Nat), i = .int .i64 k ∧ k ≤ q.length ∧ wF.grownBy wr (some og) ∧ wr.ownsRow w.heap.size 40 5 (.slice (some ⟨og, 0, none⟩) q.length oc) q.length ((mixR s1 s2 k q).flatMap Node.cells)) (fun i _ => q.length - (intOf i).toNat)
    case atStart => exact ⟨0, rfl, by omega, grown_refl _ _, by rw [mixR_zero]; exact hrowF⟩
    clear hrowF
    obtain ⟨k, rfl, hk, hgr, hrow⟩ := hrel
    by_cases hlt : k < q.length
    · obtain ⟨⟨x, kv⟩, hx⟩ := get_of_lt hlt
      have hxm := mixR_at (f := s1) (t := s2) hx
      have hnx := mixR_next (f := s1) (t := s2) hx
      have c0 := own_read hrow (by have := flat_get Node.cells 5 Node.len _ k 0 _ (.int .i64 x.kind) hxm rfl; simpa using this : ((mixR s1 s2 k q).flatMap Node.cells)[k * 5]? = some (.int .i64 x.kind))
      have c2 := own_read hrow (flat_get Node.cells 5 Node.len _ k 2 _ (.string x.text) hxm rfl)
      have c3 := own_read hrow (flat_get Node.cells 5 Node.len _ k 3 _ (.string x.other) hxm rfl)
      have z2 := own_froz5 hrow (k * 5 + 2)
      have z3 := own_froz5 hrow (k * 5 + 3)
      have hkz : (k : Int) < (q.length : Int) := by omega
      have hstay : Hid (renameN s1 s2 x = x → wr.ownsRow w.heap.size 40 5 (.slice (some ⟨og, 0, none⟩) q.length oc) q.length ((mixR s1 s2 (k + 1) q).flatMap Node.cells)) := hid (fun e => by
        rw [← hnx]
        unfold renP
        simp only
        rw [e, set_same_gen hxm]
        exact hrow)
      have hS2 := flat_set Node.cells 5 Node.len _ k (x, kv) (⟨x.kind, x.op, s2, x.other, x.kids⟩, kv) 2 (.string s2) hxm (by omega) rfl
      have hS3 := flat_set Node.cells 5 Node.len _ k (x, kv) (⟨x.kind, x.op, x.text, s2, x.kids⟩, kv) 3 (.string s2) hxm (by omega) rfl
      have hxm2 : ((mixR s1 s2 k q).set k (⟨x.kind, x.op, s2, x.other, x.kids⟩, kv))[k]? = some (⟨x.kind, x.op, s2, x.other, x.kids⟩, kv) := by rw [List.getElem?_set, if_pos rfl, if_pos (by rw [mixR_len]; omega)]
      have hS23 := flat_set Node.cells 5 Node.len _ k _ (⟨x.kind, x.op, s2, s2, x.kids⟩, kv) 3 (.string s2) hxm2 (by omega) rfl
      rw [List.set_set] at hS23
      have ho2 := hrow.stored (k * 5 + 2) (.string s2)
      rw [hS2] at ho2
      have ho3 := hrow.stored (k * 5 + 3) (.string s2)
      rw [hS3] at ho3
      have ho23 := ho2.1.stored (k * 5 + 3) (.string s2)
      rw [hS23] at ho23
      have hfin2 : Hid (renameN s1 s2 x = ⟨x.kind, x.op, s2, x.other, x.kids⟩ → (mixR s1 s2 k q).set k (⟨x.kind, x.op, s2, x.other, x.kids⟩, kv) = mixR s1 s2 (k + 1) q) := hid (fun e => by rw [← hnx]; unfold renP; simp only; rw [e])
      have hfin3 : Hid (renameN s1 s2 x = ⟨x.kind, x.op, x.text, s2, x.kids⟩ → (mixR s1 s2 k q).set k (⟨x.kind, x.op, x.text, s2, x.kids⟩, kv) = mixR s1 s2 (k + 1) q) := hid (fun e => by rw [← hnx]; unfold renP; simp only; rw [e])
      have hfin23 : Hid (renameN s1 s2 x = ⟨x.kind, x.op, s2, s2, x.kids⟩ → (mixR s1 s2 k q).set k (⟨x.kind, x.op, s2, s2, x.kids⟩, kv) = mixR s1 s2 (k + 1) q) := hid (fun e => by rw [← hnx]; unfold renP; simp only; rw [e])
      replace ho2 := hid ho2
      replace ho3 := hid ho3
      replace ho23 := hid ho23
      replace hgr := hid hgr
      clear hx hxm hnx hS2 hS3 hxm2 hS23 hrow
      by_cases hkt : isTextK x.kind = true
      · by_cases h32 : x.kind = 32
        · have hR := hid (renameN_2 (f := s1) (t := s2) h32)
          have hk32t : isTextK 32 = true := rfl
          simp only [h32] at c0
          have hE1 := hid h32
          clear h32
          by_cases e1 : (x.text.toList == s1.toList) = true
          · by_cases e2 : (x.other.toList == s1.toList) = true
            · have hR2 : Hid (renameN s1 s2 x = ⟨x.kind, x.op, s2, s2, x.kids⟩) := hid (by rw [hR.out, ren_t e1, ren_t e2])
              go_wp2_with (go_at_call 112; refine (specl23Text_any _ _).mono ?_; rintro e w' ⟨rfl, hw9⟩; subst w'; first | rw [hkt] | rw [hk32t])
              all_goals go_roundw
              all_goals first
                | (simp [intOf]; omega)
                | exact ⟨k + 1, by go_num, by omega, grown_trans (grown_trans hgr.out ho2.out.2) ho23.out.2, by rw [← hfin23.out hR2.out]; exact ho23.out.1⟩
            · have e2 : (x.other.toList == s1.toList) = false := by simpa using e2
              have hR2 : Hid (renameN s1 s2 x = ⟨x.kind, x.op, s2, x.other, x.kids⟩) := hid (by rw [hR.out, ren_t e1, ren_f e2])
              go_wp2_with (go_at_call 112; refine (specl23Text_any _ _).mono ?_; rintro e w' ⟨rfl, hw9⟩; subst w'; first | rw [hkt] | rw [hk32t])
              all_goals go_roundw
              all_goals first
                | (simp [intOf]; omega)
                | exact ⟨k + 1, by go_num, by omega, grown_trans hgr.out ho2.out.2, by rw [← hfin2.out hR2.out]; exact ho2.out.1⟩
          · have e1 : (x.text.toList == s1.toList) = false := by simpa using e1
            by_cases e2 : (x.other.toList == s1.toList) = true
            · have hR2 : Hid (renameN s1 s2 x = ⟨x.kind, x.op, x.text, s2, x.kids⟩) := hid (by rw [hR.out, ren_f e1, ren_t e2])
              go_wp2_with (go_at_call 112; refine (specl23Text_any _ _).mono ?_; rintro e w' ⟨rfl, hw9⟩; subst w'; first | rw [hkt] | rw [hk32t])
              all_goals go_roundw
              all_goals first
                | (simp [intOf]; omega)
                | exact ⟨k + 1, by go_num, by omega, grown_trans hgr.out ho3.out.2, by rw [← hfin3.out hR2.out]; exact ho3.out.1⟩
            · have e2 : (x.other.toList == s1.toList) = false := by simpa using e2
              have hR2 : Hid (renameN s1 s2 x = x) := hid (by rw [hR.out, ren_f e1, ren_f e2])
              go_wp2_with (go_at_call 112; refine (specl23Text_any _ _).mono ?_; rintro e w' ⟨rfl, hw9⟩; subst w'; first | rw [hkt] | rw [hk32t])
              all_goals go_roundw
              all_goals first
                | (simp [intOf]; omega)
                | exact ⟨k + 1, by go_num, by omega, hgr.out, hstay.out hR2.out⟩
        · have hR := hid (renameN_1 (f := s1) (t := s2) hkt h32)
          have hk32t := hkt
          have hk32 : (x.kind == 32) = false := by simpa using h32
          by_cases e1 : (x.text.toList == s1.toList) = true
          · have hR2 : Hid (renameN s1 s2 x = ⟨x.kind, x.op, s2, x.other, x.kids⟩) := hid (by rw [hR.out, ren_t e1])
            go_wp2_with (go_at_call 112; refine (specl23Text_any _ _).mono ?_; rintro e w' ⟨rfl, hw9⟩; subst w'; first | rw [hkt] | rw [hk32t])
            all_goals go_roundw
            all_goals first
              | (simp [intOf]; omega)
              | exact ⟨k + 1, by go_num, by omega, grown_trans hgr.out ho2.out.2, by rw [← hfin2.out hR2.out]; exact ho2.out.1⟩
          · have e1 : (x.text.toList == s1.toList) = false := by simpa using e1
            have hR2 : Hid (renameN s1 s2 x = x) := hid (by rw [hR.out, ren_f e1])
            go_wp2_with (go_at_call 112; refine (specl23Text_any _ _).mono ?_; rintro e w' ⟨rfl, hw9⟩; subst w'; first | rw [hkt] | rw [hk32t])
            all_goals go_roundw
            all_goals first
              | (simp [intOf]; omega)
              | exact ⟨k + 1, by go_num, by omega, hgr.out, hstay.out hR2.out⟩
      · have hkt : isTextK x.kind = false := by simpa using hkt
        have hk32t := hkt
        have hk32 : (x.kind == 32) = false := by
          cases h : (x.kind == 32) with
          | false => rfl
          | true => unfold isTextK at hkt; rw [h] at hkt; simp at hkt
        have hR2 := hid (renameN_not (f := s1) (t := s2) hkt)
        go_wp2_with (go_at_call 112; refine (specl23Text_any _ _).mono ?_; rintro e w' ⟨rfl, hw9⟩; subst w'; first | rw [hkt] | rw [hk32t])
        all_goals go_roundw
        all_goals first
          | (simp [intOf]; omega)
          | exact ⟨k + 1, by go_num, by omega, hgr.out, hstay.out hR2.out⟩
    · have hrow2 := hrow
      rw [mixR_all _ _ _ (by omega)] at hrow2
      have hfin := renFin h3F.out h4q.out hgh hgr hrow2
      rw [hq] at hfin
      have hfs : w1.heap.size ≤ wr.heap.size := Nat.le_trans hbF1.size hgr.size
      have hfin2 := hid (OwnNode.wide2 hfin (Nat.le_refl _) hfs)
      have hBr := hBF.grown hgr hBF.size (fun r e => by have e2 : og = r := Option.some.inj e; omega)
      clear hrow hrow2 hfin
      go_wp2
      go_ret2
      exact ⟨_, by rw [hcf.out]; rfl, hBr, by rw [hren.out]; exact hfin2.out⟩
end Go.Proofs.YtgmciglaapnahaaGreatDoor
