/- Walks and lemmas of this seat (FRenM): what each theorem says of the functions that it names. Conditions: those that each theorem states. -/
import Derived.Test.YtgmciglaapnahaaGreatDoorFRenS
namespace Go.Proofs.YtgmciglaapnahaaGreatDoor
set_option linter.unusedVariables false
set_option linter.unusedSimpArgs false
open Go.RowKit Go.Lib

theorem two_at0 (w : World) (o1 o2 : Obj) : ((w.alloc o1).alloc o2).heap[w.heap.size]? = some o1 := (Below.heap_alloc (w.alloc o1) o2 _ (by simp)).trans (heap_alloc_new w o1)
theorem two_at1 (w : World) (o1 o2 : Obj) : ((w.alloc o1).alloc o2).heap[w.heap.size + 1]? = some o2 := by
  have := heap_alloc_new (w.alloc o1) o2
  simpa using this
set_option maxRecDepth 100000 in
set_option maxHeartbeats 6400000 in
theorem implRename_any (l0 : List Node) (v0 : Value) (s1 s2 : ByteArray) (w : World) (hx0 : ∀ x ∈ l0, x.Ok) (hn0 : bulk Node.sizes l0 ≤ 1048576) (hv0 : NodeSlc w v0 l0) (hs1 : s1.size ≤ 1048576) (hs2 : s2.size ≤ 1048576) (hE : WordEnv w) :
    Calls Tryz.prog 49 #[v0, .string s1, .string s2] w fun e w' => RenPost l0 s1 s2 w e w' := by
  have hv := hv0
  have hlen := length_bulk Node.sizes l0
  have hcopy := hid fun W (hb : Below w.heap.size w W) => implcopyNodes_any l0 v0 W hx0 hn0 (hv.mono hb (Nat.le_refl _))
  have htree := hid fun W (hb : Below w.heap.size w W) => implTreeOk_any l0 v0 W hx0 hn0 (hv.mono hb (Nat.le_refl _)) (hE.below hb)
  have hname := hid fun W (hb : Below w.heap.size w W) => implNameOk_any s2 W hs2 (hE.below hb)
  have hnam := hid fun W (hb : Below w.heap.size w W) => implNamesOf_any l0 v0 W hx0 hn0 (hv.mono hb (Nat.le_refl _))
  have hfn := hid fun W (hb : Below w.heap.size w W) => implFuncNames_any l0 v0 W hx0 hn0 (hv.mono hb (Nat.le_refl _))
  have hnl : (namesOf l0).length ≤ 4194304 := by have := (funcNames_len2 l0).1; omega
  have hfl : (funcNames l0).length ≤ 4194304 := by have h9 : (funcNames l0).length ≤ (fnames l0).length := namesT_len _; have := fnames_len l0; omega
  have hfind := hid fun (L : List ByteArray) (hL : L.length ≤ 4194304) (lv : Value) W (h : Slc W lv 1 L.length (L.flatMap str1)) => containsN L lv s2 W (by omega) h
  obtain ⟨a, cap, rfl, hm, hc, hsl⟩ := hv0.shape
  obtain ⟨c, hceq⟩ : ∃ c, c = renameOkB l0 s2 := ⟨_, rfl⟩
  have hcc : c = (treeOk l0 && (nameOkB s2 && (!hasT (namesOf l0) s2 && !hasT (funcNames l0) s2))) := hceq
  have hsh := hid fun (h : treeOk l0 = true) => (shapeOk_yes (treeOk_shape h)).1
  clear hsl hv0 hE
  replace hv := hid hv
  obtain ⟨NL, hNL⟩ : ∃ NL, NL = namesOf l0 := ⟨_, rfl⟩
  obtain ⟨FL, hFL⟩ : ∃ FL, FL = funcNames l0 := ⟨_, rfl⟩
  rw [← hNL, ← hFL] at hcc
  rw [← hNL] at hnl hnam
  rw [← hFL] at hfl hfn
  have hfiN := hid fun lv W h => hfind.out NL hnl lv W h
  have hfiF := hid fun lv W h => hfind.out FL hfl lv W h
  clear hfind hNL hFL
  unfold RenPost
  rw [← hceq]
  cases h1 : treeOk l0 with
  | false =>
    have hcf : Hid (c = false) := hid (by rw [hcc, h1]; rfl)
    rw [h1] at htree
    replace hceq := hid hceq
    clear hcc h1
    go_enter Tryz.func49, Tryz.ntmps49
    go_wp2_with fail
    refine (hcopy.out _ (by repeat (first | exact Below.refl _ _ | refine Below.alloc ?_ (by first | omega | (simp; done) | (simp; omega)) _ | refine Below.drew ?_))).mono ?_; rintro e w1 ⟨ov, rfl, hb1, ho1⟩
    have hB1 : Below w.heap.size w w1 := (by repeat (first | exact Below.refl _ _ | refine Below.alloc ?_ (by first | omega | (simp; done) | (simp; omega)) _ | refine Below.drew ?_) : Below w.heap.size w _).trans (hb1.mono (by simp; omega))
    have f0 : w1.cell? ⟨w.heap.size, 0, none⟩ = some (.string s1) := (hb1.cell (p := ⟨w.heap.size, 0, none⟩) (by simp; omega)).trans (by have h9 := two_at0 w (.cells #[.string s1] 9) (.cells #[.string s2] 9); simp [World.cell?, h9])
    have t0 : w1.cell? ⟨w.heap.size + 1, 0, none⟩ = some (.string s2) := (hb1.cell (p := ⟨w.heap.size + 1, 0, none⟩) (by simp)).trans (by rw [World.cell?_alloc_at _ _ _ _ (by simp)]; rfl)
    have htl : w.heap.size + 1 < w1.heap.size := World.block_lt_of_cell? w1 _ t0
    have ho2 : OwnNode w1 (w.heap.size + 1 + 1) w1.heap.size ov l0 := by have h9 := ho1; rw [World.size_alloc, World.size_alloc] at h9; exact h9
    clear ho1 hb1
    obtain ⟨oa, oc, rfl, -⟩ := ho2.slc.shape
    have hO1 := hid ho2
    clear ho2
    go_wp2_with fail
    first
      | go_region_law (first | (go_simp; go_at_call 97; refine (htree.out _ (by first | exact hB1.drew | exact hB1)).mono ?_; rintro e wA ⟨rfl, hbA⟩; have hBA := hB1.drew.trans (hbA.mono hB1.drew.size); have tA := (hbA.cell (p := ⟨w.heap.size + 1, 0, none⟩) htl).trans t0) | (go_simp; go_at_call 134; refine (hname.out _ hBA).mono ?_; rintro e wB ⟨rfl, hwB⟩; subst wB) | (go_simp; go_at_call 111; refine (hnam.out _ hBA).mono ?_; rintro e wN ⟨nv, rfl, hbN, hoN⟩; have hBN := hBA.trans (hbN.mono hBA.size); have hsN := hid (hfiN.out _ _ (Slc.of_own hoN)); have tN := (hbN.cell (p := ⟨w.heap.size + 1, 0, none⟩) (Nat.lt_of_lt_of_le htl hbA.size)).trans tA; obtain ⟨na, nc, rfl, hnm⟩ := own_slice hoN) | (go_simp; go_at_call 135; refine (hfn.out _ hBN).mono ?_; rintro e wF ⟨fv, rfl, hbF, hoF⟩; have hBF := hBN.trans (hbF.mono hBN.size); have hsF := hid (hfiF.out _ _ (Slc.of_own hoF)); have tF := (hbF.cell (p := ⟨w.heap.size + 1, 0, none⟩) (Nat.lt_of_lt_of_le htl (Nat.le_trans hbA.size hbN.size))).trans tN; obtain ⟨fa, fc, rfl, hfm⟩ := own_slice hoF) | (go_simp; go_at_call 91; first | (refine hsF.out.mono ?_; rintro e w' ⟨rfl, hw9⟩; subst w') | (refine hsN.out.mono ?_; rintro e w' ⟨rfl, hw9⟩; subst w')))
      | fail "region"
    all_goals (
      have hbA1 : Below w1.heap.size w1 wA := (Below.refl w1.heap.size w1).drew.trans (hbA.mono (Nat.le_refl _))
      have hCh : Below w1.heap.size w1 _ := hbA1
      go_wp2
      all_goals go_ret2
      all_goals exact ⟨_, by rw [hcf.out]; rfl, hBA, by rw [renamed_no (by rw [← hceq.out]; exact hcf.out)]; exact OwnNode.wide2 (hO1.out.below hCh (Nat.le_refl _)) (by omega) hCh.size⟩)
  | true =>
  cases h2 : nameOkB s2 with
  | false =>
    have hcf : Hid (c = false) := hid (by rw [hcc, h1, h2]; rfl)
    rw [h1] at htree
    rw [h2] at hname
    replace hceq := hid hceq
    clear hcc h1 h2
    go_enter Tryz.func49, Tryz.ntmps49
    go_wp2_with fail
    refine (hcopy.out _ (by repeat (first | exact Below.refl _ _ | refine Below.alloc ?_ (by first | omega | (simp; done) | (simp; omega)) _ | refine Below.drew ?_))).mono ?_; rintro e w1 ⟨ov, rfl, hb1, ho1⟩
    have hB1 : Below w.heap.size w w1 := (by repeat (first | exact Below.refl _ _ | refine Below.alloc ?_ (by first | omega | (simp; done) | (simp; omega)) _ | refine Below.drew ?_) : Below w.heap.size w _).trans (hb1.mono (by simp; omega))
    have f0 : w1.cell? ⟨w.heap.size, 0, none⟩ = some (.string s1) := (hb1.cell (p := ⟨w.heap.size, 0, none⟩) (by simp; omega)).trans (by have h9 := two_at0 w (.cells #[.string s1] 9) (.cells #[.string s2] 9); simp [World.cell?, h9])
    have t0 : w1.cell? ⟨w.heap.size + 1, 0, none⟩ = some (.string s2) := (hb1.cell (p := ⟨w.heap.size + 1, 0, none⟩) (by simp)).trans (by rw [World.cell?_alloc_at _ _ _ _ (by simp)]; rfl)
    have htl : w.heap.size + 1 < w1.heap.size := World.block_lt_of_cell? w1 _ t0
    have ho2 : OwnNode w1 (w.heap.size + 1 + 1) w1.heap.size ov l0 := by have h9 := ho1; rw [World.size_alloc, World.size_alloc] at h9; exact h9
    clear ho1 hb1
    obtain ⟨oa, oc, rfl, -⟩ := ho2.slc.shape
    have hO1 := hid ho2
    clear ho2
    go_wp2_with fail
    first
      | go_region_law (first | (go_simp; go_at_call 97; refine (htree.out _ (by first | exact hB1.drew | exact hB1)).mono ?_; rintro e wA ⟨rfl, hbA⟩; have hBA := hB1.drew.trans (hbA.mono hB1.drew.size); have tA := (hbA.cell (p := ⟨w.heap.size + 1, 0, none⟩) htl).trans t0) | (go_simp; go_at_call 134; refine (hname.out _ hBA).mono ?_; rintro e wB ⟨rfl, hwB⟩; subst wB) | (go_simp; go_at_call 111; refine (hnam.out _ hBA).mono ?_; rintro e wN ⟨nv, rfl, hbN, hoN⟩; have hBN := hBA.trans (hbN.mono hBA.size); have hsN := hid (hfiN.out _ _ (Slc.of_own hoN)); have tN := (hbN.cell (p := ⟨w.heap.size + 1, 0, none⟩) (Nat.lt_of_lt_of_le htl hbA.size)).trans tA; obtain ⟨na, nc, rfl, hnm⟩ := own_slice hoN) | (go_simp; go_at_call 135; refine (hfn.out _ hBN).mono ?_; rintro e wF ⟨fv, rfl, hbF, hoF⟩; have hBF := hBN.trans (hbF.mono hBN.size); have hsF := hid (hfiF.out _ _ (Slc.of_own hoF)); have tF := (hbF.cell (p := ⟨w.heap.size + 1, 0, none⟩) (Nat.lt_of_lt_of_le htl (Nat.le_trans hbA.size hbN.size))).trans tN; obtain ⟨fa, fc, rfl, hfm⟩ := own_slice hoF) | (go_simp; go_at_call 91; first | (refine hsF.out.mono ?_; rintro e w' ⟨rfl, hw9⟩; subst w') | (refine hsN.out.mono ?_; rintro e w' ⟨rfl, hw9⟩; subst w')))
      | fail "region"
    all_goals (
      have hbA1 : Below w1.heap.size w1 wA := (Below.refl w1.heap.size w1).drew.trans (hbA.mono (Nat.le_refl _))
      have hCh : Below w1.heap.size w1 _ := hbA1
      go_wp2
      all_goals go_ret2
      all_goals exact ⟨_, by rw [hcf.out]; rfl, hBA, by rw [renamed_no (by rw [← hceq.out]; exact hcf.out)]; exact OwnNode.wide2 (hO1.out.below hCh (Nat.le_refl _)) (by omega) hCh.size⟩)
  | true =>
  cases h3 : hasT NL s2 with
  | true =>
    have hcf : Hid (c = false) := hid (by rw [hcc, h1, h2, h3]; rfl)
    rw [h1] at htree
    rw [h2] at hname
    rw [h3] at hfiN
    replace hceq := hid hceq
    clear hcc h1 h2 h3
    go_enter Tryz.func49, Tryz.ntmps49
    go_wp2_with fail
    refine (hcopy.out _ (by repeat (first | exact Below.refl _ _ | refine Below.alloc ?_ (by first | omega | (simp; done) | (simp; omega)) _ | refine Below.drew ?_))).mono ?_; rintro e w1 ⟨ov, rfl, hb1, ho1⟩
    have hB1 : Below w.heap.size w w1 := (by repeat (first | exact Below.refl _ _ | refine Below.alloc ?_ (by first | omega | (simp; done) | (simp; omega)) _ | refine Below.drew ?_) : Below w.heap.size w _).trans (hb1.mono (by simp; omega))
    have f0 : w1.cell? ⟨w.heap.size, 0, none⟩ = some (.string s1) := (hb1.cell (p := ⟨w.heap.size, 0, none⟩) (by simp; omega)).trans (by have h9 := two_at0 w (.cells #[.string s1] 9) (.cells #[.string s2] 9); simp [World.cell?, h9])
    have t0 : w1.cell? ⟨w.heap.size + 1, 0, none⟩ = some (.string s2) := (hb1.cell (p := ⟨w.heap.size + 1, 0, none⟩) (by simp)).trans (by rw [World.cell?_alloc_at _ _ _ _ (by simp)]; rfl)
    have htl : w.heap.size + 1 < w1.heap.size := World.block_lt_of_cell? w1 _ t0
    have ho2 : OwnNode w1 (w.heap.size + 1 + 1) w1.heap.size ov l0 := by have h9 := ho1; rw [World.size_alloc, World.size_alloc] at h9; exact h9
    clear ho1 hb1
    obtain ⟨oa, oc, rfl, -⟩ := ho2.slc.shape
    have hO1 := hid ho2
    clear ho2
    go_wp2_with fail
    first
      | go_region_law (first | (go_simp; go_at_call 97; refine (htree.out _ (by first | exact hB1.drew | exact hB1)).mono ?_; rintro e wA ⟨rfl, hbA⟩; have hBA := hB1.drew.trans (hbA.mono hB1.drew.size); have tA := (hbA.cell (p := ⟨w.heap.size + 1, 0, none⟩) htl).trans t0) | (go_simp; go_at_call 134; refine (hname.out _ hBA).mono ?_; rintro e wB ⟨rfl, hwB⟩; subst wB) | (go_simp; go_at_call 111; refine (hnam.out _ hBA).mono ?_; rintro e wN ⟨nv, rfl, hbN, hoN⟩; have hBN := hBA.trans (hbN.mono hBA.size); have hsN := hid (hfiN.out _ _ (Slc.of_own hoN)); have tN := (hbN.cell (p := ⟨w.heap.size + 1, 0, none⟩) (Nat.lt_of_lt_of_le htl hbA.size)).trans tA; obtain ⟨na, nc, rfl, hnm⟩ := own_slice hoN) | (go_simp; go_at_call 135; refine (hfn.out _ hBN).mono ?_; rintro e wF ⟨fv, rfl, hbF, hoF⟩; have hBF := hBN.trans (hbF.mono hBN.size); have hsF := hid (hfiF.out _ _ (Slc.of_own hoF)); have tF := (hbF.cell (p := ⟨w.heap.size + 1, 0, none⟩) (Nat.lt_of_lt_of_le htl (Nat.le_trans hbA.size hbN.size))).trans tN; obtain ⟨fa, fc, rfl, hfm⟩ := own_slice hoF) | (go_simp; go_at_call 91; first | (refine hsF.out.mono ?_; rintro e w' ⟨rfl, hw9⟩; subst w') | (refine hsN.out.mono ?_; rintro e w' ⟨rfl, hw9⟩; subst w')))
      | fail "region"
    all_goals (
      have hbA1 : Below w1.heap.size w1 wA := (Below.refl w1.heap.size w1).drew.trans (hbA.mono (Nat.le_refl _))
      have hCh : Below w1.heap.size w1 _ := hbA1.trans (hbN.mono hbA1.size)
      go_wp2
      all_goals go_ret2
      all_goals exact ⟨_, by rw [hcf.out]; rfl, hBN, by rw [renamed_no (by rw [← hceq.out]; exact hcf.out)]; exact OwnNode.wide2 (hO1.out.below hCh (Nat.le_refl _)) (by omega) hCh.size⟩)
  | false =>
  cases h4 : hasT FL s2 with
  | true =>
    have hcf : Hid (c = false) := hid (by rw [hcc, h1, h2, h3, h4]; rfl)
    rw [h1] at htree
    rw [h2] at hname
    rw [h3] at hfiN
    rw [h4] at hfiF
    replace hceq := hid hceq
    clear hcc h1 h2 h3 h4
    go_enter Tryz.func49, Tryz.ntmps49
    go_wp2_with fail
    refine (hcopy.out _ (by repeat (first | exact Below.refl _ _ | refine Below.alloc ?_ (by first | omega | (simp; done) | (simp; omega)) _ | refine Below.drew ?_))).mono ?_; rintro e w1 ⟨ov, rfl, hb1, ho1⟩
    have hB1 : Below w.heap.size w w1 := (by repeat (first | exact Below.refl _ _ | refine Below.alloc ?_ (by first | omega | (simp; done) | (simp; omega)) _ | refine Below.drew ?_) : Below w.heap.size w _).trans (hb1.mono (by simp; omega))
    have f0 : w1.cell? ⟨w.heap.size, 0, none⟩ = some (.string s1) := (hb1.cell (p := ⟨w.heap.size, 0, none⟩) (by simp; omega)).trans (by have h9 := two_at0 w (.cells #[.string s1] 9) (.cells #[.string s2] 9); simp [World.cell?, h9])
    have t0 : w1.cell? ⟨w.heap.size + 1, 0, none⟩ = some (.string s2) := (hb1.cell (p := ⟨w.heap.size + 1, 0, none⟩) (by simp)).trans (by rw [World.cell?_alloc_at _ _ _ _ (by simp)]; rfl)
    have htl : w.heap.size + 1 < w1.heap.size := World.block_lt_of_cell? w1 _ t0
    have ho2 : OwnNode w1 (w.heap.size + 1 + 1) w1.heap.size ov l0 := by have h9 := ho1; rw [World.size_alloc, World.size_alloc] at h9; exact h9
    clear ho1 hb1
    obtain ⟨oa, oc, rfl, -⟩ := ho2.slc.shape
    have hO1 := hid ho2
    clear ho2
    go_wp2_with fail
    first
      | go_region_law (first | (go_simp; go_at_call 97; refine (htree.out _ (by first | exact hB1.drew | exact hB1)).mono ?_; rintro e wA ⟨rfl, hbA⟩; have hBA := hB1.drew.trans (hbA.mono hB1.drew.size); have tA := (hbA.cell (p := ⟨w.heap.size + 1, 0, none⟩) htl).trans t0) | (go_simp; go_at_call 134; refine (hname.out _ hBA).mono ?_; rintro e wB ⟨rfl, hwB⟩; subst wB) | (go_simp; go_at_call 111; refine (hnam.out _ hBA).mono ?_; rintro e wN ⟨nv, rfl, hbN, hoN⟩; have hBN := hBA.trans (hbN.mono hBA.size); have hsN := hid (hfiN.out _ _ (Slc.of_own hoN)); have tN := (hbN.cell (p := ⟨w.heap.size + 1, 0, none⟩) (Nat.lt_of_lt_of_le htl hbA.size)).trans tA; obtain ⟨na, nc, rfl, hnm⟩ := own_slice hoN) | (go_simp; go_at_call 135; refine (hfn.out _ hBN).mono ?_; rintro e wF ⟨fv, rfl, hbF, hoF⟩; have hBF := hBN.trans (hbF.mono hBN.size); have hsF := hid (hfiF.out _ _ (Slc.of_own hoF)); have tF := (hbF.cell (p := ⟨w.heap.size + 1, 0, none⟩) (Nat.lt_of_lt_of_le htl (Nat.le_trans hbA.size hbN.size))).trans tN; obtain ⟨fa, fc, rfl, hfm⟩ := own_slice hoF) | (go_simp; go_at_call 91; first | (refine hsF.out.mono ?_; rintro e w' ⟨rfl, hw9⟩; subst w') | (refine hsN.out.mono ?_; rintro e w' ⟨rfl, hw9⟩; subst w')))
      | fail "region"
    all_goals (
      have hbA1 : Below w1.heap.size w1 wA := (Below.refl w1.heap.size w1).drew.trans (hbA.mono (Nat.le_refl _))
      have hCh : Below w1.heap.size w1 _ := (hbA1.trans (hbN.mono hbA1.size)).trans (hbF.mono (hbA1.trans (hbN.mono hbA1.size)).size)
      go_wp2
      all_goals go_ret2
      all_goals exact ⟨_, by rw [hcf.out]; rfl, hBF, by rw [renamed_no (by rw [← hceq.out]; exact hcf.out)]; exact OwnNode.wide2 (hO1.out.below hCh (Nat.le_refl _)) (by omega) hCh.size⟩)
  | false =>
    have hcf : Hid (c = true) := hid (by rw [hcc, h1, h2, h3, h4]; rfl)
    have hl1 := hsh.out h1
    rw [h1] at htree
    rw [h2] at hname
    rw [h3] at hfiN
    rw [h4] at hfiF
    have hren : Hid (renamed l0 s1 s2 = l0.map (renameN s1 s2)) := hid (by unfold renamed; rw [← hceq, hcf.out]; rfl)
    clear hcc h1 h2 h3 h4 hceq
    go_enter Tryz.func49, Tryz.ntmps49
    go_wp2_with fail
    refine (hcopy.out _ (by repeat (first | exact Below.refl _ _ | refine Below.alloc ?_ (by first | omega | (simp; done) | (simp; omega)) _ | refine Below.drew ?_))).mono ?_; rintro e w1 ⟨ov, rfl, hb1, ho1⟩
    have hB1 : Below w.heap.size w w1 := (by repeat (first | exact Below.refl _ _ | refine Below.alloc ?_ (by first | omega | (simp; done) | (simp; omega)) _ | refine Below.drew ?_) : Below w.heap.size w _).trans (hb1.mono (by simp; omega))
    have f0 : w1.cell? ⟨w.heap.size, 0, none⟩ = some (.string s1) := (hb1.cell (p := ⟨w.heap.size, 0, none⟩) (by simp; omega)).trans (by have h9 := two_at0 w (.cells #[.string s1] 9) (.cells #[.string s2] 9); simp [World.cell?, h9])
    have t0 : w1.cell? ⟨w.heap.size + 1, 0, none⟩ = some (.string s2) := (hb1.cell (p := ⟨w.heap.size + 1, 0, none⟩) (by simp)).trans (by rw [World.cell?_alloc_at _ _ _ _ (by simp)]; rfl)
    have htl : w.heap.size + 1 < w1.heap.size := World.block_lt_of_cell? w1 _ t0
    have ho2 : OwnNode w1 (w.heap.size + 1 + 1) w1.heap.size ov l0 := by have h9 := ho1; rw [World.size_alloc, World.size_alloc] at h9; exact h9
    clear ho1 hb1
    obtain ⟨q, hq, h2q, h3q, h4q⟩ := ho2
    have hql : q.length = l0.length := by rw [← hq]; simp
    obtain ⟨og, oc, rfl, hoc⟩ := own_slice' h2q.1 (by omega)
    have hgh : og < w1.heap.size := h2q.2 og rfl
    have hgl := (h2q.1.lt og rfl).1
    have hrow1 := hid h2q.1
    replace h3q := hid h3q
    replace h4q := hid h4q
    clear h2q
    have hqz : (q.length : Int) ≤ 9223372036854775807 := by omega
    replace hql := hid hql
    go_wp2_with fail
    first
      | go_region_law (first | (go_simp; go_at_call 97; refine (htree.out _ (by first | exact hB1.drew | exact hB1)).mono ?_; rintro e wA ⟨rfl, hbA⟩; have hBA := hB1.drew.trans (hbA.mono hB1.drew.size); have tA := (hbA.cell (p := ⟨w.heap.size + 1, 0, none⟩) htl).trans t0) | (go_simp; go_at_call 134; refine (hname.out _ hBA).mono ?_; rintro e wB ⟨rfl, hwB⟩; subst wB) | (go_simp; go_at_call 111; refine (hnam.out _ hBA).mono ?_; rintro e wN ⟨nv, rfl, hbN, hoN⟩; have hBN := hBA.trans (hbN.mono hBA.size); have hsN := hid (hfiN.out _ _ (Slc.of_own hoN)); have tN := (hbN.cell (p := ⟨w.heap.size + 1, 0, none⟩) (Nat.lt_of_lt_of_le htl hbA.size)).trans tA; obtain ⟨na, nc, rfl, hnm⟩ := own_slice hoN) | (go_simp; go_at_call 135; refine (hfn.out _ hBN).mono ?_; rintro e wF ⟨fv, rfl, hbF, hoF⟩; have hBF := hBN.trans (hbF.mono hBN.size); have hsF := hid (hfiF.out _ _ (Slc.of_own hoF)); have tF := (hbF.cell (p := ⟨w.heap.size + 1, 0, none⟩) (Nat.lt_of_lt_of_le htl (Nat.le_trans hbA.size hbN.size))).trans tN; obtain ⟨fa, fc, rfl, hfm⟩ := own_slice hoF) | (go_simp; go_at_call 91; first | (refine hsF.out.mono ?_; rintro e w' ⟨rfl, hw9⟩; subst w') | (refine hsN.out.mono ?_; rintro e w' ⟨rfl, hw9⟩; subst w')))
      | fail "region"
    all_goals (
      have hbA1 : Below w1.heap.size w1 wA := (Below.refl w1.heap.size w1).drew.trans (hbA.mono (Nat.le_refl _))
      have hbN1 : Below w1.heap.size w1 wN := hbA1.trans (hbN.mono hbA1.size)
      have hbF1 : Below w1.heap.size w1 wF := hbN1.trans (hbF.mono hbN1.size)
      have hrowF := own_below hrow1.out hbF1 (Nat.le_refl _)
      have h3F : Hid (∀ p ∈ q, OwnIn wF (w.heap.size + 1 + 1) w1.heap.size 3 1 p.2 p.1.kids.length (p.1.kids.flatMap int1)) := hid fun p hp => (h3q.out p hp).below hbF1 (Nat.le_refl _)
      have fF := keepc hbF1 f0
      have tF := keepc hbF1 t0
      clear hbA hbN hbF hoN hoF hsN hsF hrow1 f0 t0 hbA1 hbN1
      go_wp2
      go_loopw [35] (fun i wr => ∃ (k : Nat), i = .int .i64 k ∧ k ≤ q.length ∧ wF.grownBy wr (some og) ∧ wr.ownsRow (w.heap.size + 1 + 1) 40 5 (.slice (some ⟨og, 0, none⟩) q.length oc) q.length ((mixR s1 s2 k q).flatMap Node.cells)) (fun i _ => q.length - (intOf i).toNat)
      case atStart => exact ⟨0, rfl, by omega, grown_refl _ _, by rw [mixR_zero]; exact hrowF⟩
      clear hrowF
      obtain ⟨k, rfl, hk, hgr, hrow⟩ := hrel
      by_cases hlt : k < q.length
      · obtain ⟨⟨x, kv⟩, hx⟩ := get_of_lt hlt
        have hxm := mixR_at (f := s1) (t := s2) hx
        have hnx := mixR_next (f := s1) (t := s2) hx
        have hkz : (k : Int) < (q.length : Int) := by omega
        have hcall := hid (renNamesIn s1 s2 x kv og k w.heap.size (w.heap.size + 1) (w.heap.size + 1 + 1) q.length oc _ wr hrow hxm (grown_cell hgr fF (by omega)) (grown_cell hgr tF (by omega)) (by omega) (by omega))
        have hset : (mixR s1 s2 k q).set k (renameN s1 s2 x, kv) = mixR s1 s2 (k + 1) q := hnx
        rw [hset] at hcall
        replace hgr := hid hgr
        clear hx hxm hnx hset hrow
        go_wp2_with (go_at_call 136; refine hcall.out.mono ?_; rintro e w5 ⟨rfl, hg5, ho5⟩)
        all_goals go_roundw
        all_goals first
          | (simp [intOf]; omega)
          | exact ⟨k + 1, by go_num, by omega, grown_trans hgr.out hg5, ho5⟩
      · have hrow2 := hrow
        rw [mixR_all _ _ _ (by omega)] at hrow2
        have hfin := renFin h3F.out h4q.out hgh hgr hrow2
        rw [hq] at hfin
        have hfs : w1.heap.size ≤ wr.heap.size := Nat.le_trans hbF1.size hgr.size
        have hfin2 := hid (OwnNode.wide2 hfin (show w.heap.size ≤ w.heap.size + 1 + 1 by omega) hfs)
        have hBr := hBF.grown hgr hBF.size (fun r e => by have e2 : og = r := Option.some.inj e; omega)
        clear hrow hrow2 hfin
        go_wp2
        go_ret2
        exact ⟨_, by rw [hcf.out]; rfl, hBr, by rw [hren.out]; exact hfin2.out⟩)
end Go.Proofs.YtgmciglaapnahaaGreatDoor
