/- Walks and lemmas of this seat (FTreeOk): what each theorem says of the functions that it names. Conditions: those that each theorem states. -/
import Derived.Test.YtkelhmgdajiocaaGreatDoorGKO
import Derived.Test.YtkelhmgdajiocaaGreatDoorFKidOk2
import Derived.Test.YtkelhmgdajiocaaGreatDoorGD
import Derived.Test.YtkelhmgdajiocaaGreatDoorGX
namespace Go.Proofs.YtkelhmgdajiocaaGreatDoor
set_option linter.unusedVariables false
set_option linter.unusedSimpArgs false
open Go.RowKit Go.Lib

theorem treeOk_of {l : List Node} (h : shapeOk (l.map Node.kids) = true) (b : Bool) (hd : decide ((rootTree l).depth ≤ 40) = b) : treeOk l = (l.all (nodeOk l) && b) := by unfold treeOk; rw [h, hd, Bool.true_and]
theorem kids_stop {l : List Node} {k op : Int} {n j : Nat} {ks : List Int} {kid : Int} (h : ks[j]? = some kid) (hk : kidOkB k op n j (kindAt l kid) = false) : kidsOk l k op n j (ks.drop j) = false := by
  rw [drop_cons h, kidsOk, hk, Bool.false_and]
theorem kids_go {l : List Node} {k op : Int} {n j : Nat} {ks : List Int} {kid : Int} (h : ks[j]? = some kid) (hk : kidOkB k op n j (kindAt l kid) = true) : kidsOk l k op n j (ks.drop j) = kidsOk l k op n (j + 1) (ks.drop (j + 1)) := by
  rw [drop_cons h, kidsOk, hk, Bool.true_and]
theorem kids_end {l : List Node} {k op : Int} {n j : Nat} {ks : List Int} (h : ks.length ≤ j) : kidsOk l k op n j (ks.drop j) = true := by
  rw [List.drop_of_length_le h, kidsOk]
theorem all_stop {α : Type} {p : α → Bool} {l : List α} {k : Nat} {x : α} (h : l[k]? = some x) (hp : p x = false) : (l.drop k).all p = false := by rw [drop_cons h, List.all_cons, hp, Bool.false_and]
theorem all_go {α : Type} {p : α → Bool} {l : List α} {k : Nat} {x : α} (h : l[k]? = some x) (hp : p x = true) : (l.drop k).all p = (l.drop (k + 1)).all p := by rw [drop_cons h, List.all_cons, hp, Bool.true_and]
theorem all_end {α : Type} {p : α → Bool} {l : List α} {k : Nat} (h : l.length ≤ k) : (l.drop k).all p = true := by rw [List.drop_of_length_le h]; rfl

theorem keepc {w wr : World} {p : Addr} {u : Value} (hb : Below w.heap.size w wr) (h : w.cell? p = some u) : wr.cell? p = some u := by
  rw [hb.cell (World.block_lt_of_cell? w _ h)]; exact h

set_option maxRecDepth 100000 in
set_option maxHeartbeats 3200000 in
theorem specTreeOk_any (l0 : List Node) (v0 : Value) (w : World) (hx0 : ∀ x ∈ l0, x.Ok) (hn0 : bulk Node.sizes l0 ≤ 1048576) (hv0 : NodeSlc w v0 l0) :
    Calls Tryz.prog 50 #[v0] w fun e w' => e = .returned (.bool (treeOk l0)) ∧ Below w.heap.size w w' := by
  have hsh := specShapeOk_any l0 v0 w hx0 hn0 hv0
  have hv := hv0
  obtain ⟨a, cap, rfl, hm, hc, hsl⟩ := hv0.shape
  by_cases hok : shapeOk (l0.map Node.kids) = true
  · obtain ⟨h1, h2, _⟩ := shapeOk_yes hok
    have hah := hid (shapeOk_ahead hok)
    have hkl := hid (fun i x (hx : l0[i]? = some x) => shapeOk_klen hok hx)
    have hdp := hid fun W (hb : Below w.heap.size w W) => specDepthOf_any l0 _ W hx0 hn0 (hv.mono hb (Nat.le_refl _))
    have hdO : depthOf l0 = (rootTree l0).depth := by unfold depthOf; rw [if_pos hok]
    have hRd := treeOk_of hok
    rw [← hdO] at hRd
    have hdb : depthOf l0 ≤ 400 := by rw [hdO]; have := treeIx_depth_le (shapeOk_ahead hok) (l0.length - 1) (by omega); unfold rootTree; omega
    generalize depthOf l0 = D at hRd hdp hdb
    rw [hok] at hsh
    clear hok hdO
    by_cases hD : D ≤ 40
    · have hR : Hid (treeOk l0 = l0.all (nodeOk l0)) := hid (by rw [hRd true (by simpa using hD), Bool.and_true])
      clear hRd
      go_enter Tryz.func50, Tryz.ntmps50
      go_wp2_with fail
      refine hsh.mono ?_; rintro e w1 ⟨rfl, hb1⟩
      clear hsh
      go_wp2_with fail
      refine (hdp.out _ hb1).mono ?_; rintro e w2 ⟨rfl, hb2⟩
      have hb3 := hb1.trans (hb2.mono hb1.size)
      clear hdp hb1 hb2
      go_wp2
      go_loopw [3] (fun i wr => ∃ (k : Nat), i = .int .i64 k ∧ k ≤ l0.length ∧ Below w.heap.size w wr ∧ Hid (treeOk l0 = (l0.drop k).all (nodeOk l0))) (fun i _ => l0.length - (RowKit.intOf i).toNat)
      case atStart => exact ⟨0, rfl, by omega, hb3, hR⟩
      clear hb3 hR
      obtain ⟨k, rfl, hk, hb, hrel⟩ := hrel
      have hbs := hb.size
      by_cases hlt : k < l0.length
      · obtain ⟨x, ka, kc, b, off, hx, rfl, C0, C1, C2, C3, C4, hkd⟩ := hsl.at (Below.refl _ _) (Nat.le_refl _) hlt
        have c0 := keepc hb C0
        have c1 := keepc hb C1
        have c2 := keepc hb C2
        have c3 := keepc hb C3
        have c4 := keepc hb C4
        have hmem := List.mem_of_getElem? hx
        have hxs := Nat.le_trans (bulk_mem Node.sizes hmem) hn0
        have hxop := (hx0 x hmem).2.2.2.1
        unfold Node.sizes at hxs
        have hkx := hid (hah.out k x hx)
        have hkx2 := hkl.out k x hx
        obtain ⟨_, _, _, hkv, hkc, hkm, hkrow⟩ := hkd
        simp at hkv
        obtain ⟨rfl, rfl⟩ := hkv
        unfold maxLen at hkm
        have hcall := hid fun W => specFieldsOk_any x.kind x.op x.text x.other (ka) x.kids.length kc W (by omega) (by omega) hxop (by omega)
        by_cases hf : nodeFields x = true
        · have hfB := hid hf
          unfold nodeFields at hf
          rw [hf] at hcall
          have hR2 : Hid (treeOk l0 = (kidsOk l0 x.kind x.op x.kids.length 0 x.kids && (l0.drop (k + 1)).all (nodeOk l0))) := hid (by rw [hrel.out, drop_cons hx, List.all_cons, nodeOk, hfB.out, Bool.true_and])
          replace hx := hid hx
          replace hf := hid hf
          clear hrel hmem
          go_wp2_with fail
          refine (hcall.out _).mono ?_; rintro e w4 ⟨rfl, hb4⟩
          have hb5 := hb.trans (hb4.mono hb.size)
          clear hb4 hb hcall c0 c1 c2 c3 c4 hbs
          go_wp2
          go_loopw [4] (fun j wr => ∃ (q : Nat), j = .int .i64 q ∧ q ≤ x.kids.length ∧ Below w.heap.size w wr ∧ Hid (treeOk l0 = (kidsOk l0 x.kind x.op x.kids.length q (x.kids.drop q) && (l0.drop (k + 1)).all (nodeOk l0)))) (fun j _ => x.kids.length - (RowKit.intOf j).toNat)
          case atStart => exact ⟨0, rfl, by omega, hb5, hR2⟩
          clear hb5 hR2
          obtain ⟨q, rfl, hq, hb, hrel⟩ := hrel
          have hbs := hb.size
          by_cases hql : q < x.kids.length
          · obtain ⟨kid, hkid⟩ := get_of_lt hql
            obtain ⟨kb, koff, rfl, hkro⟩ := slc_some hkrow (by omega)
            have d0 := keepc hb (hkro.one int1_len hkid rfl)
            obtain ⟨hk0, hkj⟩ := hkx.out kid (List.mem_of_getElem? hkid)
            obtain ⟨m, rfl⟩ : ∃ m : Nat, kid = (m : Int) := ⟨kid.toNat, by omega⟩
            have hmk : m < k := by omega
            have hml : m < l0.length := by omega
            obtain ⟨y, ka2, kc2, b2, off2, hy, hab, e0, -, -, -, -, -⟩ := hsl.at (Below.refl _ _) (Nat.le_refl _) (show m < l0.length by omega)
            obtain ⟨rfl, rfl⟩ : b = b2 ∧ off = off2 := by simpa using hab
            replace e0 := keepc hb e0
            have c0 := keepc hb C0
            have c1 := keepc hb C1
            have c2 := keepc hb C2
            have c3 := keepc hb C3
            have c4 := keepc hb C4
            have hcall := hid fun W => specl7Kid_any x.kind x.op x.text x.other (some ⟨kb, koff, none⟩) x.kids.length kc q y.kind W (by omega) (by omega)
            rw [kidOk_eq hf.out (by omega) (by omega)] at hcall
            have hka := kindAt_of hy
            by_cases hkk : kidOkB x.kind x.op x.kids.length q y.kind = true
            · have hR3 : Hid (treeOk l0 = (kidsOk l0 x.kind x.op x.kids.length (q + 1) (x.kids.drop (q + 1)) && (l0.drop (k + 1)).all (nodeOk l0))) := hid (by rw [hrel.out, kids_go hkid (by rw [hka]; exact hkk)])
              rw [hkk] at hcall
              clear hkk hrel hka hy hkid hab hk0 hkj
              go_wp2_with fail
              go_region_law (first | (go_simp; go_at_call 75; refine (hcall.out _).mono ?_; rintro e w6 ⟨rfl, hb6⟩))
              all_goals have hb7 := hb.drew.trans (hb6.mono hb.size)
              all_goals clear hb6 hb hcall c0 c1 c2 c3 c4 d0 e0
              all_goals go_wp2
              all_goals go_roundw
              all_goals first
                | (simp [RowKit.intOf]; omega)
                | exact ⟨q + 1, by go_num, by omega, hb7, hR3⟩
            · have hkk : kidOkB x.kind x.op x.kids.length q y.kind = false := by simpa using hkk
              have hR3 : Hid (treeOk l0 = false) := hid (by rw [hrel.out, kids_stop hkid (by rw [hka]; exact hkk), Bool.false_and])
              rw [hkk] at hcall
              clear hkk hrel hka hy hkid hab hk0 hkj
              go_wp2_with fail
              go_region_law (first | (go_simp; go_at_call 75; refine (hcall.out _).mono ?_; rintro e w6 ⟨rfl, hb6⟩))
              all_goals have hb7 := hb.drew.trans (hb6.mono hb.size)
              all_goals clear hb6 hb hcall c0 c1 c2 c3 c4 d0 e0
              all_goals go_wp2
              all_goals go_ret
              all_goals exact ⟨ret_bool hR3.out.symm, hb7⟩
          · have hR3 : Hid (treeOk l0 = (l0.drop (k + 1)).all (nodeOk l0)) := hid (by rw [hrel.out, kids_end (by omega), Bool.true_and])
            have c4 := keepc hb C4
            clear hrel
            go_wp2
            go_roundw
            case rel => exact ⟨k + 1, by go_num, by omega, hb, hR3⟩
            case measure => simp [RowKit.intOf]; omega
        · have hf : nodeFields x = false := by simpa using hf
          have hR2 : Hid (treeOk l0 = false) := hid (by rw [hrel.out, all_stop hx (by rw [nodeOk, hf, Bool.false_and])])
          unfold nodeFields at hf
          rw [hf] at hcall
          clear hrel hmem hf hx
          go_wp2_with fail
          refine (hcall.out _).mono ?_; rintro e w4 ⟨rfl, hb4⟩
          have hb5 := hb.trans (hb4.mono hb.size)
          clear hb4 hb hcall c0 c1 c2 c3 c4 hbs
          go_wp2
          go_ret
          exact ⟨ret_bool hR2.out.symm, hb5⟩
      · have hR2 : Hid (treeOk l0 = true) := hid (by rw [hrel.out, all_end (by omega)])
        clear hrel
        go_wp2
        go_ret
        exact ⟨ret_bool hR2.out.symm, hb⟩
    · have hR : Hid (treeOk l0 = false) := hid (by rw [hRd false (by simpa using hD), Bool.and_false])
      clear hRd
      go_enter Tryz.func50, Tryz.ntmps50
      go_wp2_with fail
      refine hsh.mono ?_; rintro e w1 ⟨rfl, hb1⟩
      clear hsh
      go_wp2_with fail
      refine (hdp.out _ hb1).mono ?_; rintro e w2 ⟨rfl, hb2⟩
      have hb3 := hb1.trans (hb2.mono hb1.size)
      clear hdp hb1 hb2
      go_wp2
      go_ret
      exact ⟨ret_bool hR.out.symm, hb3⟩
  · have hok : shapeOk (l0.map Node.kids) = false := by simpa using hok
    have hR : Hid (treeOk l0 = false) := hid (by unfold treeOk; rw [hok, Bool.false_and])
    rw [hok] at hsh
    clear hok
    go_enter Tryz.func50, Tryz.ntmps50
    go_wp2_with fail
    refine hsh.mono ?_; rintro e w1 ⟨rfl, hb1⟩
    clear hsh
    go_wp2
    go_ret
    exact ⟨ret_bool hR.out.symm, hb1⟩
end Go.Proofs.YtkelhmgdajiocaaGreatDoor
/- Walks and lemmas of this seat (FTreeOk2): what each theorem says of the functions that it names. Conditions: those that each theorem states. -/
namespace Go.Proofs.YtkelhmgdajiocaaGreatDoor
set_option linter.unusedVariables false
set_option linter.unusedSimpArgs false
open Go.RowKit Go.Lib

set_option maxRecDepth 100000 in
set_option maxHeartbeats 3200000 in
theorem implTreeOk_any (l0 : List Node) (v0 : Value) (w : World) (hx0 : ∀ x ∈ l0, x.Ok) (hn0 : bulk Node.sizes l0 ≤ 1048576) (hv0 : NodeSlc w v0 l0) (hE : WordEnv w) :
    Calls Tryz.prog 86 #[v0] w fun e w' => e = .returned (.bool (treeOk l0)) ∧ Below w.heap.size w w' := by
  have hsh := implShapeOk_any l0 v0 w hx0 hn0 hv0
  have hv := hv0
  obtain ⟨a, cap, rfl, hm, hc, hsl⟩ := hv0.shape
  by_cases hok : shapeOk (l0.map Node.kids) = true
  · obtain ⟨h1, h2, _⟩ := shapeOk_yes hok
    have hah := hid (shapeOk_ahead hok)
    have hkl := hid (fun i x (hx : l0[i]? = some x) => shapeOk_klen hok hx)
    have hroot := hid (fun W (hb : Below w.heap.size w W) => implrootOf_any l0 _ W hx0 hn0 (hv.mono hb (Nat.le_refl _)) hok)
    have hbd : (rootTree l0).depth ≤ 1048576 := by have := treeIx_depth_le (shapeOk_ahead hok) (l0.length - 1) (by omega); unfold rootTree; omega
    have hR : Hid (treeOk l0 = (l0.all (nodeOk l0) && decide ((rootTree l0).depth ≤ 40))) := hid (by unfold treeOk; rw [hok, Bool.true_and])
    rw [hok] at hsh
    clear hok
    go_enter Tryz.func86, Tryz.ntmps86
    go_wp2_with fail
    refine hsh.mono ?_; rintro e w1 ⟨rfl, hb1⟩
    clear hsh
    go_wp2
    go_loopw [12] (fun i wr => ∃ (k : Nat), i = .int .i64 k ∧ k ≤ l0.length ∧ Below w.heap.size w wr ∧ Hid (treeOk l0 = ((l0.drop k).all (nodeOk l0) && decide ((rootTree l0).depth ≤ 40)))) (fun i _ => l0.length - (RowKit.intOf i).toNat)
    case atStart => exact ⟨0, rfl, by omega, hb1, hR⟩
    clear hb1 hR
    obtain ⟨k, rfl, hk, hb, hrel⟩ := hrel
    have hbs := hb.size
    by_cases hlt : k < l0.length
    · obtain ⟨x, ka, kc, b, off, hx, rfl, C0, C1, C2, C3, C4, hkd⟩ := hsl.at (Below.refl _ _) (Nat.le_refl _) hlt
      have c0 := keepc hb C0
      have c1 := keepc hb C1
      have c2 := keepc hb C2
      have c3 := keepc hb C3
      have c4 := keepc hb C4
      have hmem := List.mem_of_getElem? hx
      have hxs := Nat.le_trans (bulk_mem Node.sizes hmem) hn0
      have hxop := (hx0 x hmem).2.2.2.1
      unfold Node.sizes at hxs
      have hkx := hid (hah.out k x hx)
      have hkx2 := hkl.out k x hx
      obtain ⟨_, _, _, hkv, hkc, hkm, hkrow⟩ := hkd
      simp at hkv
      obtain ⟨rfl, rfl⟩ := hkv
      unfold maxLen at hkm
      have hcall := hid fun W (hbW : Below w.heap.size w W) => implFieldsOk_any x.kind x.op x.text x.other (ka) x.kids.length kc W (by omega) (by omega) hxop (by omega) (hE.below hbW)
      have hbo := hid fun o => hb.alloc hbs o
      by_cases hf : nodeFields x = true
      · have hfB := hid hf
        unfold nodeFields at hf
        rw [hf] at hcall
        have hR2 : Hid (treeOk l0 = ((kidsOk l0 x.kind x.op x.kids.length 0 x.kids && (l0.drop (k + 1)).all (nodeOk l0)) && decide ((rootTree l0).depth ≤ 40))) := hid (by rw [hrel.out, drop_cons hx, List.all_cons, nodeOk, hfB.out, Bool.true_and])
        replace hx := hid hx
        replace hf := hid hf
        clear hrel hmem
        go_wp2_with fail
        refine (hcall.out _ (hbo.out _)).mono ?_; rintro e w4 ⟨rfl, hb4⟩
        have hN := (hb4.block wr.heap.size (by simp)).trans (heap_alloc_new wr _)
        have hb5 := (hbo.out _).trans (hb4.mono (by simp; omega))
        obtain ⟨n0, n1, n2, n3, n4⟩ := box_cells hN
        clear hb4 hb hcall c0 c1 c2 c3 c4 hbo
        replace hN := hid hN
        go_wp2
        clear n0 n1 n2 n3 n4
        generalize hbx : wr.heap.size = bx at hN ⊢
        replace hbx := hid hbx
        go_loopw [22] (fun j wr => ∃ (q : Nat), j = .int .i64 q ∧ q ≤ x.kids.length ∧ Below w.heap.size w wr ∧ wr.heap[bx]? = some (.cells #[.int .i64 x.kind, .int .i64 x.op, .string x.text, .string x.other, .slice ka x.kids.length kc] 58 (0, 0)) ∧ Hid (treeOk l0 = ((kidsOk l0 x.kind x.op x.kids.length q (x.kids.drop q) && (l0.drop (k + 1)).all (nodeOk l0)) && decide ((rootTree l0).depth ≤ 40)))) (fun j _ => x.kids.length - (RowKit.intOf j).toNat)
        case atStart => exact ⟨0, rfl, by omega, hb5, hN.out, hR2⟩
        clear hb5 hR2 hN
        obtain ⟨q, rfl, hq, hb, hN, hrel⟩ := hrel
        have hbs := hb.size
        obtain ⟨n0, n1, n2, n3, n4⟩ := box_cells hN
        have hNl := heap_lt hN
        by_cases hql : q < x.kids.length
        · obtain ⟨kid, hkid⟩ := get_of_lt hql
          obtain ⟨kb, koff, rfl, hkro⟩ := slc_some hkrow (by omega)
          have d0 := keepc hb (hkro.one int1_len hkid rfl)
          obtain ⟨hk0, hkj⟩ := hkx.out kid (List.mem_of_getElem? hkid)
          obtain ⟨m, rfl⟩ : ∃ m : Nat, kid = (m : Int) := ⟨kid.toNat, by omega⟩
          have hmk : m < k := by omega
          have hml : m < l0.length := by omega
          obtain ⟨y, ka2, kc2, b2, off2, hy, hab, e0, -, -, -, -, -⟩ := hsl.at (Below.refl _ _) (Nat.le_refl _) (show m < l0.length by omega)
          obtain ⟨rfl, rfl⟩ : b = b2 ∧ off = off2 := by simpa using hab
          replace e0 := keepc hb e0
          have hcall := hid fun W => implkidOk_any x.kind x.op x.text x.other (some ⟨kb, koff, none⟩) x.kids.length kc q y.kind W (by omega) (by omega)
          have hka := kindAt_of hy
          replace hN := hid hN
          by_cases hkk : kidOkB x.kind x.op x.kids.length q y.kind = true
          · have hR3 : Hid (treeOk l0 = ((kidsOk l0 x.kind x.op x.kids.length (q + 1) (x.kids.drop (q + 1)) && (l0.drop (k + 1)).all (nodeOk l0)) && decide ((rootTree l0).depth ≤ 40))) := hid (by rw [hrel.out, kids_go hkid (by rw [hka]; exact hkk)])
            rw [hkk] at hcall
            clear hkk hrel hka hy hkid hab hk0 hkj
            go_wp2_with fail
            go_region_law (first | (go_simp; go_at_call 119; refine (hcall.out _).mono ?_; rintro e w6 ⟨rfl, hb6⟩))
            all_goals have hb7 := hb.drew.trans (hb6.mono hb.size)
            all_goals have hN7 := (hb6.block bx hNl).trans hN.out
            all_goals clear hb6 hb hcall d0 e0 n0 n1 n2 n3 n4
            all_goals go_wp2
            all_goals go_roundw
            all_goals first
              | (simp [RowKit.intOf]; omega)
              | exact ⟨q + 1, by go_num, by omega, hb7, hN7, hR3⟩
          · have hkk : kidOkB x.kind x.op x.kids.length q y.kind = false := by simpa using hkk
            have hR3 : Hid (treeOk l0 = false) := hid (by rw [hrel.out, kids_stop hkid (by rw [hka]; exact hkk), Bool.false_and, Bool.false_and])
            rw [hkk] at hcall
            clear hkk hrel hka hy hkid hab hk0 hkj
            go_wp2_with fail
            go_region_law (first | (go_simp; go_at_call 119; refine (hcall.out _).mono ?_; rintro e w6 ⟨rfl, hb6⟩))
            all_goals have hb7 := hb.drew.trans (hb6.mono hb.size)
            all_goals clear hb6 hb hcall d0 e0 n0 n1 n2 n3 n4
            all_goals go_wp2
            all_goals go_ret
            all_goals exact ⟨ret_bool hR3.out.symm, hb7⟩
        · have hR3 : Hid (treeOk l0 = ((l0.drop (k + 1)).all (nodeOk l0) && decide ((rootTree l0).depth ≤ 40))) := hid (by rw [hrel.out, kids_end (by omega), Bool.true_and])
          clear hrel
          go_wp2
          go_roundw
          case rel => exact ⟨k + 1, by go_num, by omega, hb, hR3⟩
          case measure => simp [RowKit.intOf]; omega
      · have hf : nodeFields x = false := by simpa using hf
        have hR2 : Hid (treeOk l0 = false) := hid (by rw [hrel.out, all_stop hx (by rw [nodeOk, hf, Bool.false_and]), Bool.false_and])
        unfold nodeFields at hf
        rw [hf] at hcall
        clear hrel hmem hf hx
        go_wp2_with fail
        refine (hcall.out _ (hbo.out _)).mono ?_; rintro e w4 ⟨rfl, hb4⟩
        have hb5 := (hbo.out _).trans (hb4.mono (by simp; omega))
        clear hb4 hb hcall c0 c1 c2 c3 c4 hbo
        go_wp2
        go_ret
        exact ⟨ret_bool hR2.out.symm, hb5⟩
    · have hR2 : Hid (treeOk l0 = decide ((rootTree l0).depth ≤ 40)) := hid (by rw [hrel.out, all_end (by omega), Bool.true_and])
      clear hrel
      go_wp2_with fail
      refine (hroot.out _ hb).mono ?_; rintro e w2 ⟨ka, kn, kc, rfl, hb2, ht2⟩
      go_wp2_with fail
      refine (impldepth_any _ (rootTree l0) _ _ _ (Nat.lt_succ_self _) hbd ht2).mono ?_; rintro e w3 ⟨rfl, hb3⟩
      generalize (rootTree l0).depth = val at hR2 hbd ⊢
      have hb7 := (hb.trans (hb2.mono hb.size)).trans (hb3.mono (Nat.le_trans hb.size hb2.size))
      clear ht2 hb2 hb3 hroot
      go_wp2
      go_ret
      exact ⟨ret_bool (by rw [hR2.out, Bool.eq_iff_iff]; simp; omega), hb7⟩
  · have hok : shapeOk (l0.map Node.kids) = false := by simpa using hok
    have hR : Hid (treeOk l0 = false) := hid (by unfold treeOk; rw [hok, Bool.false_and])
    rw [hok] at hsh
    clear hok
    go_enter Tryz.func86, Tryz.ntmps86
    go_wp2_with fail
    refine hsh.mono ?_; rintro e w1 ⟨rfl, hb1⟩
    clear hsh
    go_wp2
    go_ret
    exact ⟨ret_bool hR.out.symm, hb1⟩
end Go.Proofs.YtkelhmgdajiocaaGreatDoor
