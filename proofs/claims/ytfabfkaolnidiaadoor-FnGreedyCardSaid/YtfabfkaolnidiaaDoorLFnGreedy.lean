/- Walks and lemmas of this seat (LFnGreedy): what each theorem says of the functions that it names. Conditions: those that each theorem states. -/
import Derived.Test.YtfabfkaolnidiaaDoorFGrow
import Derived.Test.YtfabfkaolnidiaaDoorFAt
import Derived.Test.YtfabfkaolnidiaaDoorFLongest
import Derived.Test.YtfabfkaolnidiaaDoorFRend2
namespace Go.Proofs.YtfabfkaolnidiaaDoor
set_option linter.unusedVariables false
set_option linter.unusedSimpArgs false
open Go.RowKit

set_option maxRecDepth 100000 in
set_option maxHeartbeats 6400000 in
theorem lawFnGreedy {w : World} (bs : List UInt8) (v0 : Value) (hv0 : Slc w v0 1 bs.length (bs.flatMap byte1)) (hE : HasMaxLen w) :
    Calls Tryd.prog 3 #[v0] w fun e w' => e = .returned (.bool true) ∧ Below w.heap.size w w' := by
  have hbig := hid (lawsbig_any v0 bs w hv0)
  by_cases hs : 1048576 < bs.length
  · have hd : decide (1048576 < bs.length) = true := by simpa using hs
    rw [hd] at hbig
    obtain ⟨_, a, cap, rfl, hcap, hm, hrow⟩ := hv0
    go_enter Tryd.func3, Tryd.ntmps3
    go_wp2_with (go_at_call 4; refine hbig.out.mono ?_; rintro e w' ⟨rfl, rfl⟩)
    go_ret
    exact ⟨rfl, Below.refl _ _⟩
  have hd : decide (1048576 < bs.length) = false := by simpa using hs
  rw [hd] at hbig
  replace hE := hid hE
  have hat := hid (fun (W : World) (hb : Below w.heap.size w W) (i : Int) (hi : 0 ≤ i ∧ i ≤ 1000) => lawsat_any v0 bs i hi W (hv0.mono hb (Nat.le_refl _)) (by omega))
  obtain ⟨_, a, cap, rfl, hcap, hm, _⟩ := hv0
  obtain ⟨i0, hi, hz0, hz1, hz2⟩ := info_parts Tryd.info3
  obtain ⟨i1, hj, hy0, hy1, hy2⟩ := info_parts infoDNode
  clear hd hs
  go_enter Tryd.func3, Tryd.ntmps3
  go_wp2_with (go_at_call 4; refine hbig.out.mono ?_; rintro e w' ⟨rfl, hw'⟩; subst w')
  refine (hat.out _ (by repeat (first | exact Below.refl _ _ | refine Below.alloc ?_ (by first | omega | (simp; done) | (simp; omega)) _ | refine Below.drew ?_)) 0 (by omega)).mono ?_; rintro e w1 ⟨x1, hx0, hx1, rfl, rfl⟩
  have hr0 := Int.emod_nonneg x1 (show (4 : Int) ≠ 0 by omega)
  have hr1 := Int.emod_lt_of_pos x1 (show (0 : Int) < 4 by omega)
  obtain ⟨n, hn⟩ : ∃ n : Nat, (n : Int) = 2 + x1 % 4 := ⟨(2 + x1 % 4).toNat, by omega⟩
  have hn1 : 2 ≤ n ∧ n ≤ 5 := by omega
  clear hbig
  go_wp2
  rw [← hn]
  replace hn := hid hn
  clear hr0 hr1
  go_loopw [3, 4, 6, 7] (fun v3 v4 fv i wr => ∃ (ws : List Nat) (lv kv : Value), v3 = lv ∧ v4 = kv ∧ i = .int .i64 ws.length ∧ ws.length ≤ n ∧ Hid (∀ k ∈ ws, 1 ≤ k ∧ k ≤ 6) ∧ fv = .int .i64 (gFlat ws).length ∧ Hid (GL w (gLeaf ws) lv kv wr)) (fun _ _ _ i _ => n - (intOf i).toNat)
  case atStart => exact ⟨[], _, _, rfl, rfl, rfl, by simp, hid (by simp), rfl, hid (GL.start w)⟩
  obtain ⟨ws, lv, kv, rfl, rfl, rfl, hcn, hws, rfl, hG⟩ := hrel
  have hLl := gLeaf_le ws
  have hFl := (gFlat_len ws (fun k hk => (hws.out k hk).2)).1
  by_cases hlt : ws.length < n
  · have h2 : Hid (0 < ws.length → ∀ m, gLeaf (ws ++ [m]) = gLeaf ws ++ [lineN] ++ [textN m] ∧ (gFlat (ws ++ [m])).length = (gFlat ws).length + 1 + m) := hid fun h m => ⟨by rw [gLeaf_snoc _ _ (by rintro rfl; simp at h)]; simp, gFlat_snoc _ _ (by rintro rfl; simp at h)⟩
    have h3 : Hid (¬ 0 < ws.length → ∀ m, gLeaf (ws ++ [m]) = gLeaf ws ++ [textN m] ∧ (gFlat (ws ++ [m])).length = (gFlat ws).length + m) := hid fun h m => by
      cases ws with
      | nil => simp [gLeaf, gFlat]
      | cons a l => simp at h
    have h4 : ∀ m, (ws ++ [m]).length = ws.length + 1 := fun m => by simp
    have hnew : Hid (∀ m, 1 ≤ m ∧ m ≤ 6 → ∀ k ∈ ws ++ [m], 1 ≤ k ∧ k ≤ 6) := hid fun m hm k hk => by
      rcases List.mem_append.1 hk with hk | hk
      · exact hws.out k hk
      · rw [List.mem_singleton.1 hk]; exact hm
    clear hws
    generalize gLeaf ws = L at *
    generalize (gFlat ws).length = F at *
    generalize ws.length = c at *
    by_cases h0 : 0 < c
    · have hx := hid (h2.out h0)
      clear h2 h3
      have hsz := hG.out.hb.size
      go_wp2_with (at_builtin; refine Hid.out ?_)
      refine hid ?_
      refine wpList_append_own _ (by rfl) _ _ 24 (by rfl) (w.heap.size) 28 i1 _ 4 56 Tryd.underlying24 hj hy0 hy1 hy2 rfl (by decide) _ (L.length) ((L.map leafV).flatMap DNode.cells) (by rfl) (hG.out.row.alloc _) _ 1 1 [.int .i64 2, .int .i64 0, .string ⟨#[]⟩, .slice none 0 0] (by rfl) (by rfl) (new_cells_at _ _ _ _ _ (by first | rfl | (simp; done) | (simp; omega)) (by first | rfl | (simp; done))) (by intro u hu; simp only [List.mem_cons, List.not_mem_nil, or_false] at hu; rcases hu with rfl | rfl | rfl | rfl <;> rfl) (by unfold maxLen; omega) (by omega) (by first | omega | (simp; done) | (simp; omega)) ?_
      intro lv2 w2 hown2 hgr2 hiff; clear hiff
      have hH := GL.push (x := lineN) hG.out _ hown2 hgr2
      obtain ⟨la2, lc2, rfl, hlm⟩ := own_slice hH.row
      clear hown2 hgr2 hlm hsz hG
      have hsz := hH.hb.size
      replace hH := hid hH
      go_wp2_with (at_builtin; refine Hid.out ?_)
      refine hid ?_
      refine wpList_append_own _ (by rfl) _ _ 25 (by rfl) (w.heap.size) 3 i0 _ 1 8 Tryd.underlying25 hi hz0 hz1 hz2 rfl (by decide) _ (L.length) ((upto L.length).flatMap int1) (by rfl) (hH.out.nums.alloc _) _ 1 1 [.int .i64 (L.length : Int)] (by rfl) (by rfl) (new_cells_at _ _ _ _ _ (by first | rfl | (simp; done) | (simp; omega)) (by first | rfl | (simp; done))) (by intro u hu; simp only [List.mem_cons, List.not_mem_nil, or_false] at hu; rcases hu with rfl; rfl) (by unfold maxLen; omega) (by omega) (by first | omega | (simp; done) | (simp; omega)) ?_
      intro kv2 w3 hown3 hgr3 hiff; clear hiff
      have hG2 := GH.push hH.out _ hown3 rfl hgr3
      obtain ⟨ka2, kc2, hkv, hkm⟩ := own_slice hG2.nums
      have e9 : (L ++ [lineN]).length = L.length + 1 := by simp
      rw [e9] at hkv
      subst hkv
      clear e9 hown3 hgr3 hkm hsz hH
      replace hG2 := hid hG2
      obtain ⟨L2, hL2⟩ : ∃ L2, L2 = L ++ [lineN] := ⟨_, rfl⟩
      have hl2 : L2.length = L.length + 1 := by rw [hL2]; simp
      rw [← hL2] at hG2
      rw [← hl2] at hG2 ⊢
      have hLb2 : L2.length ≤ 30 := by omega
      replace hl2 := hid hl2
      replace hL2 := hid hL2
      have hsz := hG2.out.hb.size
      go_wp2_with fail
      refine (hat.out _ hG2.out.hb ((c : Int) + 1) (by omega)).mono ?_; rintro e w2 ⟨x2, hx2, hx3, rfl, rfl⟩
      have hr0 := Int.emod_nonneg x2 (show (6 : Int) ≠ 0 by omega)
      have hr1 := Int.emod_lt_of_pos x2 (show (0 : Int) < 6 by omega)
      obtain ⟨m, hm⟩ : ∃ m : Nat, (m : Int) = 1 + x2 % 6 := ⟨(1 + x2 % 6).toNat, by omega⟩
      have hm1 : 1 ≤ m ∧ m ≤ 6 := by omega
      replace hm := hid hm
      rename World => wo
      go_wp2
      go_loopw [8, 9] (fun tv kv wr => ∃ j : Nat, j ≤ m ∧ tv = .string (wordB j) ∧ kv = .int .i64 ((m : Int) - j) ∧ wr = wo) (fun _ kv _ => (intOf kv).toNat)
      case atStart => exact ⟨0, by omega, rfl, by rw [hm.out]; congr 1; omega, rfl⟩
      obtain ⟨j, hj0, rfl, rfl, rfl⟩ := hrel
      by_cases hj1 : j < m
      · have hz := wordB_size j
        have hs2 := hid (wordB_succ j)
        go_wp2
        all_goals go_roundw
        all_goals first
          | (simp [intOf]; omega)
          | exact ⟨j + 1, by omega, by rw [hs2.out], by congr 1; omega, by first | rfl | trivial⟩
      · obtain rfl : j = m := by omega
        have hz := wordB_size j
        have hsz := hG2.out.hb.size
        go_wp2_with (at_builtin; refine Hid.out ?_)
        refine hid ?_
        refine wpList_append_own _ (by rfl) _ _ 24 (by rfl) (w.heap.size) 28 i1 _ 4 56 Tryd.underlying24 hj hy0 hy1 hy2 rfl (by decide) _ (L2.length) ((L2.map leafV).flatMap DNode.cells) (by rfl) (hG2.out.row.alloc _) _ 1 1 [.int .i64 1, .int .i64 0, .string (wordB j), .slice none 0 0] (by rfl) (by rfl) (new_cells_at _ _ _ _ _ (by first | rfl | (simp; done) | (simp; omega)) (by first | rfl | (simp; done))) (by intro u hu; simp only [List.mem_cons, List.not_mem_nil, or_false] at hu; rcases hu with rfl | rfl | rfl | rfl <;> rfl) (by unfold maxLen; omega) (by omega) (by first | omega | (simp; done) | (simp; omega)) ?_
        intro lv2 w2 hown2 hgr2 hiff; clear hiff
        have hH9 := GL.push (x := textN j) hG2.out _ hown2 hgr2
        obtain ⟨la2, lc2, rfl, hlm⟩ := own_slice hH9.row
        clear hown2 hgr2 hlm hsz hG2
        have hsz := hH9.hb.size
        replace hH9 := hid hH9
        go_wp2_with (at_builtin; refine Hid.out ?_)
        refine hid ?_
        refine wpList_append_own _ (by rfl) _ _ 25 (by rfl) (w.heap.size) 3 i0 _ 1 8 Tryd.underlying25 hi hz0 hz1 hz2 rfl (by decide) _ (L2.length) ((upto L2.length).flatMap int1) (by rfl) (hH9.out.nums.alloc _) _ 1 1 [.int .i64 (L2.length : Int)] (by rfl) (by rfl) (new_cells_at _ _ _ _ _ (by first | rfl | (simp; done) | (simp; omega)) (by first | rfl | (simp; done))) (by intro u hu; simp only [List.mem_cons, List.not_mem_nil, or_false] at hu; rcases hu with rfl; rfl) (by unfold maxLen; omega) (by omega) (by first | omega | (simp; done) | (simp; omega)) ?_
        intro kv2 w3 hown3 hgr3 hiff; clear hiff
        have hG9 := GH.push hH9.out _ hown3 rfl hgr3
        obtain ⟨ka2, kc2, hkv, hkm⟩ := own_slice hG9.nums
        have e9 : (L2 ++ [textN j]).length = L2.length + 1 := by simp
        rw [e9] at hkv
        subst hkv
        clear e9 hown3 hgr3 hkm hsz hH9
        replace hG9 := hid hG9
        go_wp2
        all_goals go_roundw
        all_goals first
          | (simp [intOf]; omega)
          | exact ⟨ws ++ [j], _, _, rfl, rfl, by rw [h4]; go_num, by rw [h4]; omega, hid (hnew.out j hm1), by rw [(hx.out j).2]; first | rfl | (congr 1; omega), hid (by rw [(hx.out j).1, ← hL2.out]; exact hG9.out)⟩
    · have hx := hid (h3.out h0)
      clear h2 h3
      have hsz := hG.out.hb.size
      go_wp2_with fail
      refine (hat.out _ hG.out.hb ((c : Int) + 1) (by omega)).mono ?_; rintro e w2 ⟨x2, hx2, hx3, rfl, rfl⟩
      have hr0 := Int.emod_nonneg x2 (show (6 : Int) ≠ 0 by omega)
      have hr1 := Int.emod_lt_of_pos x2 (show (0 : Int) < 6 by omega)
      obtain ⟨m, hm⟩ : ∃ m : Nat, (m : Int) = 1 + x2 % 6 := ⟨(1 + x2 % 6).toNat, by omega⟩
      have hm1 : 1 ≤ m ∧ m ≤ 6 := by omega
      replace hm := hid hm
      rename World => wo
      go_wp2
      go_loopw [8, 9] (fun tv kv wr => ∃ j : Nat, j ≤ m ∧ tv = .string (wordB j) ∧ kv = .int .i64 ((m : Int) - j) ∧ wr = wo) (fun _ kv _ => (intOf kv).toNat)
      case atStart => exact ⟨0, by omega, rfl, by rw [hm.out]; congr 1; omega, rfl⟩
      obtain ⟨j, hj0, rfl, rfl, rfl⟩ := hrel
      by_cases hj1 : j < m
      · have hz := wordB_size j
        have hs2 := hid (wordB_succ j)
        go_wp2
        all_goals go_roundw
        all_goals first
          | (simp [intOf]; omega)
          | exact ⟨j + 1, by omega, by rw [hs2.out], by congr 1; omega, by first | rfl | trivial⟩
      · obtain rfl : j = m := by omega
        have hz := wordB_size j
        have hsz := hG.out.hb.size
        go_wp2_with (at_builtin; refine Hid.out ?_)
        refine hid ?_
        refine wpList_append_own _ (by rfl) _ _ 24 (by rfl) (w.heap.size) 28 i1 _ 4 56 Tryd.underlying24 hj hy0 hy1 hy2 rfl (by decide) _ (L.length) ((L.map leafV).flatMap DNode.cells) (by rfl) (hG.out.row.alloc _) _ 1 1 [.int .i64 1, .int .i64 0, .string (wordB j), .slice none 0 0] (by rfl) (by rfl) (new_cells_at _ _ _ _ _ (by first | rfl | (simp; done) | (simp; omega)) (by first | rfl | (simp; done))) (by intro u hu; simp only [List.mem_cons, List.not_mem_nil, or_false] at hu; rcases hu with rfl | rfl | rfl | rfl <;> rfl) (by unfold maxLen; omega) (by omega) (by first | omega | (simp; done) | (simp; omega)) ?_
        intro lv2 w2 hown2 hgr2 hiff; clear hiff
        have hH9 := GL.push (x := textN j) hG.out _ hown2 hgr2
        obtain ⟨la2, lc2, rfl, hlm⟩ := own_slice hH9.row
        clear hown2 hgr2 hlm hsz hG
        have hsz := hH9.hb.size
        replace hH9 := hid hH9
        go_wp2_with (at_builtin; refine Hid.out ?_)
        refine hid ?_
        refine wpList_append_own _ (by rfl) _ _ 25 (by rfl) (w.heap.size) 3 i0 _ 1 8 Tryd.underlying25 hi hz0 hz1 hz2 rfl (by decide) _ (L.length) ((upto L.length).flatMap int1) (by rfl) (hH9.out.nums.alloc _) _ 1 1 [.int .i64 (L.length : Int)] (by rfl) (by rfl) (new_cells_at _ _ _ _ _ (by first | rfl | (simp; done) | (simp; omega)) (by first | rfl | (simp; done))) (by intro u hu; simp only [List.mem_cons, List.not_mem_nil, or_false] at hu; rcases hu with rfl; rfl) (by unfold maxLen; omega) (by omega) (by first | omega | (simp; done) | (simp; omega)) ?_
        intro kv2 w3 hown3 hgr3 hiff; clear hiff
        have hG9 := GH.push hH9.out _ hown3 rfl hgr3
        obtain ⟨ka2, kc2, hkv, hkm⟩ := own_slice hG9.nums
        have e9 : (L ++ [textN j]).length = L.length + 1 := by simp
        rw [e9] at hkv
        subst hkv
        clear e9 hown3 hgr3 hkm hsz hH9
        replace hG9 := hid hG9
        go_wp2
        all_goals go_roundw
        all_goals first
          | (simp [intOf]; omega)
          | exact ⟨ws ++ [j], _, _, rfl, rfl, by rw [h4]; go_num, by rw [h4]; omega, hid (hnew.out j hm1), by rw [(hx.out j).2]; first | rfl | (congr 1; omega), hid (by rw [(hx.out j).1]; exact hG9.out)⟩
  · have hcn : ws.length = n := by omega
    have hnn : 2 ≤ ws.length ∧ ws.length ≤ 5 := by omega
    have hwsO := hws.out
    have hwz : (⟨(gFlat ws).toArray⟩ : ByteArray).size = (gFlat ws).length := by show (gFlat ws).toArray.size = _; simp
    have hR : Hid (∀ wd : Int, 0 ≤ wd ∧ wd < 40 → tup (renderL (gDoc ws) wd) = .returned (.tuple #[.string (if ((gFlat ws).length : Int) ≤ wd then ⟨(gFlat ws).toArray⟩ else ⟨(gBrk ws).toArray⟩), .bool true])) := hid fun wd h => by
      rw [render_greedy hnn ⟨h.1, by omega⟩]
      split <;> rfl
    have hfine := hid (gDoc_fine hnn hwsO)
    have hok := hid (gDoc_ok hnn)
    have hlen1 := hid (one_line hnn.1)
    have hbr := brk_lines hwsO (by rintro rfl; simp at hnn)
    have hbz : (⟨(gBrk ws).toArray⟩ : ByteArray).size ≤ 9 * ws.length := by
      have := (gFlat_len ws (fun k hk => (hwsO k hk).2)).2
      show (gBrk ws).toArray.size ≤ _
      simpa using this
    have hdoc : Hid (gDoc ws = gLeaf ws ++ [gCat (gLeaf ws).length, gNest (gLeaf ws).length, gGroup (gLeaf ws).length]) := hid rfl
    have hkids : Hid (∀ x ∈ gLeaf ws, x.kids = []) := hid fun x => gLeaf_kids
    rw [hcn] at hbr hbz hLl hFl
    have hbr2 := hbr.2
    have hbr1 := hid hbr.1
    clear hws hwsO hnn hcn hbr
    generalize gDoc ws = D at *
    generalize gLeaf ws = L at *
    generalize hTF : (⟨(gFlat ws).toArray⟩ : ByteArray) = TF at *
    generalize hTB : (⟨(gBrk ws).toArray⟩ : ByteArray) = TB at *
    generalize (gFlat ws).length = F at *
    clear hTF hTB
    have hLb : L.length ≤ 20 := by omega
    have hsz := hG.out.hb.size
    obtain ⟨ka, kc, rfl, hkm⟩ := own_slice hG.out.nums
    replace hwz := hid hwz
    go_wp2_with (at_builtin; refine Hid.out ?_)
    refine hid ?_
    refine wpList_append_own _ (by rfl) _ _ 24 (by rfl) (w.heap.size) 28 i1 _ 4 56 Tryd.underlying24 hj hy0 hy1 hy2 rfl (by decide) _ (L.length) ((L.map leafV).flatMap DNode.cells) (by rfl) (hG.out.row.alloc _) _ 1 1 [.int .i64 6, .int .i64 0, .string ⟨#[]⟩, .slice ka L.length kc] (by rfl) (by rfl) (new_cells_at _ _ _ _ _ (by first | rfl | (simp; done) | (simp; omega)) (by first | rfl | (simp; done))) (by intro u hu; simp only [List.mem_cons, List.not_mem_nil, or_false] at hu; rcases hu with rfl | rfl | rfl | rfl <;> rfl) (by unfold maxLen; omega) (by omega) (by first | omega | (simp; done) | (simp; omega)) ?_
    intro lv2 w2 hown2 hgr2 hiff; clear hiff
    have hB2 := (hG.out.hb.alloc hsz _).grown hgr2 (by simp; omega) (fun r e => (hG.out.row.lt r e).1)
    have hn2 := hid (kept_types hgr2 (hG.out.nums.alloc _) (hG.out.row.alloc _) (by decide))
    obtain ⟨la2, lc2, rfl, hlm⟩ := own_slice hown2
    have hs2 := hB2.size
    replace hB2 := hid hB2
    replace hown2 := hid hown2
    clear hG hgr2 hsz
    go_wp2_with (at_builtin; refine Hid.out ?_)
    refine hid ?_
    refine wpList_append_own _ (by rfl) _ _ 24 (by rfl) (w.heap.size) 28 i1 _ 4 56 Tryd.underlying24 hj hy0 hy1 hy2 rfl (by decide) _ (L.length + 1) ((L.map leafV).flatMap DNode.cells ++ [.int .i64 6, .int .i64 0, .string ⟨#[]⟩, .slice ka L.length kc]) (by rfl) ((hown2.out.alloc _).alloc _) _ 1 1 [.int .i64 4, .int .i64 2, .string ⟨#[]⟩, .slice (some ⟨w2.heap.size, 0, none⟩) 1 1] (by rfl) (by rfl) (new_cells_at _ _ _ _ _ (by first | rfl | (simp; done) | (simp; omega)) (by first | rfl | (simp; done))) (by intro u hu; simp only [List.mem_cons, List.not_mem_nil, or_false] at hu; rcases hu with rfl | rfl | rfl | rfl <;> rfl) (by unfold maxLen; omega) (by omega) (by first | omega | (simp; done) | (simp; omega)) ?_
    intro lv3 w3 hown3 hgr3 hiff; clear hiff
    have hB3 := ((hB2.out.alloc hs2 _).alloc (by simp; omega) _).grown hgr3 (by simp; omega) (fun r e => (hown2.out.lt r e).1)
    have hn3 := hid (kept_types hgr3 ((hn2.out.alloc _).alloc _) ((hown2.out.alloc _).alloc _) (by decide))
    have hk3 := hid (kept_types hgr3 ((World.ownsRow_lit (base := 0) (e := 3) (size := 1) w2 #[.int .i64 (L.length : Int)] 1 (Nat.zero_le _) (by unfold maxLen; omega) rfl).alloc _) ((hown2.out.alloc _).alloc _) (by decide))
    obtain ⟨la3, lc3, rfl, hlm⟩ := own_slice hown3
    have hs3 := hB3.size
    replace hB3 := hid hB3
    replace hown3 := hid hown3
    clear hB2 hn2 hown2 hgr3 hs2
    go_wp2_with (at_builtin; refine Hid.out ?_)
    refine hid ?_
    refine wpList_append_own _ (by rfl) _ _ 24 (by rfl) (w.heap.size) 28 i1 _ 4 56 Tryd.underlying24 hj hy0 hy1 hy2 rfl (by decide) _ (L.length + 1 + 1) ((L.map leafV).flatMap DNode.cells ++ [.int .i64 6, .int .i64 0, .string ⟨#[]⟩, .slice ka L.length kc] ++ [.int .i64 4, .int .i64 2, .string ⟨#[]⟩, .slice (some ⟨w2.heap.size, 0, none⟩) 1 1]) (by rfl) ((hown3.out.alloc _).alloc _) _ 1 1 [.int .i64 5, .int .i64 0, .string ⟨#[]⟩, .slice (some ⟨w3.heap.size, 0, none⟩) 1 1] (by rfl) (by rfl) (new_cells_at _ _ _ _ _ (by first | rfl | (simp; done) | (simp; omega)) (by first | rfl | (simp; done))) (by intro u hu; simp only [List.mem_cons, List.not_mem_nil, or_false] at hu; rcases hu with rfl | rfl | rfl | rfl <;> rfl) (by unfold maxLen; omega) (by omega) (by first | omega | (simp; done) | (simp; omega)) ?_
    intro lv4 w4 hown4 hgr4 hiff; clear hiff
    have hB4 := ((hB3.out.alloc hs3 _).alloc (by simp; omega) _).grown hgr4 (by simp; omega) (fun r e => (hown3.out.lt r e).1)
    have hn4 := kept_types hgr4 ((hn3.out.alloc _).alloc _) ((hown3.out.alloc _).alloc _) (by decide)
    have hk4 := kept_types hgr4 ((hk3.out.alloc _).alloc _) ((hown3.out.alloc _).alloc _) (by decide)
    have hj4 := kept_types hgr4 ((World.ownsRow_lit (base := 0) (e := 3) (size := 1) w3 #[.int .i64 ((L.length : Int) + 1)] 1 (Nat.zero_le _) (by unfold maxLen; omega) rfl).alloc _) ((hown3.out.alloc _).alloc _) (by decide)
    obtain ⟨la4, lc4, rfl, hlm⟩ := own_slice hown4
    have hD : DNodeSlc w4 (.slice la4 (L.length + 1 + 1 + 1) lc4) D := by
      rw [hdoc.out]
      refine greedy_slc (own_base (by simpa [leafV, DNode.cells, gCat, gNest, gGroup] using hown4) (Nat.zero_le _)) hkids.out ?_ (Slc.of_own hk4) (Slc.of_own hj4)
      show Slc w4 _ 1 (upto L.length).length ((upto L.length).flatMap int1)
      rw [upto_len]
      exact Slc.of_own hn4
    have hs4 := hB4.size
    have hrend := hid (fun wd => implRender_any D _ wd w4 hfine.out.1 hfine.out.2 hD)
    have hdk := hid (fun (W : World) (hb : Below w4.heap.size w4 W) => specDocOk_any D _ W hfine.out.1 hfine.out.2 (hD.mono hb (Nat.le_refl _)))
    rw [hok.out] at hdk
    replace hB4 := hid hB4
    clear hB3 hn3 hk3 hown3 hgr4 hn4 hk4 hj4 hown4 hD hs3 hdoc hkids hfine hok
    go_wp2_with fail
    refine (hat.out _ hB4.out 9 (by omega)).mono ?_; rintro e w5 ⟨x5, hx5, hx6, rfl, hw5⟩; subst w5
    have hr0 := Int.emod_nonneg x5 (show (40 : Int) ≠ 0 by omega)
    have hr1 := Int.emod_lt_of_pos x5 (show (0 : Int) < 40 by omega)
    have hRw := hR.out (x5 % 40) ⟨hr0, hr1⟩
    by_cases hfw : (F : Int) ≤ x5 % 40
    · rw [if_pos hfw] at hRw
      have hTFz : TF.size ≤ 1048576 := by have := hwz.out; omega
      replace hRw := hid hRw
      go_wp2_with fail
      refine (hrend.out (x5 % 40)).mono ?_; rintro e w6 ⟨he, hb6⟩
      rw [hRw.out] at he; subst he
      have hB6 := hid (hB4.out.trans (hb6.mono hs4))
      clear hb6 hrend hRw hR
      go_wp2_with fail
      refine (implLinesOf_any TF w6 hTFz (hE.out.below hB6.out)).mono ?_; rintro e w7 ⟨v7, rfl, hb7, ho7⟩
      have hB7 := hid (hB6.out.trans (hb7.mono hB6.out.size))
      obtain ⟨a7, c7, rfl, hm7⟩ := own_slice ho7
      clear ho7 hb7
      rw [hlen1.out]
      go_wp2
      go_ret
      exact ⟨ret_bool (by simp [hwz.out]), hB7.out⟩
    · rw [if_neg hfw] at hRw
      have hTBz : TB.size ≤ 1048576 := by omega
      replace hRw := hid hRw
      go_wp2_with fail
      refine (hrend.out (x5 % 40)).mono ?_; rintro e w6 ⟨he, hb6⟩
      rw [hRw.out] at he; subst he
      have hb46 := hid hb6
      have hB6 := hid (hB4.out.trans (hb6.mono hs4))
      clear hb6 hrend hRw hR
      go_wp2_with fail
      refine (implLinesOf_any TB w6 hTBz (hE.out.below hB6.out)).mono ?_; rintro e w7 ⟨v7, rfl, hb7, ho7⟩
      have hb47 := hid (hb46.out.trans (hb7.mono hb46.out.size))
      have hB7 := hid (hB6.out.trans (hb7.mono hB6.out.size))
      obtain ⟨a7, c7, rfl, hm7⟩ := own_slice ho7
      clear ho7 hb7 hb46
      rw [hbr1.out]
      go_wp2_with fail
      refine (implLongest_any TB w7 hTBz (hE.out.below hB7.out)).mono ?_; rintro e w8 ⟨rfl, hb8⟩
      have hb48 := hid (hb47.out.trans (hb8.mono hb47.out.size))
      have hB8 := hid (hB7.out.trans (hb8.mono hB7.out.size))
      clear hb8 hb47
      go_wp2_with fail
      refine (hdk.out w8 hb48.out).mono ?_; rintro e w9 ⟨rfl, hb9⟩
      have hB9 := hid (hB8.out.trans (hb9.mono hB8.out.size))
      clear hb9
      go_wp2
      go_ret
      exact ⟨rfl, hB9.out⟩
end Go.Proofs.YtfabfkaolnidiaaDoor
