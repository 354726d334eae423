/- Walks and lemmas of this seat (FUnusedS): what each theorem says of the functions that it names. Conditions: those that each theorem states. -/
import Derived.Test.YtgmciglaapnahaaGreatDoorGUU
import Derived.Deep.RegionHeld3
import Derived.Test.YtgmciglaapnahaaGreatDoorGK
import Derived.Lib.SliceRun
import Derived.Test.YtgmciglaapnahaaGreatDoorGP
import Derived.Test.YtgmciglaapnahaaGreatDoorGB
namespace Go.Proofs.YtgmciglaapnahaaGreatDoor
set_option linter.unusedVariables false
set_option linter.unusedSimpArgs false
open Go.RowKit Go.Lib

set_option maxRecDepth 100000 in
set_option maxHeartbeats 3200000 in
theorem specl24Block_any (l0 : List Node) (v0 : Value) (a1 : Int) (w : World) (hx0 : ∀ x ∈ l0, x.Ok) (hn0 : bulk Node.sizes l0 ≤ 1048576) (hv0 : NodeSlc w v0 l0) (hf : isFuncB l0 a1 = true) :
    Calls Tryz.prog 105 #[v0, .int .i64 a1] w fun e w' => ∃ v', e = .returned v' ∧ Below w.heap.size w w' ∧ OwnNode w' w.heap.size w'.heap.size v' (bodyOf l0 a1.toNat) := by
  have hv := hv0
  obtain ⟨a, cap, rfl, hm, hc, hsl⟩ := hv0.shape
  obtain ⟨hok, n, x', rfl, hnl, hx', _, hk1⟩ := isFunc_yes hf
  obtain ⟨m, hkid, hml, hbx⟩ := body_kid hok hx' hk1
  have hB : Hid (bodyOf l0 n = part l0 (m : Int)) := hid (by unfold bodyOf; rw [hbx])
  obtain ⟨x, ka, kc, b, off, hx, rfl, C0, C1, C2, C3, C4, hkd⟩ := hsl.at (Below.refl _ _) (Nat.le_refl _) hnl
  obtain rfl : x' = x := by rw [hx'] at hx; exact Option.some.inj hx
  have hkl := shapeOk_klen (treeOk_shape hok) hx'
  obtain ⟨_, _, _, hkv, hkc, hkm, hkrow⟩ := hkd
  simp at hkv
  obtain ⟨rfl, rfl⟩ := hkv
  obtain ⟨kb, koff, rfl, hkro⟩ := slc_some hkrow (by omega)
  have D0 := hkro.one int1_len hkid rfl
  obtain ⟨L, hL⟩ : ∃ L : Nat, x'.kids.length = L + 1 := ⟨x'.kids.length - 1, by omega⟩
  have hLi : (x'.kids.length : Int) - 1 = (L : Int) := by omega
  have hLn : x'.kids.length - 1 = L := by omega
  have hLt : L < x'.kids.length := by omega
  have hLz : (L : Int) < (x'.kids.length : Int) := by omega
  have hL0 : (0 : Int) ≤ (L : Int) := by omega
  have hn0' : (0 : Int) ≤ (n : Int) := by omega
  have hnz : (n : Int) < (l0.length : Int) := by omega
  have hLw : IntKind.wrap .i64 (L : Int) = (L : Int) := wrap_in _ (by unfold I64; omega)
  rw [hLn] at D0
  have hpart := hid (fun W (hb : Below w.heap.size w W) => specl6Part_any l0 _ m W hx0 hn0 (hv.mono hb (Nat.le_refl _)) (treeOk_shape hok) hml)
  rw [Int.toNat_natCast]
  generalize bodyOf l0 n = body at hB ⊢
  unfold maxLen at hkm
  have hl1 := World.block_lt_of_cell? w _ C4
  have hl2 := World.block_lt_of_cell? w _ D0
  clear hf hx hx' hok hkrow hkro hkid hLn hbx hk1 C0 C1 C2 C3
  replace hv := hid hv
  replace hL := hid hL
  generalize x'.kids.length = K at hL hLi hLt hLz hkl hkc hkm C4
  go_enter Tryz.func105, Tryz.ntmps105
  go_wp2_with fail
  go_region_held3 (fun W => W.cell? ⟨b, off + n * 5 + 4, none⟩ = some (.slice (some ⟨kb, koff, none⟩) K kc) ∧ W.cell? ⟨kb, koff + L, none⟩ = some (.int .i64 m))
    (first
      | exact ⟨(hb3.cell (p := ⟨b, off + n * 5 + 4, none⟩) hl1).trans C4, (hb3.cell (p := ⟨kb, koff + L, none⟩) hl2).trans D0⟩
      | go_keep)
    (first | (go_at_call 113; refine (hpart.out _ (Below.refl _ _).drew).mono ?_; rintro e w3 ⟨v3, rfl, hb3, ho3⟩))
  go_wp2
  go_ret
  exact ⟨_, rfl, ⟨hb3.os, hb3.tape, hb3.output, hb3.size, hb3.block⟩, by rw [hB.out]; exact ho3⟩

set_option maxRecDepth 100000 in
set_option maxHeartbeats 3200000 in
theorem specUnused_any (l0 : List Node) (v0 : Value) (a1 : Int) (w : World) (hx0 : ∀ x ∈ l0, x.Ok) (hn0 : bulk Node.sizes l0 ≤ 1048576) (hv0 : NodeSlc w v0 l0) (ha1 : I64 a1) :
    Calls Tryz.prog 26 #[v0, .int .i64 a1] w fun e w' => ∃ v', e = .returned v' ∧ Below w.heap.size w w' ∧ w'.ownsRow w.heap.size 9 1 v' (unusedOf l0 a1).length ((unusedOf l0 a1).flatMap str1) := by
  have hv := hv0
  have hn := length_bulk Node.sizes l0
  have hpar := hid (fun W (hb : Below w.heap.size w W) => specParamsOf_any l0 v0 a1 W hx0 hn0 (hv.mono hb (Nat.le_refl _)) ha1)
  have hpl := paramsOf_len l0 (by omega) a1
  have hpm := hid (params_max hx0 a1)
  have hps := hid (params_small hn0 a1)
  have hfun : ∀ x ∈ paramsOf l0 a1, isFuncB l0 a1 = true := fun x hx => by
    unfold paramsOf at hx
    by_cases hf : isFuncB l0 a1 = true
    · exact hf
    · rw [if_neg hf] at hx; simp at hx
  have hblk := hid (fun hf W (hb : Below w.heap.size w W) => specl24Block_any l0 v0 a1 W hx0 hn0 (hv.mono hb (Nat.le_refl _)) hf)
  obtain ⟨a, cap, rfl, hm, hc, hsl⟩ := hv0.shape
  have hbx := hid (part_ok hx0 (by omega) (bodyIx l0 a1.toNat))
  have hbn := hid (part_bulk l0 (bodyIx l0 a1.toNat) hn0)
  have hP0 : unusedOf l0 a1 = namesT ((paramsOf l0 a1).filter fun s => usesOf s (bodyOf l0 a1.toNat) == 0) := rfl
  change Hid (∀ y ∈ bodyOf l0 a1.toNat, y.Ok) at hbx
  change Hid (bulk Node.sizes (bodyOf l0 a1.toNat) ≤ 1048576) at hbn
  replace hfun := hid hfun
  generalize unusedOf l0 a1 = rp at hP0 ⊢
  generalize paramsOf l0 a1 = P at hpar hpl hpm hps hfun hP0 ⊢
  generalize bodyOf l0 a1.toNat = body at hblk hbx hbn hP0
  have hP : Hid (rp = ((P.drop 0).filter fun s => usesOf s body == 0).foldl (fun l s => putT s l) []) := hid hP0
  have huse := hid (fun x (hs : x.size ≤ 1048576) vb W (hb : NodeSlc W vb body) => specUsesOf_any body vb x W hbx.out hbn.out hb hs)
  clear hP0
  go_enter Tryz.func26, Tryz.ntmps26
  go_wp2_with fail
  refine (hpar.out _ (by repeat (first | exact Below.refl _ _ | refine Below.alloc ?_ (by first | omega | (simp; done) | (simp; omega)) _ | refine Below.drew ?_))).mono ?_; rintro e w2 ⟨pv, rfl, hb2, hownp⟩
  have hB2 : Below w.heap.size w w2 := (by repeat (first | exact Below.refl _ _ | refine Below.alloc ?_ (by first | omega | (simp; done) | (simp; omega)) _ | refine Below.drew ?_) : Below w.heap.size w _).trans (hb2.mono (by simp))
  have hown0 := own_below (own_new0 w 9 1) hb2 (Nat.le_refl _)
  obtain ⟨_, pa, pcap, rfl, hpc, hpcm, hprow⟩ := Slc.of_own hownp
  unfold maxLen at hpcm
  clear hpar hb2 hownp
  go_wp2
  go_loopw [5, 7] (fun v i wr => ∃ (k : Nat) (acc : List ByteArray) (kv : Value), kv = v ∧ i = .int .i64 k ∧ k ≤ P.length ∧ acc.length ≤ k ∧ (∀ x ∈ acc, x.size ≤ maxLen) ∧ Below w.heap.size w wr ∧ Below w2.heap.size w2 wr ∧ wr.ownsRow w.heap.size 9 1 kv acc.length (acc.flatMap str1) ∧ Hid (rp = ((P.drop k).filter fun s => usesOf s body == 0).foldl (fun l s => putT s l) acc)) (fun _ i _ => P.length - (intOf i).toNat)
  case atStart => exact ⟨0, [], _, rfl, rfl, by omega, by simp, by simp, hB2, Below.refl _ _, hown0, hP⟩
  clear hB2 hown0 hP
  obtain ⟨k, acc, v, rfl, rfl, hk, hacc, hxa, hb, hbw, hown, hrel⟩ := hrel
  have hbs := hb.size
  by_cases hlt : k < P.length
  · obtain ⟨x, hx⟩ := get_of_lt hlt
    obtain ⟨pb, poff, rfl, hpro⟩ := hprow.resolve_left (by omega)
    have hrw := hpro.mono hbw (Nat.le_refl _)
    have c0 := hrw.one str1_len hx rfl
    have hpbl := World.block_lt_of_cell? wr _ c0
    have hxm := hpm.out x (List.mem_of_getElem? hx)
    have hxs := hps.out x (List.mem_of_getElem? hx)
    have hbl := hid (hblk.out (hfun.out x (List.mem_of_getElem? hx)))
    have hus := hid (huse.out x hxs)
    rw [drop_cons hx, List.filter_cons] at hrel
    obtain ⟨u, hu⟩ : ∃ u, u = usesOf x body := ⟨_, rfl⟩
    rw [← hu] at hrel hus
    have hki : (k : Int) < (P.length : Int) := by omega
    replace hxa := hid hxa
    have hbwr : Below wr.heap.size wr wr.drew := (Below.refl _ _).drew
    clear hx hpro hprow hu
    by_cases hd : u = 0
    · subst hd
      rw [if_pos (by rfl), List.foldl_cons] at hrel
      have hput := hid fun W (ho : W.ownsRow w.heap.size 9 1 v acc.length (acc.flatMap str1)) (hW : w.heap.size ≤ W.heap.size) => specl23Put_any acc v x W w.heap.size hW (by omega) hxm hxa.out ho
      have hpl2 := putT_len x acc
      have hpm2 := hid (putT_mem2 (Q := fun x => x.size ≤ maxLen) hxm hxa.out)
      clear hxm hxs
      go_wp2_with fail
      go_region_held3 (fun W => Below wr.heap.size wr W ∧ W.cell? ⟨pb, poff + k, none⟩ = some (.string x))
        (first
          | exact ⟨(Below.refl _ _).drew, c0⟩
          | exact (fun h3 => ⟨h3, (h3.cell (p := ⟨pb, poff + k, none⟩) hpbl).trans c0⟩) (keep_b2 (by assumption) hb3)
          | exact (fun h3 => ⟨h3, (h3.cell (p := ⟨pb, poff + k, none⟩) hpbl).trans c0⟩) (keep_b (by assumption) hb3)
          | exact (fun h3 => ⟨h3, (h3.cell (p := ⟨pb, poff + k, none⟩) hpbl).trans c0⟩) (keep_b2 (by assumption) hb4)
          | exact (fun h3 => ⟨h3, (h3.cell (p := ⟨pb, poff + k, none⟩) hpbl).trans c0⟩) (keep_b (by assumption) hb4))
        (first
          | (go_at_call 105; refine (hbl.out _ hb.drew).mono ?_; rintro e w3 ⟨bv, rfl, hb3, ho3⟩)
          | (go_at_call 53; refine (hus.out _ _ (OwnNode.slc ho3)).mono ?_; rintro e w4 ⟨rfl, hb4⟩))
      have hB3 := hb.drew.trans (hb3.mono hb.drew.size)
      have hB4 := hB3.trans (hb4.mono hB3.size)
      have hBw := (hbw.drew.trans (hb3.mono hbw.drew.size))
      have hBw4 := hBw.trans (hb4.mono hBw.size)
      have hW4 := hbwr.trans (hb3.mono (Nat.le_refl _))
      have hW5 : Below wr.heap.size wr w4 := hW4.trans (hb4.mono hW4.size)
      have c1 := (hW5.cell (p := ⟨pb, poff + k, none⟩) hpbl).trans c0
      have ho4 := own_below hown hW5 (Nat.le_refl _)
      have hcp := hid (hput.out w4 ho4 hB4.size)
      clear hput hb3 hb4 ho3 hB3 hBw hW4 hb hbw hown c0 hbwr ho4
      go_wp2_with fail
      refine hcp.out.mono ?_; rintro e w5 ⟨v5, rfl, hb5, ho5⟩
      clear hcp
      go_wp2
      go_roundw
      case rel => exact ⟨k + 1, putT x acc, _, rfl, by go_num, by omega, by omega, hpm2.out, hB4.trans (hb5.mono hB4.size), hBw4.trans (hb5.mono hBw4.size), ho5, hrel⟩
      case measure => simp [intOf]; omega
    · rw [if_neg (by simpa using hd)] at hrel
      have hu0 : ((u : Int) == 0) = false := by simp; omega
      have hu1 : ¬ (u : Int) = 0 := by omega
      clear hxm hxs
      go_wp2_with fail
      go_region_held3 (fun W => Below wr.heap.size wr W ∧ W.cell? ⟨pb, poff + k, none⟩ = some (.string x))
        (first
          | exact ⟨(Below.refl _ _).drew, c0⟩
          | exact (fun h3 => ⟨h3, (h3.cell (p := ⟨pb, poff + k, none⟩) hpbl).trans c0⟩) (keep_b2 (by assumption) hb3)
          | exact (fun h3 => ⟨h3, (h3.cell (p := ⟨pb, poff + k, none⟩) hpbl).trans c0⟩) (keep_b (by assumption) hb3)
          | exact (fun h3 => ⟨h3, (h3.cell (p := ⟨pb, poff + k, none⟩) hpbl).trans c0⟩) (keep_b2 (by assumption) hb4)
          | exact (fun h3 => ⟨h3, (h3.cell (p := ⟨pb, poff + k, none⟩) hpbl).trans c0⟩) (keep_b (by assumption) hb4))
        (first
          | (go_at_call 105; refine (hbl.out _ hb.drew).mono ?_; rintro e w3 ⟨bv, rfl, hb3, ho3⟩)
          | (go_at_call 53; refine (hus.out _ _ (OwnNode.slc ho3)).mono ?_; rintro e w4 ⟨rfl, hb4⟩))
      have hB3 := hb.drew.trans (hb3.mono hb.drew.size)
      have hB4 := hB3.trans (hb4.mono hB3.size)
      have hBw := (hbw.drew.trans (hb3.mono hbw.drew.size))
      have hBw4 := hBw.trans (hb4.mono hBw.size)
      have hW4 := hbwr.trans (hb3.mono (Nat.le_refl _))
      have hW5 : Below wr.heap.size wr w4 := hW4.trans (hb4.mono hW4.size)
      have ho4 := own_below hown hW5 (Nat.le_refl _)
      clear hb3 hb4 ho3 hB3 hBw hW4 hb hbw hown c0 hbwr
      go_wp2
      go_roundw
      case rel => exact ⟨k + 1, acc, _, rfl, by go_num, by omega, by omega, hxa.out, hB4, hBw4, ho4, hrel⟩
      case measure => simp [intOf]; omega
  · have hR : Hid (rp = acc) := hid (by rw [hrel.out, List.drop_of_length_le (by omega)]; rfl)
    replace hxa := hid hxa
    clear hrel
    go_wp2
    go_ret
    exact ⟨_, rfl, hb, by rw [hR.out]; exact hown⟩
end Go.Proofs.YtgmciglaapnahaaGreatDoor
/- Walks and lemmas of this seat (FParamsNe): what each theorem says of the functions that it names. Conditions: those that each theorem states. -/
namespace Go.Proofs.YtgmciglaapnahaaGreatDoor
set_option linter.unusedVariables false
set_option linter.unusedSimpArgs false
open Go.RowKit Go.Lib

set_option maxRecDepth 100000 in
set_option maxHeartbeats 3200000 in
theorem implparamsOf_ne (l0 : List Node) (v0 : Value) (a1 : Int) (w : World) (hx0 : ∀ x ∈ l0, x.Ok) (hn0 : bulk Node.sizes l0 ≤ 1048576) (hv0 : NodeSlc w v0 l0) (hf : isFuncB l0 a1 = true) :
    Calls Tryz.prog 103 #[v0, .int .i64 a1] w fun e w' => ∃ v', e = .returned v' ∧ Below w.heap.size w w' ∧ v' ≠ .slice none 0 0 ∧ w'.ownsRow w.heap.size 9 1 v' (paramsAt l0 a1.toNat).length ((paramsAt l0 a1.toNat).flatMap str1) := by
  have hv := hv0
  obtain ⟨a, cap, rfl, hm, hc, hsl⟩ := hv0.shape
  have hn := length_bulk Node.sizes l0
  obtain ⟨i0, hi, hz0, hz1, hz2⟩ := info_parts Tryz.info9
  obtain ⟨hok, n, x', rfl, hnl, hx', _, hk1⟩ := isFunc_yes hf
  obtain ⟨x, ka, kc, b, off, hx, rfl, C0, C1, C2, C3, C4, hkd⟩ := hsl.at (Below.refl _ _) (Nat.le_refl _) hnl
  obtain rfl : x' = x := by rw [hx'] at hx; exact Option.some.inj hx
  have hkl := shapeOk_klen (treeOk_shape hok) hx'
  have hpk := hid (fun q (hq : q < x'.kids.length - 1) => param_kid hok hx' hq)
  have hpl := hid (paramKids_len l0 n hx')
  obtain ⟨_, _, _, hkv, hkc, hkm, hkrow⟩ := hkd
  simp at hkv
  obtain ⟨rfl, rfl⟩ := hkv
  obtain ⟨kb, koff, rfl, hkro⟩ := slc_some hkrow (by omega)
  unfold maxLen at hkm
  rw [Int.toNat_natCast]
  have hP : Hid (paramsAt l0 n = (paramKids l0 n).map (textAt l0)) := hid rfl
  generalize paramsAt l0 n = ps at hP ⊢
  obtain ⟨L, hL⟩ : ∃ L : Nat, x'.kids.length = L + 1 := ⟨x'.kids.length - 1, by omega⟩
  have hLi : (x'.kids.length : Int) - 1 = (L : Int) := by omega
  clear hf hx hx' hok hkrow
  go_enter Tryz.func103, Tryz.ntmps103
  have hal := fun o => ((Below.refl w.heap.size w).alloc (Nat.le_refl _) o)
  have c4 := fun o => keepc (hal o) C4
  clear hal
  go_wp2_with fail
  go_quiet (fail)
  go_wp2
  go_loopw [5, 23] (fun v i wr => ∃ (q : Nat) (acc : List ByteArray), i = .int .i64 q ∧ q ≤ L ∧ acc.length ≤ q ∧ Below w.heap.size w wr ∧ v ≠ .slice none 0 0 ∧ wr.ownsRow w.heap.size 9 1 v acc.length (acc.flatMap str1) ∧ Hid (ps = acc ++ ((paramKids l0 n).drop q).map (textAt l0))) (fun _ i _ => L - (intOf i).toNat)
  case atStart => exact ⟨0, [], rfl, by omega, by simp, below_drewN (by repeat (first | exact Below.refl _ _ | refine Below.alloc ?_ (by first | omega | (simp; done) | (simp; omega)) _ | refine Below.drew ?_)) _, by simp, own_dN (own_new0 _ _ _) _, hid (by rw [hP.out]; rfl)⟩
  obtain ⟨q, acc, rfl, hq, hacc, hb, hnil, hown, hrel⟩ := hrel
  replace hnil := hid hnil
  have hbs := hb.size
  have c4 := keepc hb C4
  by_cases hlt : q < L
  · obtain ⟨m, y, hkid, hml, hy, hdr⟩ := hpk.out q (by omega)
    have D0 := hkro.one int1_len hkid rfl
    have d0 := keepc hb D0
    obtain ⟨y', ka2, kc2, b2, off2, hy', hab, -, -, E2, -, -, -⟩ := hsl.at (Below.refl _ _) (Nat.le_refl _) hml
    obtain rfl : y = y' := by rw [hy] at hy'; exact Option.some.inj hy'
    obtain ⟨rfl, rfl⟩ : b = b2 ∧ off = off2 := by simpa using hab
    have e2 := keepc hb E2
    have hql : q < x'.kids.length := by omega
    have hR2 : Hid (ps = (acc ++ [y.text]) ++ ((paramKids l0 n).drop (q + 1)).map (textAt l0)) := hid (by rw [hrel.out, hdr, List.map_cons, textAt_of hy]; simp)
    clear hrel hdr hkid hab hy hy'
    go_wp2_with (at_builtin; refine wpList_append_own _ rfl _ _ 26 rfl w.heap.size 9 i0 _ 1 16 Tryz.underlying26 hi hz0 hz1 hz2 rfl (by decide) _ acc.length (acc.flatMap str1) rfl (hown.alloc _) _ _ _ (str1 y.text) rfl rfl (new_cells_at _ _ _ _ _ rfl (by first | rfl | simp)) (by intro u hu; simp [str1] at hu; rcases hu with rfl | rfl | rfl | rfl | rfl <;> rfl) (by unfold maxLen; omega) (by omega) (by first | omega | (simp; done) | (simp; omega)) ?_; intro v2 w2 hown2 hgr2 hiff; clear hiff; have hb2 := app_below (hb.alloc (by first | omega | (simp; done) | (simp; omega)) _) (hown.alloc _) hgr2)
    all_goals go_roundw
    all_goals first
      | (simp [intOf]; omega)
      | exact ⟨q + 1, acc ++ [y.text], by go_num, by omega, by simp; omega, hb2, own_ne hown2 (by omega), by simpa using hown2, hR2⟩
  · have hR2 : Hid (ps = acc) := hid (by rw [hrel.out, List.drop_of_length_le (by rw [hpl.out]; omega)]; simp)
    clear hrel
    go_wp2
    go_ret
    exact ⟨_, rfl, hb, hnil.out, by rw [hR2.out]; exact hown⟩
end Go.Proofs.YtgmciglaapnahaaGreatDoor
/- Walks and lemmas of this seat (FDelete): what each theorem says of the functions that it names. Conditions: those that each theorem states. -/
namespace Go.Proofs.YtgmciglaapnahaaGreatDoor
set_option linter.unusedVariables false
set_option linter.unusedSimpArgs false
open Go.RowKit Go.Lib

/-! slices.DeleteFunc at texts, with the closure of Unused. -/
theorem setCells_all (g : Nat) (us : List Value) : ∀ (w : World) (o : Nat), w.setCells g o us = storeAll w g o us := by
  induction us with
  | nil => intro w o; rfl
  | cons u us ih => intro w o; exact ih _ _
theorem setAll_take (us : List Value) : ∀ (xs : List Value) (o : Nat), (setAll xs o us).take o = xs.take o := by
  induction us with
  | nil => intro xs o; rfl
  | cons u us ih =>
    intro xs o
    rw [setAll]
    have h := congrArg (List.take o) (ih (xs.set o u) (o + 1))
    rw [List.take_take, List.take_take, Nat.min_eq_left (by omega)] at h
    rw [h, List.take_set_of_le (Nat.le_refl o)]
theorem grown_storeAll (g : Nat) (us : List Value) : ∀ (w : World) (o : Nat), w.grownBy (storeAll w g o us) (some g) := by
  induction us with
  | nil => intro w o; exact grown_refl _ _
  | cons u us ih => intro w o; exact grown_trans (grown_set w g o u) (ih _ _)
theorem own_clear {w : World} {B : Nat} {e : TypeId} {n cap k g : Nat} {xs : List Value} (h : w.ownsRow B e 1 (.slice (some ⟨g, 0, none⟩) n cap) n xs) (hk : k ≤ n) (us : List Value) :
    (w.setCells g k us).ownsRow B e 1 (.slice (some ⟨g, 0, none⟩) k cap) k (xs.take k) ∧ w.grownBy (w.setCells g k us) (some g) := by
  rw [setCells_all]
  refine ⟨?_, grown_storeAll g us w k⟩
  have := own_cut (own_storeAll us k h) hk
  rw [setAll_take] at this
  exact this
theorem below_grown {w w' : World} (h : Below w.heap.size w w') (r : Option Nat) : w.grownBy w' r := ⟨h.os, h.tape, h.output, h.size, fun i hi _ => h.block i hi⟩
theorem str_map (l : List ByteArray) : l.flatMap str1 = l.map Value.string := by
  induction l with
  | nil => rfl
  | cons x l ih => rw [List.flatMap_cons, ih]; rfl
theorem str_at {l : List ByteArray} {k : Nat} {x : ByteArray} (h : l[k]? = some x) : (l.flatMap str1)[k]? = some (.string x) := by rw [str_map, List.getElem?_map, h]; rfl
theorem str_set (l : List ByteArray) (k : Nat) (x : ByteArray) : (l.flatMap str1).set k (.string x) = (l.set k x).flatMap str1 := by rw [str_map, str_map, List.map_set]
def firstS (p : ByteArray → Bool) : List ByteArray → Nat → Int
  | [], _ => -1
  | x :: l, k => if p x = true then (k : Int) else firstS p l (k + 1)
theorem firstS_spec (p : ByteArray → Bool) : ∀ (l : List ByteArray) (k : Nat), (firstS p l k = -1 ∧ ∀ y ∈ l, p y = false) ∨ ∃ (n : Nat) (x : ByteArray), firstS p l k = ((k + n : Nat) : Int) ∧ l[n]? = some x ∧ p x = true ∧ ∀ y ∈ l.take n, p y = false := by
  intro l
  induction l with
  | nil => intro k; exact .inl ⟨rfl, by simp⟩
  | cons z l ih =>
    intro k
    rw [firstS]
    cases hz : p z with
    | true => exact .inr ⟨0, z, by simp, rfl, hz, by simp⟩
    | false =>
      rw [if_neg (by simp)]
      rcases ih (k + 1) with ⟨h1, h2⟩ | ⟨n, x, h1, h2, h3, h4⟩
      · refine .inl ⟨h1, fun y hy => ?_⟩
        rcases List.mem_cons.1 hy with rfl | hy
        · exact hz
        · exact h2 y hy
      · refine .inr ⟨n + 1, x, by rw [h1]; congr 1; omega, by simpa using h2, h3, fun y hy => ?_⟩
        rw [List.take_succ_cons] at hy
        rcases List.mem_cons.1 hy with rfl | hy
        · exact hz
        · exact h4 y hy
theorem own_froz {w : World} {B : Nat} {e : TypeId} {s n cap g : Nat} {xs : List Value} (h : w.ownsRow B e s (.slice (some ⟨g, 0, none⟩) n cap) n xs) (j : Nat) : w.frozen? ⟨g, j, none⟩ = false := by
  rcases h.2 with ⟨e0, _⟩ | ⟨g', cap', cur, he, _, hg, _⟩
  · cases e0
  · injection he with e1 _ _
    injection e1 with e1
    injection e1 with e1
    subst e1
    simp [World.frozen?, hg]
theorem zeroStr (w : World) : (zeroValue 9).run Tryz.prog w = .ok (.string ⟨#[]⟩) w := by kernel_rfl
/-- What the closure says of each text of a row, whatever has become of the row g. -/
def PredS (l0 : List ByteArray) (p : ByteArray → Bool) (g pb : Nat) (w : World) : Prop :=
  ∀ x ∈ l0, ∀ W, w.grownBy W (some g) → Calls Tryz.prog 104 #[.string x, .pointer (some ⟨pb, 0, none⟩)] W fun e w' => e = .returned (.bool (p x)) ∧ Below W.heap.size W w'

set_option maxRecDepth 100000 in
set_option maxHeartbeats 1600000 in
theorem indexFuncS (l0 : List ByteArray) (p : ByteArray → Bool) (g cap pb B : Nat) (w : World) (hn0 : l0.length ≤ 4194304) (hcap : cap ≤ maxLen) (ho : w.ownsRow B 9 1 (.slice (some ⟨g, 0, none⟩) l0.length cap) l0.length (l0.flatMap str1)) (hp : PredS l0 p g pb w) :
    Calls Tryz.prog 191 #[.slice (some ⟨g, 0, none⟩) l0.length cap, .func (.func 104) #[] #[.pointer (some ⟨pb, 0, none⟩)]] w fun e w' => e = .returned (.int .i64 (firstS p l0 0)) ∧ Below w.heap.size w w' := by
  unfold maxLen at hcap
  replace hp := hid hp
  replace ho := hid ho
  go_enter Tryz.func191, Tryz.ntmps191
  go_wp2
  go_loopw [8] (fun i wr => ∃ (k : Nat), i = .int .i64 k ∧ k ≤ l0.length ∧ Below w.heap.size w wr ∧ Hid (firstS p l0 0 = firstS p (l0.drop k) k)) (fun i _ => l0.length - (intOf i).toNat)
  case atStart => exact ⟨0, rfl, by omega, by repeat (first | exact Below.refl _ _ | refine Below.alloc ?_ (by first | omega | (simp; done) | (simp; omega)) _ | refine Below.drew ?_), hid rfl⟩
  obtain ⟨k, rfl, hk, hb, hrel⟩ := hrel
  have hbs := hb.size
  by_cases hlt : k < l0.length
  · obtain ⟨x, hx⟩ := get_of_lt hlt
    have c0 := keepc hb (own_read ho.out (str_at hx))
    have hcall := hid (hp.out x (List.mem_of_getElem? hx) wr (below_grown hb _))
    rw [drop_cons hx, firstS] at hrel
    clear hx
    cases hd : p x with
    | true =>
      rw [hd] at hcall hrel
      have hR : Hid (firstS p l0 0 = (k : Int)) := hid (by rw [hrel.out]; rfl)
      clear hrel hd
      go_wp2_with (go_at_call 104; refine hcall.out.mono ?_; rintro e w2 ⟨rfl, hb2⟩)
      go_ret
      exact ⟨ret_int hR.out.symm, hb.trans (hb2.mono hbs)⟩
    | false =>
      rw [hd] at hcall hrel
      have hR : Hid (firstS p l0 0 = firstS p (l0.drop (k + 1)) (k + 1)) := hid (by rw [hrel.out]; rfl)
      clear hrel hd
      go_wp2_with (go_at_call 104; refine hcall.out.mono ?_; rintro e w2 ⟨rfl, hb2⟩)
      go_roundw
      case rel => exact ⟨k + 1, by go_num, by omega, hb.trans (hb2.mono hbs), hR⟩
      case measure => simp [intOf]; omega
  · have hR : Hid (firstS p l0 0 = -1) := hid (by rw [hrel.out, List.drop_of_length_le (by omega), firstS])
    clear hrel
    go_wp2
    go_ret
    exact ⟨ret_int hR.out.symm, hb⟩

set_option maxRecDepth 100000 in
set_option maxHeartbeats 3200000 in
theorem deleteFuncS (l0 : List ByteArray) (p : ByteArray → Bool) (g cap pb B : Nat) (w : World) (hn0 : l0.length ≤ 4194304) (hcap : cap ≤ maxLen) (hlc : l0.length ≤ cap) (ho : w.ownsRow B 9 1 (.slice (some ⟨g, 0, none⟩) l0.length cap) l0.length (l0.flatMap str1)) (hp : PredS l0 p g pb w) :
    Calls Tryz.prog 102 #[.slice (some ⟨g, 0, none⟩) l0.length cap, .func (.func 104) #[] #[.pointer (some ⟨pb, 0, none⟩)]] w fun e w' =>
      e = .returned (.slice (some ⟨g, 0, none⟩) (l0.filter fun s => !p s).length cap) ∧ w.grownBy w' (some g) ∧ w'.ownsRow B 9 1 (.slice (some ⟨g, 0, none⟩) (l0.filter fun s => !p s).length cap) (l0.filter fun s => !p s).length ((l0.filter fun s => !p s).flatMap str1) := by
  have hix := indexFuncS l0 p g cap pb B w hn0 hcap ho hp
  have hcap2 := hcap
  unfold maxLen at hcap2
  rcases firstS_spec p l0 0 with ⟨h1, h2⟩ | ⟨k0, x0, h1, h2, h3, h4⟩
  · have hF : (l0.filter fun s => !p s) = l0 := List.filter_eq_self.2 fun y hy => by rw [h2 y hy]; rfl
    rw [h1] at hix
    rw [hF]
    replace ho := hid ho
    clear hp h2
    go_enter Tryz.func102, Tryz.ntmps102
    go_wp2_with (go_at_call 191; refine hix.mono ?_; rintro e w2 ⟨rfl, hb2⟩)
    go_ret
    exact ⟨rfl, below_grown hb2 _, own_below ho.out hb2 (Nat.le_refl _)⟩
  · have hk0 := (List.getElem?_eq_some_iff.1 h2).1
    rw [Nat.zero_add] at h1
    rw [h1] at hix
    have hne1 : ((k0 : Int) == -1) = false := by first | (simp; done) | (simp; omega)
    have hth := hid (Thin.start (p := fun s => !p s) h2 (by rw [h3]; rfl) (fun y hy => by rw [h4 y hy]; rfl))
    obtain ⟨F, hF⟩ : ∃ F, F = l0.filter fun s => !p s := ⟨_, rfl⟩
    rw [← hF]
    replace ho := hid ho
    replace hp := hid hp
    replace hF := hid hF
    clear h1 h2 h3 h4
    go_enter Tryz.func102, Tryz.ntmps102
    go_wp2_with (go_at_call 191; refine hix.mono ?_; rintro e w2 ⟨rfl, hb2⟩)
    clear hix
    go_loopw [5, 6, 7] (fun si sj sv wr => ∃ (i j : Nat) (dk : List ByteArray), si = .int .i64 i ∧ sj = .int .i64 j ∧ j ≤ l0.length ∧ i < j ∧ w.grownBy wr (some g) ∧ wr.ownsRow B 9 1 (.slice (some ⟨g, 0, none⟩) l0.length cap) l0.length (dk.flatMap str1) ∧ Hid (Thin (fun s => !p s) l0 dk i j)) (fun _ j _ _ => l0.length - (intOf j).toNat)
    case atStart => exact ⟨k0, k0 + 1, l0, rfl, by go_num, by omega, by omega, below_grown hb2 _, own_below ho.out hb2 (Nat.le_refl _), hth⟩
    clear hth hb2
    obtain ⟨i, j, dk, rfl, rfl, hj, hij, hg, hown, hthin⟩ := hrel
    have hdl := hthin.out.len
    have hki : i < dk.length := by omega
    obtain ⟨y, hy⟩ := get_of_lt hki
    by_cases hlt : j < l0.length
    · obtain ⟨x, hx⟩ := get_of_lt hlt
      have hdx : dk[j]? = some x := (hthin.out.at hlt).trans hx
      have c0 := own_read hown (str_at hdx)
      have hcall := hid (hp.out x (List.mem_of_getElem? hx) wr hg)
      cases hd : p x with
      | true =>
        have hth2 := hid (hthin.out.skip hx (by rw [hd]; rfl))
        rw [hd] at hcall
        replace hown := hid hown
        replace hg := hid hg
        clear hthin hd hx hdx hy hdl hki
        go_wp2_with (go_at_call 104; refine hcall.out.mono ?_; rintro e w3 ⟨rfl, hb3⟩)
        go_roundw
        case rel => exact ⟨i, j + 1, dk, rfl, by go_num, by omega, by omega, grown_trans hg.out (below_grown hb3 _), own_below hown.out hb3 (Nat.le_refl _), hth2⟩
        case measure => simp [intOf]; omega
      | false =>
        have hth2 := hid (hthin.out.keep hx (by rw [hd]; rfl))
        rw [hd] at hcall
        have hyc := hid (str_at hy)
        replace hown := hid hown
        replace hg := hid hg
        clear hthin hd hx hdx hy hdl hki
        have hiz : (i : Int) < (l0.length : Int) := by omega
        go_wp2_with (go_at_call 104; refine hcall.out.mono ?_; rintro e w3 ⟨rfl, hb3⟩; have k1 := own_read (own_below hown.out hb3 (Nat.le_refl _)) hyc.out; have k2 := own_froz (own_below hown.out hb3 (Nat.le_refl _)) i)
        go_roundw
        case rel =>
          have h9 := (own_below hown.out hb3 (Nat.le_refl _)).stored i (.string x)
          exact ⟨i + 1, j + 1, dk.set i x, by go_num, by go_num, by omega, by omega, grown_trans (grown_trans hg.out (below_grown hb3 _)) h9.2, by rw [← str_set]; exact h9.1, hth2⟩
        case measure => simp [intOf]; omega
    · obtain rfl : j = l0.length := by omega
      have hfin := hid (hthin.out.done (Nat.le_refl _))
      have hcl : ∀ ty, (Builtin.clear_ #[26] ty #[.slice (some ⟨g, i, none⟩) (l0.length - i) (cap - i)]).run Tryz.prog wr = .ok (.tuple #[]) (wr.setCells g i (List.replicate (l0.length - i) (.string ⟨#[]⟩))) :=
        fun ty => Lib.run_clear_slice wr _ _ ty _ Tryz.underlying26 zeroStr rfl rfl g i _ _ (by omega) (fun t ht => by
          obtain ⟨z, hz⟩ := get_of_lt (show i + t < dk.length by omega)
          rw [own_read hown (str_at hz)]; rfl) (fun t ht => own_froz hown _)
      have hfl : F.length = i := by rw [hF.out, ← hfin.out, List.length_take]; omega
      obtain ⟨h8, h9⟩ := own_clear hown (k := i) (by omega) (List.replicate (l0.length - i) (.string ⟨#[]⟩))
      have hcut : (dk.flatMap str1).take i = F.flatMap str1 := by rw [str_map, str_map, ← List.map_take, hfin.out, hF.out]
      rw [hcut] at h8
      replace hfl := hid hfl
      replace h8 := hid h8
      replace h9 := hid h9
      replace hg := hid hg
      clear hthin hy hcut hown hki hfin
      have hiz : (i : Int) ≤ (l0.length : Int) := by omega
      have hic : (i : Int) ≤ (cap : Int) := by omega
      go_wp2
      go_ret
      exact ⟨by rw [hfl.out]; rfl, grown_trans hg.out h9.out, by rw [hfl.out]; exact h8.out⟩
end Go.Proofs.YtgmciglaapnahaaGreatDoor
/- Walks and lemmas of this seat (FUnusedI): what each theorem says of the functions that it names. Conditions: those that each theorem states. -/
namespace Go.Proofs.YtgmciglaapnahaaGreatDoor
set_option linter.unusedVariables false
set_option linter.unusedSimpArgs false
open Go.RowKit Go.Lib

theorem new_cell {w W : World} {u : Value} {T : TypeId} (hb : Below (w.alloc (.cells #[u] T)).drew.heap.size (w.alloc (.cells #[u] T)).drew W) : W.heap[w.heap.size]? = some (.cells #[u] T (0, 0)) := (hb.block _ (show w.heap.size < (w.alloc (.cells #[u] T)).heap.size by simp)).trans (heap_alloc_new w _)
set_option maxRecDepth 100000 in
theorem unusedClosure (body : List Node) (vb : Value) (s : ByteArray) (pb : Nat) (w : World) (hx : ∀ x ∈ body, x.Ok) (hn : bulk Node.sizes body ≤ 1048576) (hv : NodeSlc w vb body) (hs : s.size ≤ 1048576) (hp : w.cell? ⟨pb, 0, none⟩ = some vb) :
    Calls Tryz.prog 104 #[.string s, .pointer (some ⟨pb, 0, none⟩)] w fun e w' => e = .returned (.bool (!(usesOf s body == 0))) ∧ Below w.heap.size w w' := by
  have huse := implUsesOf_any body vb s w hx hn hv hs
  obtain ⟨a, cap, rfl, hm, hc, hsl⟩ := hv.shape
  generalize usesOf s body = u at huse ⊢
  by_cases hu : u = 0
  · subst hu
    go_enter Tryz.func104, Tryz.ntmps104
    go_wp2_with fail
    refine huse.mono ?_; rintro e w2 ⟨rfl, hb2⟩
    go_wp2
    go_ret
    exact ⟨ret_bool rfl, hb2⟩
  · have hu1 : (0 : Int) < (u : Int) := by omega
    have hu2 : (u == 0) = false := by simpa using hu
    go_enter Tryz.func104, Tryz.ntmps104
    go_wp2_with fail
    refine huse.mono ?_; rintro e w2 ⟨rfl, hb2⟩
    go_wp2
    go_ret
    exact ⟨ret_bool (by rw [hu2]; simp; omega), hb2⟩

set_option maxRecDepth 100000 in
set_option maxHeartbeats 3200000 in
theorem implUnused_any (l0 : List Node) (v0 : Value) (a1 : Int) (w : World) (hx0 : ∀ x ∈ l0, x.Ok) (hn0 : bulk Node.sizes l0 ≤ 1048576) (hv0 : NodeSlc w v0 l0) (ha1 : I64 a1) (hE : WordEnv w) :
    Calls Tryz.prog 24 #[v0, .int .i64 a1] w fun e w' => ∃ v', e = .returned v' ∧ Below w.heap.size w w' ∧ w'.ownsRow w.heap.size 9 1 v' (unusedOf l0 a1).length ((unusedOf l0 a1).flatMap str1) := by
  have hv := hv0
  have hn := length_bulk Node.sizes l0
  have hcall := implisFunc_any l0 v0 a1 w hx0 hn0 hv hE
  obtain ⟨a, cap, rfl, hm, hc, hsl⟩ := hv0.shape
  by_cases hf : isFuncB l0 a1 = true
  · have hU : Hid (unusedOf l0 a1 = namesT ((paramsAt l0 a1.toNat).filter (idle l0 a1.toNat))) := hid (by unfold unusedOf paramsOf; rw [if_pos hf])
    have hpl := paramsOf_len l0 (by omega) a1
    have hps := params_small hn0 a1
    have hPe : paramsOf l0 a1 = paramsAt l0 a1.toNat := by unfold paramsOf; rw [if_pos hf]
    rw [hPe] at hpl hps
    have hpar := hid (fun W (hb : Below w.heap.size w W) => implparamsOf_ne l0 _ a1 W hx0 hn0 (hv.mono hb (Nat.le_refl _)) hf)
    obtain ⟨hok, n, x', rfl, hnl, hx', _, hk1⟩ := isFunc_yes hf
    obtain ⟨m, hkid, hml, hbx⟩ := body_kid hok hx' hk1
    obtain ⟨x, ka, kc, b, off, hx, rfl, C0, C1, C2, C3, C4, hkd⟩ := hsl.at (Below.refl _ _) (Nat.le_refl _) hnl
    obtain rfl : x' = x := by rw [hx'] at hx; exact Option.some.inj hx
    have hkl := shapeOk_klen (treeOk_shape hok) hx'
    obtain ⟨_, _, _, hkv, hkc, hkm, hkrow⟩ := hkd
    simp at hkv
    obtain ⟨rfl, rfl⟩ := hkv
    obtain ⟨kb, koff, rfl, hkro⟩ := slc_some hkrow (by omega)
    have D0 := hkro.one int1_len hkid rfl
    obtain ⟨L, hL⟩ : ∃ L : Nat, x'.kids.length = L + 1 := ⟨x'.kids.length - 1, by omega⟩
    have hLi : (x'.kids.length : Int) - 1 = (L : Int) := by omega
    have hLn : x'.kids.length - 1 = L := by omega
    have hLt : L < x'.kids.length := by omega
    have hLz : (L : Int) < (x'.kids.length : Int) := by omega
    have hL0 : (0 : Int) ≤ (L : Int) := by omega
    have hn0' : (0 : Int) ≤ (n : Int) := by omega
    have hnz : (n : Int) < (l0.length : Int) := by omega
    have hLw : IntKind.wrap .i64 (L : Int) = (L : Int) := wrap_in _ (by unfold I64; omega)
    rw [hLn] at D0
    have hpart := hid (fun W (hb : Below w.heap.size w W) => implPart_any l0 _ (m : Int) W hx0 hn0 (hv.mono hb (Nat.le_refl _)) (by unfold I64; omega))
    have hbo := hid (part_ok hx0 (by omega) (bodyIx l0 n))
    have hbn := hid (part_bulk l0 (bodyIx l0 n) hn0)
    have hbody : bodyOf l0 n = part l0 (m : Int) := by unfold bodyOf; rw [hbx]
    rw [hbx] at hbo hbn
    have hidl : idle l0 n = fun s => usesOf s (part l0 (m : Int)) == 0 := by funext s; unfold idle; rw [hbody]
    rw [Int.toNat_natCast] at hU hpl hps hpar
    rw [hidl] at hU
    generalize part l0 (m : Int) = body at hpart hbo hbn hU
    generalize unusedOf l0 (n : Int) = ans at hU ⊢
    generalize paramsAt l0 n = P at hU hpl hps hpar
    rw [hf] at hcall
    unfold maxLen at hkm
    have hl1 := World.block_lt_of_cell? w _ C4
    have hl2 := World.block_lt_of_cell? w _ D0
    clear hf hx hx' hok hkrow hkro hkid hLn hbx hk1 C0 C1 C2 C3 hbody hidl hPe hv0 hsl
    replace hv := hid hv
    replace hL := hid hL
    replace hps := hid hps
    generalize x'.kids.length = K at hL hLi hLt hLz hkl hkc hkm C4
    go_enter Tryz.func24, Tryz.ntmps24
    go_wp2_with fail
    refine hcall.mono ?_; rintro e w1 ⟨rfl, hb1⟩
    have c4 := keepc hb1 C4
    have d0 := keepc hb1 D0
    have c4a := fun o => keepc (hb1.alloc hb1.size o) C4
    have d0a := fun o => keepc (hb1.alloc hb1.size o) D0
    go_wp2_with fail
    go_region_law (first | (go_simp; go_at_call 100; refine (hpart.out _ (by first | exact hb1 | exact hb1.drew | exact (hb1.alloc hb1.size _).drew | exact hb1.drew.alloc hb1.size _ | exact (hb1.drew.alloc hb1.size _).drew)).mono ?_; rintro e w2 ⟨bv, rfl, hb2, ho2⟩; obtain ⟨ba, bc, rfl, -⟩ := ho2.slc.shape; first | (have hq : w2.heap[w1.heap.size]? = some (.cells #[.slice none 0 0] 24 (0, 0)) := new_cell hb2; have q0 := box_cell (j := 0) hq rfl; have q1 := box_frozen hq 0) | skip))
    all_goals first
      | (have hB : Below w.heap.size w (w2.setCell ⟨w1.heap.size, 0, none⟩ (.slice ba body.length bc)) := ((hb1.alloc hb1.size _).drew.trans (hb2.mono (hb1.alloc hb1.size _).drew.size)).setCell (p := ⟨w1.heap.size, 0, none⟩) hb1.size _
         have hbx := heap_setCell_at (j := 0) (u := .slice ba body.length bc) hq
         have hcell : (w2.setCell ⟨w1.heap.size, 0, none⟩ (.slice ba body.length bc)).cell? ⟨w1.heap.size, 0, none⟩ = some (.slice ba body.length bc) := by simp [World.cell?, hbx]
         have hNv : NodeSlcS (fun b => b < (w2.setCell ⟨w1.heap.size, 0, none⟩ (.slice ba body.length bc)).heap.size) (w2.setCell ⟨w1.heap.size, 0, none⟩ (.slice ba body.length bc)) (.slice ba body.length bc) body := (NodeSlcS.of_own ho2).keep fun b hS hl => ⟨heap_setCell_other _ _ _ _ (by have hS' : (w1.alloc (.cells #[.slice none 0 0] 24)).heap.size ≤ b := hS; show b ≠ w1.heap.size; simp at hS'; omega), by simpa using hl⟩
         clear hb2 ho2 hq q0 q1 hbx
         generalize w2.setCell ⟨w1.heap.size, 0, none⟩ (.slice ba body.length bc) = Wd at hB hcell hNv ⊢
         generalize w1.heap.size = pb at hcell ⊢)
      | (have hB : Below w.heap.size w (w2.alloc (.cells #[.slice ba body.length bc] 24)) := (hb1.drew.trans (hb2.mono hb1.drew.size)).alloc (hb1.drew.trans (hb2.mono hb1.drew.size)).size _
         have hcell := box_cell (j := 0) (heap_alloc_new w2 (.cells #[.slice ba body.length bc] 24)) rfl
         have hNv : NodeSlcS (fun b => b < (w2.alloc (.cells #[.slice ba body.length bc] 24)).heap.size) (w2.alloc (.cells #[.slice ba body.length bc] 24)) (.slice ba body.length bc) body := (NodeSlcS.of_own ho2).keep fun b hS hl => ⟨Below.heap_alloc _ _ _ hl, by simp; omega⟩
         clear hb2 ho2
         generalize w2.alloc (.cells #[.slice ba body.length bc] 24) = Wd at hB hcell hNv ⊢
         generalize w2.heap.size = pb at hcell ⊢)
    all_goals (clear c4 d0 c4a d0a C4 D0)
    all_goals (have hpl2 := World.block_lt_of_cell? Wd _ hcell)
    all_goals (have hBs := hB.size)
    all_goals (replace hcell := hid hcell)
    all_goals go_wp2_with fail
    all_goals (refine (hpar.out _ hB).mono ?_; rintro e w3 ⟨pv, rfl, hb3, hnil, hown⟩)
    all_goals (
      obtain ⟨g, pc, rfl, hgl⟩ : ∃ g pc, pv = .slice (some ⟨g, 0, none⟩) P.length pc ∧ Wd.heap.size ≤ g ∧ g < w3.heap.size ∧ P.length ≤ pc ∧ pc ≤ maxLen := by
        rcases hown.2 with ⟨e0, _⟩ | ⟨g, pc, cur, e, h1, h2, h3, h4, _⟩
        · exact absurd e0 hnil
        · exact ⟨g, pc, e, h1, (Array.getElem?_eq_some_iff.1 h2).1, h3, h4⟩
      have hpred : PredS P (fun s => !(usesOf s body == 0)) g pb w3 := fun x hx W hW =>
        unusedClosure body _ x pb W hbo.out hbn.out ((hNv.keep (S' := fun _ => True) fun b hS hl => ⟨(hW.block b (Nat.lt_of_lt_of_le hS hb3.size) (by have hS' : b < Wd.heap.size := hS; simp; omega)).trans (hb3.block b hS), trivial⟩).slc) (hps.out x hx)
          (grown_cell hW ((hb3.cell (p := ⟨pb, 0, none⟩) hpl2).trans hcell.out) (by have h9 : pb < Wd.heap.size := hpl2; omega))
      have hdel := hid (deleteFuncS P (fun s => !(usesOf s body == 0)) g pc pb Wd.heap.size w3 (by omega) hgl.2.2.2 hgl.2.2.1 hown hpred)
      have hFe : (P.filter fun s => !(fun s => !(usesOf s body == 0)) s) = P.filter fun s => usesOf s body == 0 := by congr 1; funext s; simp
      rw [hFe] at hdel
      have hFl := List.length_filter_le (fun s => usesOf s body == 0) P
      generalize (P.filter fun s => usesOf s body == 0) = F at hdel hFl hU
      have hB3 := hB.trans (hb3.mono hB.size)
      clear hpred hFe hown hNv
      replace hb3 := hid hb3
      go_wp2_with fail
      refine hdel.out.mono ?_; rintro e w4 ⟨rfl, hg4, ho4⟩
      have honce := hid (implonce_any F _ w4 Wd.heap.size (by omega) (by simp) ho4)
      have hB4 : Below w.heap.size w w4 := hB3.grown hg4 hB3.size (fun r e => by have e2 : g = r := Option.some.inj e; omega)
      clear ho4
      go_wp2_with fail
      refine honce.out.mono ?_; rintro e w5 ⟨v5, rfl, hg5, ho5⟩
      clear honce
      go_wp2
      go_ret
      exact ⟨_, rfl, hB4.grown hg5 hB4.size (fun r e => by have e2 : g = r := Option.some.inj e; omega), by rw [hU.out]; exact own_base ho5 hBs⟩)
  · have hR : Hid (unusedOf l0 a1 = []) := hid (by unfold unusedOf paramsOf; rw [if_neg hf]; rfl)
    have hf : isFuncB l0 a1 = false := by simpa using hf
    rw [hf] at hcall
    clear hf
    go_enter Tryz.func24, Tryz.ntmps24
    go_wp2_with fail
    refine hcall.mono ?_; rintro e w1 ⟨rfl, hb1⟩
    go_wp2
    go_ret
    exact ⟨_, rfl, hb1, by rw [hR.out]; exact World.ownsRow_nil _ _ _ _⟩
end Go.Proofs.YtgmciglaapnahaaGreatDoor
