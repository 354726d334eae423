/- Walks and lemmas of this seat (FFoldS): what each theorem says of the functions that it names. Conditions: those that each theorem states. -/
import Derived.Test.YtmemgmcopnaogaaGreatDoorGFO
import Derived.Test.YtmemgmcopnaogaaGreatDoorGB
import Derived.Test.YtmemgmcopnaogaaGreatDoorGEV
import Derived.Test.YtmemgmcopnaogaaGreatDoorGH
namespace Go.Proofs.YtmemgmcopnaogaaGreatDoor
set_option linter.unusedVariables false
set_option linter.unusedSimpArgs false
open Go.RowKit Go.Lib

attribute [local go_sem ↓] Go.wp_at_zero Go.wp_at_succ
/-- The trees of a valid tree are valid and small. -/
theorem tree_facts {l : List Node} (hok : treeOk l = true) {i : Nat} (hi : i < l.length) : (treeIx l i).okT = true ∧ (treeIx l i).post.length ≤ 400 ∧ (treeIx l i).depth ≤ 40 := by
  have hs := treeOk_shape hok
  obtain ⟨h1, h2, h3, h4⟩ := treeOk_back hok
  have hp := list_post hs
  refine ⟨?_, ?_, ?_⟩
  · refine Tree.post_ok _ (rootTree l) (Nat.lt_succ_self _) h2 _ ?_
    rw [← hp.1]
    exact List.mem_map.2 ⟨i, List.mem_range.2 hi, rfl⟩
  · have h5 := (tree_post (treeIx l i)).1
    rw [← part_add hs hi] at h5
    have h6 := (part_count hs hi)
    omega
  · have := depth_root hs (l.length - 1 - i) i (by omega)
    omega
/-- A tree as a list that may stand in a call. -/
theorem laid_fine {t : Tree} (hs : t.Sane) (hw : t.weight ≤ 1048576) : (∀ y ∈ t.addTo [], y.Ok) ∧ bulk Node.sizes (t.addTo []) ≤ 1048576 :=
  ⟨fun y hy => (Tree.addTo_fine hs hw y hy).1, by rw [Tree.addTo_bulk]; exact hw⟩
theorem fromNodes_zero (n : Int) : ((fromNodes n).length == 0) = !decide (-999999999 ≤ n ∧ n ≤ 999999999) := by
  by_cases h : -999999999 ≤ n ∧ n ≤ 999999999
  · by_cases h0 : 0 ≤ n
    · rw [fromNodes_pos h h0]; simp [h]
    · rw [fromNodes_neg h h0]; simp [h]
  · rw [fromNodes_out h]; simp [h]
theorem own_upS {w : World} {lo hi hi' : Nat} {v : Value} {l : List Node} (h : OwnNode w lo hi v l) (hh : hi ≤ hi') : OwnNode w lo hi' v l := by
  obtain ⟨q, h1, h2, h3, h4⟩ := h
  exact ⟨q, h1, ⟨h2.1, fun k hk => by have := h2.2 k hk; omega⟩, fun p hp => ⟨(h3 p hp).1, fun k hk => by have := (h3 p hp).2 k hk; omega⟩, h4⟩
theorem ev_I64 (t : Tree) : I64 (t.ev []).1 := by
  have h := Tree.ev_fine [] t
  cases hb : (t.ev []).2 with
  | true => have := h.1 hb; unfold I64; omega
  | false => rw [h.2 hb]; unfold I64; omega

set_option maxRecDepth 100000 in
set_option maxHeartbeats 6400000 in
/-- spec.l28Fold: the part of a node, reckoned. -/
theorem specl28Fold_any (l0 : List Node) (v0 : Value) (w0 : World) (hv00 : NodeSlc w0 v0 l0) (hx0 : ∀ x ∈ l0, x.Ok) (hn0 : bulk Node.sizes l0 ≤ 1048576) (hok0 : treeOk l0 = true) :
    ∀ (i : Nat), i < l0.length → ∀ (w : World), Below w0.heap.size w0 w → Calls Tryz.prog 69 #[v0, .int .i64 i] w fun e w' => ∃ v', e = .returned v' ∧ Below w.heap.size w w' ∧ OwnNode w' w.heap.size w'.heap.size v' ((treeIx l0 i).fold.addTo []) := by
  obtain ⟨a, cap, rfl, hm, hc, hsl⟩ := hv00.shape
  have hok := treeOk_shape hok0
  obtain ⟨hl1, hl2, _⟩ := shapeOk_yes hok
  have ha := shapeOk_ahead hok
  have hfacts := hid fun j (hj : j < l0.length) => tree_facts hok0 hj
  have hsane := hid fun j (hj : j < l0.length) => treeIx_sane hx0 ha j hj
  have hwt := hid fun j (hj : j < l0.length) => treeIx_weight hn0 hok hj
  intro i
  induction i using Nat.strongRecOn with
  | _ i ih =>
  intro hi w hbw
  obtain ⟨x, ka, kc, b, off, hx, rfl, C0, C1, C2, C3, C4, hkd⟩ := hsl.at hbw (Nat.le_refl _) hi
  have hti := hid (treeIx_eq ha hx)
  have hah := hid (ha i x hx)
  have hkl := shapeOk_klen hok hx
  clear hx
  obtain ⟨_, _, _, hkv, hkc, hkm, hkrow⟩ := hkd
  simp at hkv
  obtain ⟨rfl, rfl⟩ := hkv
  unfold maxLen at hkm
  obtain ⟨i0, hi0, hz0, hz1, hz2⟩ := info_parts Tryz.info24
  replace ih := hid ih
  replace hsl := hid hsl
  obtain ⟨ts, hts⟩ : ∃ ts, ts = x.kids.map fun k => treeIx l0 k.toNat := ⟨_, rfl⟩
  have htl : ts.length = x.kids.length := by rw [hts, List.length_map]
  rw [← hts] at hti
  replace hts := hid hts
  replace htl := hid htl
  have hil : (i : Int) < (l0.length : Int) := by omega
  obtain ⟨al0, hal0⟩ : ∃ al0 : Bool, al0 = decide (0 < x.kids.length) := ⟨_, rfl⟩
  have hal1 : decide ((0 : Int) < (x.kids.length : Int)) = al0 := by rw [hal0]; by_cases h : 0 < x.kids.length <;> simp [h]
  have hal2 : Hid (al0 = decide (0 < x.kids.length)) := hid hal0
  clear hal0
  have hkI : x.kids.length ≤ 400 := by omega
  have C4a := fun o => keepc ((Below.refl w.heap.size w).alloc (Nat.le_refl _) o) C4
  go_enter Tryz.func69, Tryz.ntmps69
  go_wp2
  go_loopw [5, 6, 7] (fun v av i wr => ∃ (k : Nat) (al : Bool) (ps : List (List Node × Value)) (kv : Value), kv = v ∧ av = .bool al ∧ i = .int .i64 k ∧ k ≤ x.kids.length ∧ ps.length = k ∧ Parts w kv ps wr ∧ Hid (ps.map Prod.fst = (ts.take k).map (fun t => t.fold.addTo [])) ∧ Hid (al = (al0 && ((ts.take k).map Tree.fold).all fun u => (constT u).2))) (fun _ _ i _ => x.kids.length - (RowKit.intOf i).toNat)
  case atStart => exact ⟨0, al0, [], _, rfl, by rw [hal2.out], rfl, by omega, rfl, ⟨by repeat (first | exact Below.refl _ _ | refine Below.alloc ?_ (by first | omega | (simp; done) | (simp; omega)) _ | refine Below.drew ?_), own_new0 _ _ _, by simp⟩, hid rfl, hid (by simp)⟩
  obtain ⟨k, al, ps, v, rfl, rfl, rfl, hk, hps, hpa, hpe, hrel⟩ := hrel
  have hps2 := hid hps
  have hpsl : ps.length ≤ 400 := by omega
  have hb := hpa.hb
  have hbs := hb.size
  have c4 := keepc hb C4
  by_cases hlt : k < x.kids.length
  · obtain ⟨kid, hkid⟩ := get_of_lt hlt
    obtain ⟨kb, koff, rfl, hkro⟩ := slc_some hkrow (by omega)
    have e0 := (hkro.mono hb (Nat.le_refl _)).one int1_len hkid rfl
    obtain ⟨hk0, hkj⟩ := hah.out kid (List.mem_of_getElem? hkid)
    obtain ⟨j, rfl⟩ : ∃ j : Nat, kid = (j : Int) := ⟨kid.toNat, by omega⟩
    have hj : j < i := by omega
    have hjl : j < l0.length := by omega
    have htj : ts[k]? = some (treeIx l0 j) := by rw [hts.out, List.getElem?_map, hkid]; rfl
    obtain ⟨f1, f2, f3⟩ := hfacts.out j hjl
    obtain ⟨f4, _⟩ := Tree.fold_ok f1
    obtain ⟨⟨f5, f6⟩, _⟩ := (treeIx l0 j).fold_less
    have f7 := (Tree.fold_sane (hsane.out j hjl)).1
    have f8 := Nat.le_trans (treeIx l0 j).fold_weight.1 (hwt.out j hjl)
    have f9 := laid_fine f7 f8
    have hcv := hid (constV_tree f4 (by omega) (by omega))
    have hib := hid (hbw.trans (hb.mono hbw.size))
    have hcall := hid (fun W h => ih.out j hj (by omega) W h)
    have hcon : Hid (∀ (u : Value) (W : World) (hu : NodeSlc W u ((treeIx l0 j).fold.addTo [])), Calls Tryz.prog 116 #[u] W fun e w' => e = .returned (.tuple #[.int .i64 (constT (treeIx l0 j).fold).1, .bool (constT (treeIx l0 j).fold).2]) ∧ Below W.heap.size W w') := hid (fun u W hu => by
      have h := specConstant_any ((treeIx l0 j).fold.addTo []) u W f9.1 f9.2 hu
      rw [hcv.out] at h
      exact h)
    have hpe2 := hid (show ps.map Prod.fst ++ [(treeIx l0 j).fold.addTo []] = (ts.take (k + 1)).map (fun t => t.fold.addTo []) by rw [take_next htj, List.map_append, ← hpe.out]; rfl)
    have hrel2 := hid (show (al && (constT (treeIx l0 j).fold).2) = (al0 && ((ts.take (k + 1)).map Tree.fold).all fun u => (constT u).2) by rw [take_next htj, List.map_append, List.all_append, hrel.out, Bool.and_assoc]; simp)
    have hx63 : ps.length + 1 ≤ maxLen := by unfold maxLen; omega
    have hx47 : (ps.length + 1) * 24 ≤ 140737488355328 := by omega
    have hji : (j : Int) < (l0.length : Int) := by omega
    have hkli : (k : Int) < (x.kids.length : Int) := by omega
    generalize (constT (treeIx l0 j).fold).1 = cv1 at *
    generalize (constT (treeIx l0 j).fold).2 = cv2 at *
    generalize (treeIx l0 j).fold.addTo [] = P at *
    replace hpa := hid hpa
    clear hkid hkro hk0 hkj htj hcv f1 f2 f3 f4 f5 f6 f7 f8 f9 hrel hpe hps
    cases al with
    | true =>
      rw [Bool.true_and] at hrel2
      go_wp2_with (first
        | (go_at_call 69; refine (hcall.out _ hib.out).mono ?_; rintro e w1 ⟨v1, rfl, hb1, ho1⟩; obtain ⟨va1, vc1, rfl, -⟩ := ho1.slc.shape)
        | (go_at_call 116; refine (hcon.out _ w1 ho1.slc).mono ?_; rintro e w3 ⟨rfl, hb3⟩; have ho3 := ho1.below hb3 (Nat.le_refl _); have hb13 := hb1.trans (hb3.mono hb1.size))
        | (at_builtin; refine wpList_append_lies _ (by rfl) _ _ _ (by rfl) w.heap.size 24 i0 _ 1 24 Tryz.underlying113 hi0 hz0 hz1 hz2 rfl (by omega) v ps.length (ps.flatMap part1) (by rfl) ((own_below hpa.out.own hb13 (Nat.le_refl _)).alloc _)
            ⟨w3.heap.size, 0, none⟩ 1 1 [.slice va1 P.length vc1] (by rfl) (by rfl) (World.news_of_block (cs := #[.slice va1 P.length vc1]) (t := 24) (fr := (0, 0)) (heap_alloc_new w3 _)) (by simp [Value.oneCell'])
            (by omega) hx63 hx47 (by have h9 := hb13.size; simp at h9 ⊢; omega) (w3.heap.size + 1) (by simp) ?_; intro gg cap2 w2 hown2 hgrow hat hlt3))
      all_goals go_roundw
      all_goals first
        | (simp [RowKit.intOf]; omega)
        | exact ⟨k + 1, _, ps ++ [(P, .slice va1 P.length vc1)], _, rfl, rfl, by go_num, by omega, by simp [hps2.out], hpa.out.step hb13 ho3 hown2 hgrow hat, hid (by rw [List.map_append]; exact hpe2.out), hrel2⟩
    | false =>
      rw [Bool.false_and] at hrel2
      go_wp2_with (first
        | (go_at_call 69; refine (hcall.out _ hib.out).mono ?_; rintro e w1 ⟨v1, rfl, hb1, ho1⟩; obtain ⟨va1, vc1, rfl, -⟩ := ho1.slc.shape)
        | (go_at_call 116; refine (hcon.out _ w1 ho1.slc).mono ?_; rintro e w3 ⟨rfl, hb3⟩; have ho3 := ho1.below hb3 (Nat.le_refl _); have hb13 := hb1.trans (hb3.mono hb1.size))
        | (at_builtin; refine wpList_append_lies _ (by rfl) _ _ _ (by rfl) w.heap.size 24 i0 _ 1 24 Tryz.underlying113 hi0 hz0 hz1 hz2 rfl (by omega) v ps.length (ps.flatMap part1) (by rfl) ((own_below hpa.out.own hb13 (Nat.le_refl _)).alloc _)
            ⟨w3.heap.size, 0, none⟩ 1 1 [.slice va1 P.length vc1] (by rfl) (by rfl) (World.news_of_block (cs := #[.slice va1 P.length vc1]) (t := 24) (fr := (0, 0)) (heap_alloc_new w3 _)) (by simp [Value.oneCell'])
            (by omega) hx63 hx47 (by have h9 := hb13.size; simp at h9 ⊢; omega) (w3.heap.size + 1) (by simp) ?_; intro gg cap2 w2 hown2 hgrow hat hlt3))
      all_goals go_roundw
      all_goals first
        | (simp [RowKit.intOf]; omega)
        | exact ⟨k + 1, _, ps ++ [(P, .slice va1 P.length vc1)], _, rfl, rfl, by go_num, by omega, by simp [hps2.out], hpa.out.step hb13 ho3 hown2 hgrow hat, hid (by rw [List.map_append]; exact hpe2.out), hrel2⟩
  · obtain rfl : k = x.kids.length := by omega
    obtain ⟨us, hus⟩ : ∃ us, us = ts.map Tree.fold := ⟨_, rfl⟩
    have htk : ts.take x.kids.length = ts := List.take_of_length_le (by rw [htl.out]; exact Nat.le_refl _)
    rw [htk] at hpe hrel
    rw [← hus] at hrel
    have hpe3 : ps.map Prod.fst = us.map (fun t => t.addTo []) := by rw [hpe.out, hus, List.map_map]; rfl
    have hmk := Tree.make x us
    have hqe : makeN x (ps.map Prod.fst) = (Tree.mk x.kind x.op x.text x.other us).addTo [] := by rw [hpe3, ← hmk]
    obtain ⟨f1, f2, f3⟩ := hfacts.out i hi
    have o1 := (Tree.fold_ok f1).2
    obtain ⟨_, o2, o3⟩ := (treeIx l0 i).fold_less
    have o4 := (Tree.fold_sane (hsane.out i hi)).2
    have o5 := Nat.le_trans (treeIx l0 i).fold_weight.2 (hwt.out i hi)
    have hO : Tree.mk (treeIx l0 i).kind (treeIx l0 i).op (treeIx l0 i).text (treeIx l0 i).other ((treeIx l0 i).kids.map Tree.fold) = Tree.mk x.kind x.op x.text x.other us := by
      rw [hti.out, hus]; rfl
    rw [hO] at o1 o2 o3 o4 o5
    have hfo : (treeIx l0 i).fold = foldNode x.kind x.op x.text x.other us := by rw [Tree.fold_eq, hti.out, hus]; rfl
    have hul : us.length = x.kids.length := by rw [hus, List.length_map, htl.out]
    have hmem : ∀ p ∈ ps, ∃ u ∈ us, p.1 = u.addTo [] := fun p hp => by
      have h1 : p.1 ∈ us.map (fun t => t.addTo []) := by rw [← hpe3]; exact List.mem_map_of_mem hp
      obtain ⟨u, hu, e⟩ := List.mem_map.1 h1
      exact ⟨u, hu, e.symm⟩
    have hsw : Tree.SaneL us := by
      have h1 := o4
      rw [Tree.Sane] at h1
      exact h1.2.2
    have hww : Tree.weightL us + (1 + x.text.size + x.other.size + us.length) ≤ 1048576 := by
      have h1 := o5
      rw [Tree.weight] at h1
      exact h1
    have hwu : ∀ u ∈ us, u.weight ≤ 1048576 := fun u hu => by have := Tree.weightL_mem hu; omega
    have hsum : ((ps.map Prod.fst).map List.length).sum ≤ 1048575 := by
      rw [hpe3, List.map_map]
      have h1 : ∀ (l : List Tree), (l.map (List.length ∘ fun t => t.addTo [])).sum ≤ Tree.weightL l := by
        intro l
        induction l with
        | nil => simp [Tree.weightL]
        | cons t l ih =>
          rw [List.map_cons, List.sum_cons, Tree.weightL]
          have h2 := length_bulk Node.sizes (t.addTo [])
          rw [Tree.addTo_bulk] at h2
          simp only [Function.comp] at ih ⊢
          omega
      have := h1 us
      omega
    have hne : ∀ p ∈ ps, p.1 ≠ [] ∧ (∀ y ∈ p.1, y.Ok) ∧ bulk Node.sizes p.1 ≤ 1048576 ∧ ∀ y ∈ p.1, ∀ k ∈ y.kids, 0 ≤ k ∧ k ≤ 1048576 := fun p hp => by
      obtain ⟨u, hu, e⟩ := hmem p hp
      rw [e]
      have hf := Tree.addTo_fine (Tree.saneL_mem.1 hsw u hu) (hwu u hu)
      exact ⟨u.addTo_ne, fun y hy => (hf y hy).1, by rw [Tree.addTo_bulk]; exact hwu u hu, fun y hy => (hf y hy).2⟩
    have c0 := keepc hb C0
    have c1 := keepc hb C1
    have c2 := keepc hb C2
    have c3 := keepc hb C3
    have hcall := specl6Make_any x (.slice ka x.kids.length kc) v ps wr (Slc.of_own hpa.own) (fun p hp => (hpa.sub p hp).slc) hne hsum ⟨_, _, _, rfl⟩
    rw [hqe] at hcall
    obtain ⟨va, vc, rfl, hvm⟩ := own_slice hpa.own
    have hlf := laid_fine o4 o5
    have heval : isExprB x.kind = true → Hid (∀ (u : Value) (W : World) (hu : NodeSlc W u ((Tree.mk x.kind x.op x.text x.other us).addTo [])), Calls Tryz.prog 117 #[u, .slice none 0 0] W fun e w' => e = .returned (.tuple #[.int .i64 ((Tree.mk x.kind x.op x.text x.other us).ev []).1, .bool ((Tree.mk x.kind x.op x.text x.other us).ev []).2]) ∧ Below W.heap.size W w') := fun hk => hid fun u W hu => by
      have h := specEval_any ((Tree.mk x.kind x.op x.text x.other us).addTo []) u [] (.slice none 0 0) W hlf.1 hlf.2 hu (by simp) (by simp [bulk]) ⟨rfl, none, 0, rfl, by simp, by unfold maxLen; omega, .inl rfl⟩
      rw [evalV_tree o1 (by omega) (by omega) hk] at h
      exact h
    have hevI := ev_I64 (Tree.mk x.kind x.op x.text x.other us)
    have hfrom := hid fun W => specFromInt_any ((Tree.mk x.kind x.op x.text x.other us).ev []).1 W hevI
    have hz := fromNodes_zero ((Tree.mk x.kind x.op x.text x.other us).ev []).1
    have hnt := hid fun h => numT_nodes (n := ((Tree.mk x.kind x.op x.text x.other us).ev []).1) h
    have hfl : Hid (foldable x.kind x.op x.text x.other us = (isExprB x.kind && (decide (0 < us.length) && ((us.all fun u => (constT u).2) && (((Tree.mk x.kind x.op x.text x.other us).ev []).2 && decide (-999999999 ≤ ((Tree.mk x.kind x.op x.text x.other us).ev []).1 ∧ ((Tree.mk x.kind x.op x.text x.other us).ev []).1 ≤ 999999999)))))) := hid rfl
    have hfn : Hid ((treeIx l0 i).fold.addTo [] = if foldable x.kind x.op x.text x.other us = true then (numT ((Tree.mk x.kind x.op x.text x.other us).ev []).1).addTo [] else (Tree.mk x.kind x.op x.text x.other us).addTo []) := hid (by
      rw [hfo]; unfold foldNode; split <;> rfl)
    have hall : Hid (al = (decide (0 < us.length) && (us.all fun u => (constT u).2))) := hid (by rw [hrel.out, hal2.out, hul])
    replace hcall := hid hcall
    clear hpa hpe hrel hpe3 hmk hqe hmem hsw hww hwu hsum hne hps hps2 htk hO hfo f1 f2 f3 o1 o2 o3 o4 o5 hlf hus hul hevI ih
    generalize ((Tree.mk x.kind x.op x.text x.other us).ev []).1 = n1 at *
    generalize ((Tree.mk x.kind x.op x.text x.other us).ev []).2 = b1 at *
    generalize (Tree.mk x.kind x.op x.text x.other us).addTo [] = O at *
    generalize hRg : (treeIx l0 i).fold.addTo [] = R at *
    replace hRg := hid hRg
    generalize foldable x.kind x.op x.text x.other us = fb at *
    generalize (decide (0 < us.length)) = u1 at *
    generalize (us.all fun u => (constT u).2) = u2 at *
    generalize hrg : decide (-999999999 ≤ n1 ∧ n1 ≤ 999999999) = rg at *
    replace hrg := hid hrg
    replace hz := hid hz
    go_wp2_with fail
    refine hcall.out.mono ?_; rintro e w5 ⟨v5, rfl, hb5, ho5⟩
    have hO := hid (OwnNode.wide ho5 hbs)
    have hn5 := hid ho5.slc
    obtain ⟨a5, c5, rfl, hcm5, hcl5, _⟩ := hn5.out.shape
    have hB5 := hid (hb.trans (hb5.mono hbs))
    have x0 := keepc hB5.out C0
    clear ho5 hcall hb5 c0 c1 c2 c3 c4
    cases al with
    | false =>
      have hR : R = O := by
        rw [hfn.out, if_neg]
        rw [hfl.out]
        intro h
        simp only [Bool.and_eq_true] at h
        have := hall.out
        rw [h.2.1, h.2.2.1] at this
        cases this
      subst hR
      clear hfn hfl hall heval hfrom hnt
      go_wp2
      go_ret
      exact ⟨_, rfl, hB5.out, by rw [hRg.out]; exact hO.out⟩
    | true =>
      have hu12 : u1 = true ∧ u2 = true := by
        have := hall.out.symm
        simpa using this
      obtain ⟨rfl, rfl⟩ := hu12
      cases hke : isExprB x.kind with
      | false =>
        have hie := hid (fun W => specIsExpr_any x.kind W)
        rw [hke] at hie hfl
        have hR : R = O := by
          rw [hfn.out, if_neg]
          rw [hfl.out]
          simp
        subst hR
        clear hfn hfl hall heval hfrom hnt hke
        go_wp2_with (go_at_call 89; refine (hie.out _).mono ?_; rintro e w' ⟨rfl, hw'⟩; subst w')
        go_ret
        exact ⟨_, rfl, hB5.out, by rw [hRg.out]; exact hO.out⟩
      | true =>
        have hie := hid (fun W => specIsExpr_any x.kind W)
        rw [hke] at hie hfl
        have heval := heval hke
        have hfb : Hid (fb = (b1 && rg)) := hid (by rw [hfl.out]; simp)
        clear hfl hall hke
        go_wp2_with (go_at_call 89; refine (hie.out _).mono ?_; rintro e w' ⟨rfl, hw'⟩; subst w')
        refine (heval.out _ w5 hn5.out).mono ?_; rintro e w6 ⟨rfl, hb6⟩
        have hB6 := hid (hB5.out.trans (hb6.mono hB5.out.size))
        have hO6 := hid (hO.out.below hb6 (Nat.le_refl _))
        have hs56 := hb6.size
        clear hb6 heval
        go_wp2_with fail
        refine (hfrom.out w6).mono ?_; rintro e w7 ⟨v7, rfl, hb7, ho7⟩
        have hB7 := hid (hB6.out.trans (hb7.mono hB6.out.size))
        have hO7 := hid (hO6.out.below hb7 (Nat.le_refl _))
        have hN7 := hid (OwnNode.wide ho7 hB6.out.size)
        obtain ⟨a7, c7, rfl, hcm7, hcl7, _⟩ := ho7.slc.shape
        have hlz : (((fromNodes n1).length : Int) == 0) = !rg := by rw [← hz.out]; cases h : ((fromNodes n1).length == 0) <;> simp_all
        have hOw : Hid (OwnNode w7 w.heap.size w7.heap.size (.slice a5 O.length c5) O) := hid (own_upS hO7.out (by have := hb7.size; omega))
        clear hb7 ho7 hfrom hz hO6 hO7
        generalize (fromNodes n1).length = zl at *
        cases b1 with
        | false =>
          have hR : R = O := by
            rw [hfn.out, if_neg]
            rw [hfb.out]; simp
          subst hR
          clear hfn hfb hnt
          go_wp2
          go_ret
          exact ⟨_, rfl, hB7.out, by rw [hRg.out]; exact hOw.out⟩
        | true =>
          cases rg with
          | false =>
            have hlz2 : ((zl : Int) == 0) = true := by rw [hlz]; rfl
            have hR : R = O := by
              rw [hfn.out, if_neg]
              rw [hfb.out]; simp
            subst hR
            clear hfn hfb hnt hlz
            go_wp2
            go_ret
            exact ⟨_, rfl, hB7.out, by rw [hRg.out]; exact hOw.out⟩
          | true =>
            have hlz2 : ((zl : Int) == 0) = false := by rw [hlz]; rfl
            have hR : R = fromNodes n1 := by
              rw [hfn.out, if_pos (by rw [hfb.out]; rfl)]
              exact hnt.out (by simpa using hrg.out)
            subst hR
            clear hfn hfb hnt hlz
            go_wp2
            go_ret
            exact ⟨_, rfl, hB7.out, by rw [hRg.out]; exact hN7.out⟩
end Go.Proofs.YtmemgmcopnaogaaGreatDoor
