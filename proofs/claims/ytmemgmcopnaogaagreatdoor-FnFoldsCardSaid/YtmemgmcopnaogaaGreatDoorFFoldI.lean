/- Walks and lemmas of this seat (FFoldI): what each theorem says of the functions that it names. Conditions: those that each theorem states. -/
import Derived.Test.YtmemgmcopnaogaaGreatDoorGFO
import Derived.Test.YtmemgmcopnaogaaGreatDoorGB
import Derived.Test.YtmemgmcopnaogaaGreatDoorGQ
import Derived.Test.YtmemgmcopnaogaaGreatDoorGEV
import Derived.Test.YtmemgmcopnaogaaGreatDoorFFromInt
namespace Go.Proofs.YtmemgmcopnaogaaGreatDoor
set_option linter.unusedVariables false
set_option linter.unusedSimpArgs false
open Go.RowKit Go.Lib

theorem least_of_ok {t : Tree} (h : t.okT = true) : least t.kind t.op (t.other.size == 0) ≤ ((t.kids.length : Nat) : Int) := by
  have h1 := (Tree.okT_kids h).1
  unfold fieldsOk inB at h1
  simp only [Bool.and_eq_true, decide_eq_true_eq] at h1
  exact h1.2.1
theorem okT_wideN (n : Nat) : ∀ (t : Tree), SizeOf.sizeOf t < n → t.okT = true → t.Wide := by
  induction n with
  | zero => intro t h; omega
  | succ n ih =>
    intro t h ho
    have hl := least_of_ok ho
    rw [t.wide_eq]
    refine ⟨⟨fun e => ?_, fun e => ?_, fun e => ?_⟩, Tree.wideL_mem.2 fun u hu => ih u (by have := Tree.kid_lt hu; omega) ((Tree.okT_kids ho).2.2 u hu)⟩
    · rw [e] at hl; simp [least] at hl; omega
    · rw [e] at hl; simp [least] at hl; omega
    · rw [e] at hl; simp [least] at hl; omega
theorem okT_wide {t : Tree} (h : t.okT = true) : t.Wide := okT_wideN _ t (Nat.lt_succ_self _) h
theorem const_pre {u : Tree} (ho : u.okT = true) (hw : u.weight ≤ 1048576) : u.text.size ≤ 1048576 ∧ (∀ v ∈ u.kids, v.text.size ≤ 1048576) ∧ (u.kind = 11 → u.kids ≠ []) := by
  have h1 := u.weight_eq
  refine ⟨by omega, fun v hv => ?_, fun e h0 => ?_⟩
  · have := Tree.weightL_mem hv
    have := v.weight_eq
    omega
  · have := ((Tree.wide_eq u).1 (okT_wide ho)).1.1 e
    rw [h0] at this
    simp at this
theorem from_tree {n : Int} (h : -999999999 ≤ n ∧ n ≤ 999999999) {u : Tree} (hu : u.addTo [] = fromNodes n) : u = numT n := by
  rw [← numT_nodes h] at hu
  rw [← root_back u, hu, root_back]

set_option maxRecDepth 100000 in
set_option maxHeartbeats 12800000 in
/-- impl.(tree).folded: a tree, reckoned, in new memory. -/
theorem implfolded_any (n : Nat) : ∀ (t : Tree) (kv : Value) (w : World) (S : Nat → Prop), SizeOf.sizeOf t < n → t.weight ≤ 1048576 → t.okT = true → TreeIs S w t kv → NumEnv w →
    Calls Tryz.prog 53 #[.agg #[.int .i64 t.kind, .int .i64 t.op, .string t.text, .string t.other, kv]] w fun e w' => TreePost w t.fold e w' := by
  induction n with
  | zero => intro t kv w S h; omega
  | succ n ih =>
  intro t kv w S hsz hbl hok ht hE
  obtain ⟨q, hq, ⟨_, a, cap, rfl, hc, hm, hrow⟩, hsub⟩ := ht.open
  unfold maxLen at hm
  have hfe := hid t.fold_eq
  have hwe := t.weight_eq
  have hql : q.length = t.kids.length := by rw [← hq]; simp
  have hkid : ∀ p ∈ q, SizeOf.sizeOf p.1 < n ∧ p.1.weight ≤ 1048576 ∧ p.1.okT = true := fun p hp => by
    have hm : p.1 ∈ t.kids := by rw [← hq]; exact List.mem_map_of_mem hp
    have h1 := Tree.kid_lt hm
    have h2 := Tree.weightL_mem hm
    exact ⟨by omega, by omega, (Tree.okT_kids hok).2.2 _ hm⟩
  have hql2 : q.length ≤ 1048576 := by omega
  have o1 := (Tree.fold_ok hok).2
  have o5 := Nat.le_trans t.fold_weight.2 hbl
  obtain ⟨i0, hti0, hz0, hz1, hz2⟩ := info_parts Tryz.info70
  clear hwe
  replace hql := hid hql
  replace hkid := hid hkid
  replace hsub := hid hsub
  replace hq := hid hq
  replace hok := hid hok
  replace hE := hid hE
  replace o1 := hid o1
  clear ht
  replace ih := hid ih
  go_enter Tryz.func53, Tryz.ntmps53
  go_wp2
  go_loopw [3, 4, 19] (fun v av i wr => ∃ (k : Nat) (al : Bool) (qs : List (Tree × Value)) (kv : Value), kv = v ∧ av = .bool al ∧ i = .int .i64 k ∧ k ≤ q.length ∧ qs.length = k ∧ Twigs w #[.int .i64 t.kind, .int .i64 t.op, .string t.text, .string t.other, .slice a q.length cap] #[.int .i64 0, .int .i64 0, .string ⟨#[]⟩, .string ⟨#[]⟩, .slice none 0 0] 70 kv qs wr ∧ Hid (qs.map Prod.fst = ((q.take k).map Prod.fst).map Tree.fold) ∧ Hid (al = (((q.take k).map Prod.fst).map Tree.fold).all fun u => (constT u).2)) (fun _ _ i _ => q.length - (RowKit.intOf i).toNat)
  case atStart =>
    refine ⟨0, true, [], _, rfl, rfl, rfl, by omega, rfl, ⟨by repeat (first | exact Below.refl _ _ | refine Below.alloc ?_ (by first | omega | (simp; done) | (simp; omega)) _ | refine Below.drew ?_), ?_, ?_, ?_, by simp⟩, hid rfl, hid rfl⟩
    · exact (Below.heap_alloc _ _ _ (by simp; omega)).trans (alloc2_at0 w _ _)
    · exact (Below.heap_alloc _ _ _ (by simp)).trans (alloc2_at1 w _ _)
    · have := own_new0 ((w.alloc (.cells #[.int .i64 t.kind, .int .i64 t.op, .string t.text, .string t.other, .slice a q.length cap] 70)).alloc (.cells #[.int .i64 0, .int .i64 0, .string ⟨#[]⟩, .string ⟨#[]⟩, .slice none 0 0] 70)) 70 5
      simpa using this
  obtain ⟨k, al, qs, v, rfl, rfl, rfl, hk, hqs, htw, hqe, hal⟩ := hrel
  rename World => wr
  have hb := htw.hb
  have hbs := hb.size
  have hw2 : w.heap.size + 1 + 1 ≤ wr.heap.size := by have := (Array.getElem?_eq_some_iff.1 htw.res).1; omega
  by_cases hlt : k < q.length
  · obtain ⟨⟨pt, pv⟩, hp⟩ := get_of_lt hlt
    obtain ⟨b, off, rfl, _, hro⟩ := hrow.resolve_left (by omega)
    have hrw := hro.mono hb (Nat.le_refl _)
    have c0 := hrw.flat0 5 Tree.len hp rfl
    have c1 := hrw.flat 5 Tree.len hp 1 rfl
    have c2 := hrw.flat 5 Tree.len hp 2 rfl
    have c3 := hrw.flat 5 Tree.len hp 3 rfl
    have c4 := hrw.flat 5 Tree.len hp 4 rfl
    have hmem := List.mem_of_getElem? hp
    obtain ⟨pa, pn, pc, rfl⟩ := (hsub.out _ hmem).shape
    have hts := (hsub.out _ hmem).mono hb (Nat.le_refl _)
    obtain ⟨k1, k2, k3⟩ := hkid.out _ hmem
    simp only at k1 k2 k3
    have hpf := Tree.fold_ok k3
    obtain ⟨p1, p2, p3⟩ := const_pre hpf.1 (Nat.le_trans pt.fold_weight.1 k2)
    have hcon : Hid (∀ (u : Value) (W : World) (S' : Nat → Prop), TreeIs S' W pt.fold u → NumEnv W → Calls Tryz.prog 62 #[.agg #[.int .i64 pt.fold.kind, .int .i64 pt.fold.op, .string pt.fold.text, .string pt.fold.other, u]] W fun e w' => e = .returned (.tuple #[.int .i64 (constT pt.fold).1, .bool (constT pt.fold).2]) ∧ Below W.heap.size W w') := hid fun u W S' hT hE' => implconstant_any pt.fold u W S' hT p1 p2 p3 hE'
    have hcall := hid (fun o => ih.out pt _ (wr.alloc o) S k1 k2 k3 (hts.mono ((Below.refl _ _).alloc (Nat.le_refl _) o) (Nat.le_refl _)) (hE.out.below (hb.alloc hbs o)))
    have hqe2 := hid (show qs.map Prod.fst ++ [pt.fold] = ((q.take (k + 1)).map Prod.fst).map Tree.fold by rw [take_next hp, List.map_append, List.map_append, ← hqe.out]; rfl)
    have hal2 := hid (show (al && (constT pt.fold).2) = (((q.take (k + 1)).map Prod.fst).map Tree.fold).all (fun u => (constT u).2) by rw [take_next hp, List.map_append, List.map_append, List.all_append, ← hal.out]; simp)
    have hx63 : qs.length + 1 ≤ maxLen := by unfold maxLen; omega
    have hx47 : (qs.length + 1) * 72 ≤ 140737488355328 := by omega
    have hvb := hid (fun r (e : v.ownBlock = some r) => htw.own.lt r e)
    have hqs2 := hid hqs
    have hbe := hid hb
    generalize (constT pt.fold).1 = cv1 at *
    generalize (constT pt.fold).2 = cv2 at *
    generalize pt.fold = ft at *
    replace htw := hid htw
    clear hp hts hrw hmem hqe hal k1 k2 k3 hpf p1 p2 p3 hqs
    cases al with
    | true =>
      rw [Bool.true_and] at hal2
      go_wp2_with (first
        | (go_at_call 53; refine (hcall.out _).mono ?_; rintro e w1 ⟨ka1, kn1, kc1, rfl, hb1, ht1⟩)
        | (go_at_call 62; refine (hcon.out _ _ _ (ht1.mono ((Below.refl _ _).alloc (Nat.le_refl _) _) (Nat.le_refl _)) (hE.out.below (((hbe.out.alloc hbs _).trans (hb1.mono (by simp; omega))).alloc (Nat.le_trans hbs (by have := hb1.size; simp at this; omega)) _))).mono ?_; rintro e w3 ⟨rfl, hb3⟩; have hbx7 := (hb3.block w1.heap.size (by simp)).trans (heap_alloc_new w1 _); obtain ⟨z0, z1, z2, z3, z4⟩ := box_cells hbx7; have hB13 : Below wr.heap.size wr w3 := (((Below.refl _ _).alloc (Nat.le_refl _) _).trans (hb1.mono (by simp))).trans (((Below.refl w1.heap.size w1).alloc (Nat.le_refl _) _ |>.trans (hb3.mono (by simp))).mono (by have := hb1.size; simp at this; omega)); have ht3 := ht1.keep (S' := fun b => wr.heap.size + 1 ≤ b) (w' := w3) fun b hS hl => ⟨(hb3.block b (by simp; omega)).trans (Below.heap_alloc _ _ _ hl), by simpa using hS⟩; clear hbx7)
        | (at_builtin; refine wpList_append_lies _ (by rfl) _ _ _ (by rfl) (w.heap.size + 1 + 1) 70 i0 _ 5 72 Tryz.underlying68 hti0 hz0 hz1 hz2 rfl (by omega) v qs.length (qs.flatMap Tree.cells) (by rfl) ((own_below htw.out.own hB13 (Nat.le_refl _)).alloc _)
            ⟨w3.heap.size, 0, none⟩ 1 1 [.int .i64 ft.kind, .int .i64 ft.op, .string ft.text, .string ft.other, .slice ka1 kn1 kc1] (by rfl) (by rfl) (World.news_of_block (cs := #[.int .i64 ft.kind, .int .i64 ft.op, .string ft.text, .string ft.other, .slice ka1 kn1 kc1]) (t := 70) (fr := (0, 0)) (heap_alloc_new w3 _)) (by simp [Value.oneCell'])
            (by omega) hx63 hx47 (by have h9 := hB13.size; simp; omega) (w3.heap.size + 1) (by simp) ?_; intro gg cap2 w2 hown2 hgrow hat hlt3))
      all_goals go_roundw
      all_goals first
        | (simp [RowKit.intOf]; omega)
        | exact ⟨k + 1, _, _, _, rfl, rfl, by go_num, by omega, by simp [hqs2.out], htw.out.push (t := ft) (kv1 := .slice ka1 kn1 kc1) (by omega) (fun r e => by have := (hvb.out r e).2; omega) hB13 ht3 hown2 hgrow hat, hid (by rw [List.map_append]; exact hqe2.out), hal2⟩
    | false =>
      rw [Bool.false_and] at hal2
      go_wp2_with (first
        | (go_at_call 53; refine (hcall.out _).mono ?_; rintro e w1 ⟨ka1, kn1, kc1, rfl, hb1, ht1⟩)
        | (go_at_call 62; refine (hcon.out _ _ _ (ht1.mono ((Below.refl _ _).alloc (Nat.le_refl _) _) (Nat.le_refl _)) (hE.out.below (((hbe.out.alloc hbs _).trans (hb1.mono (by simp; omega))).alloc (Nat.le_trans hbs (by have := hb1.size; simp at this; omega)) _))).mono ?_; rintro e w3 ⟨rfl, hb3⟩; have hbx7 := (hb3.block w1.heap.size (by simp)).trans (heap_alloc_new w1 _); obtain ⟨z0, z1, z2, z3, z4⟩ := box_cells hbx7; have hB13 : Below wr.heap.size wr w3 := (((Below.refl _ _).alloc (Nat.le_refl _) _).trans (hb1.mono (by simp))).trans (((Below.refl w1.heap.size w1).alloc (Nat.le_refl _) _ |>.trans (hb3.mono (by simp))).mono (by have := hb1.size; simp at this; omega)); have ht3 := ht1.keep (S' := fun b => wr.heap.size + 1 ≤ b) (w' := w3) fun b hS hl => ⟨(hb3.block b (by simp; omega)).trans (Below.heap_alloc _ _ _ hl), by simpa using hS⟩; clear hbx7)
        | (at_builtin; refine wpList_append_lies _ (by rfl) _ _ _ (by rfl) (w.heap.size + 1 + 1) 70 i0 _ 5 72 Tryz.underlying68 hti0 hz0 hz1 hz2 rfl (by omega) v qs.length (qs.flatMap Tree.cells) (by rfl) ((own_below htw.out.own hB13 (Nat.le_refl _)).alloc _)
            ⟨w3.heap.size, 0, none⟩ 1 1 [.int .i64 ft.kind, .int .i64 ft.op, .string ft.text, .string ft.other, .slice ka1 kn1 kc1] (by rfl) (by rfl) (World.news_of_block (cs := #[.int .i64 ft.kind, .int .i64 ft.op, .string ft.text, .string ft.other, .slice ka1 kn1 kc1]) (t := 70) (fr := (0, 0)) (heap_alloc_new w3 _)) (by simp [Value.oneCell'])
            (by omega) hx63 hx47 (by have h9 := hB13.size; simp; omega) (w3.heap.size + 1) (by simp) ?_; intro gg cap2 w2 hown2 hgrow hat hlt3))
      all_goals go_roundw
      all_goals first
        | (simp [RowKit.intOf]; omega)
        | exact ⟨k + 1, _, _, _, rfl, rfl, by go_num, by omega, by simp [hqs2.out], htw.out.push (t := ft) (kv1 := .slice ka1 kn1 kc1) (by omega) (fun r e => by have := (hvb.out r e).2; omega) hB13 ht3 hown2 hgrow hat, hid (by rw [List.map_append]; exact hqe2.out), hal2⟩
  · obtain rfl : k = q.length := by omega
    obtain ⟨us, hus⟩ : ∃ us, us = qs.map Prod.fst := ⟨_, rfl⟩
    have hus2 : us = t.kids.map Tree.fold := by rw [hus, hqe.out, List.take_length, hq.out]
    rw [List.take_length, hq.out, ← hus2] at hal
    have hR : Hid (t.fold = foldNode t.kind t.op t.text t.other us) := hid (by rw [hfe.out, hus2])
    rw [← hus2] at o1 o5
    have hul : us.length = q.length := by rw [hus, List.length_map, hqs]
    have heval : Hid (∀ (u : Value) (W : World) (S' : Nat → Prop), TreeIs S' W (.mk t.kind t.op t.text t.other us) u → NumEnv W → Calls Tryz.prog 104 #[.agg #[.int .i64 t.kind, .int .i64 t.op, .string t.text, .string t.other, u], .slice none 0 0] W fun e w' => e = .returned (.tuple #[.int .i64 ((Tree.mk t.kind t.op t.text t.other us).ev []).1, .bool ((Tree.mk t.kind t.op t.text t.other us).ev []).2]) ∧ Below W.heap.size W w') := hid fun u W S' hT hE' => impleval_any [] (.slice none 0 0) (by simp) (by simp [bulk]) _ (.mk t.kind t.op t.text t.other us) u W S' (Nat.lt_succ_self _) o5 (okT_wide o1.out) hT ⟨rfl, none, 0, rfl, by simp, by unfold maxLen; omega, .inl rfl⟩ hE'
    have hevI : I64 ((Tree.mk t.kind t.op t.text t.other us).ev []).1 := by
      have h := Tree.ev_fine [] (Tree.mk t.kind t.op t.text t.other us)
      cases hb : ((Tree.mk t.kind t.op t.text t.other us).ev []).2 with
      | true => have := h.1 hb; unfold I64; omega
      | false => rw [h.2 hb]; unfold I64; omega
    have hfrom := hid fun W hE' => implfromInt_any ((Tree.mk t.kind t.op t.text t.other us).ev []).1 W hevI hE'
    have hfl : Hid (foldable t.kind t.op t.text t.other us = (isExprB t.kind && (decide (0 < us.length) && ((us.all fun u => (constT u).2) && (((Tree.mk t.kind t.op t.text t.other us).ev []).2 && decide (-999999999 ≤ ((Tree.mk t.kind t.op t.text t.other us).ev []).1 ∧ ((Tree.mk t.kind t.op t.text t.other us).ev []).1 ≤ 999999999)))))) := hid rfl
    have hfo : Hid (t.fold = if foldable t.kind t.op t.text t.other us = true then numT ((Tree.mk t.kind t.op t.text t.other us).ev []).1 else Tree.mk t.kind t.op t.text t.other us) := hR
    obtain ⟨va, vc, rfl, hvm⟩ := own_slice htw.own
    obtain ⟨b0, b1, b2, b3, b4⟩ := box_cells htw.box
    obtain ⟨r0, r1, r2, r3, r4⟩ := box_cells htw.res
    have hwith := hid fun k o x y ka kn kc => implwith_any k o x y ka va kn kc qs.length vc wr
    have htree := hid (htw.tree t.kind t.op t.text t.other)
    rw [← hus] at htree
    replace htw := hid htw
    replace hul := hid hul
    replace hqs := hid hqs
    replace hus2 := hid hus2
    clear hqe hR o1 o5 hevI hus
    have hie := hid (fun W => implIsExpr_any t.kind W)
    generalize hu2 : (us.all fun u => (constT u).2) = u2 at *
    obtain rfl := hal.out
    clear hal hu2
    go_wp2_with fail
    refine (hwith.out _ _ _ _ _ _ _).mono ?_; rintro e w4 ⟨rfl, hb4⟩
    have ht4 := hid (htw.out.below hb4)
    have hT4 := hid (htree.out.keep (S' := fun b => w.heap.size + 1 + 1 ≤ b ∧ b < w4.heap.size) fun b hS hlt => ⟨hb4.block b hlt, hS, Nat.lt_of_lt_of_le hlt hb4.size⟩)
    have hB4 := hid (hb.trans (hb4.mono hbs))
    have hw24 : w.heap.size + 1 + 1 ≤ w4.heap.size := Nat.le_trans hw2 hb4.size
    clear hb4 htw htree hwith b0 b1 b2 b3 b4 r0 r1 r2 r3 r4
    obtain ⟨o, ho⟩ : ∃ o : Obj, o = .cells #[.int .i64 t.kind, .int .i64 t.op, .string t.text, .string t.other, .slice va qs.length vc] 70 := ⟨_, rfl⟩
    have ht5 := hid (ht4.out.below ((Below.refl _ _).alloc (Nat.le_refl _) (.cells #[.int .i64 t.kind, .int .i64 t.op, .string t.text, .string t.other, .slice va qs.length vc] 70)))
    have hT5 := hid (hT4.out.keep (S' := fun b => w.heap.size + 1 + 1 ≤ b) (w' := w4.alloc (.cells #[.int .i64 t.kind, .int .i64 t.op, .string t.text, .string t.other, .slice va qs.length vc] 70)) fun b hS hlt => ⟨Below.heap_alloc _ _ _ hlt, hS.1⟩)
    have hB5 := hid (hB4.out.alloc hB4.out.size (.cells #[.int .i64 t.kind, .int .i64 t.op, .string t.text, .string t.other, .slice va qs.length vc] 70))
    have hX5 := hid (heap_alloc_new w4 (.cells #[.int .i64 t.kind, .int .i64 t.op, .string t.text, .string t.other, .slice va qs.length vc] 70))
    have hbox5 := ht5.out.box
    obtain ⟨b0, b1, b2, b3, b4⟩ := box_cells hbox5
    have f5 := box_frozen ht5.out.res
    obtain ⟨s0, s1, s2, s3, s4⟩ := box_cells ht5.out.res
    clear ho o hbox5
    cases hke : isExprB t.kind with
    | false =>
      rw [hke] at hie hfl
      have hRR : t.fold = Tree.mk t.kind t.op t.text t.other us := by rw [hfo.out, if_neg]; rw [hfl.out]; simp
      clear hfl hfo heval hfrom hke
      go_wp2_with (go_at_call 103; refine (hie.out _).mono ?_; rintro e w' ⟨rfl, hw'⟩; subst w')
      have hres := ht5.out.res
      have hpost := hid hT5.out
      refine form_done (.agg #[.int .i64 t.kind, .int .i64 t.op, .string t.text, .string t.other, .slice va qs.length vc]) hres (fun W hW => ?_) rfl ⟨va, _, vc, by rw [hRR]; rfl, five_below hB5.out (by omega), ?_⟩
      · obtain ⟨z0, z1, z2, z3, z4⟩ := box_cells hW
        simp [results, Tryz.results53, go_sem, z0, z1, z2, z3, z4]
      · rw [hRR]
        exact hpost.out.keep fun b hS hlt => ⟨five_kept (by omega), by omega⟩
    | true =>
      rw [hke] at hie hfl
      by_cases h0 : q.length = 0
      · have h00 : ((qs.length : Int) == 0) = true := by rw [hqs.out, h0]; rfl
        have hRR : t.fold = Tree.mk t.kind t.op t.text t.other us := by rw [hfo.out, if_neg]; rw [hfl.out, show decide (0 < us.length) = false by rw [hul.out, h0]; rfl]; simp
        clear hfl hfo heval hfrom hke
        go_wp2_with (go_at_call 103; refine (hie.out _).mono ?_; rintro e w' ⟨rfl, hw'⟩; subst w')
        have hres := ht5.out.res
        have hpost := hid hT5.out
        refine form_done (.agg #[.int .i64 t.kind, .int .i64 t.op, .string t.text, .string t.other, .slice va qs.length vc]) hres (fun W hW => ?_) rfl ⟨va, _, vc, by rw [hRR]; rfl, five_below hB5.out (by omega), ?_⟩
        · obtain ⟨z0, z1, z2, z3, z4⟩ := box_cells hW
          simp [results, Tryz.results53, go_sem, z0, z1, z2, z3, z4]
        · rw [hRR]
          exact hpost.out.keep fun b hS hlt => ⟨five_kept (by omega), by omega⟩
      · have h00 : ((qs.length : Int) == 0) = false := by rw [beq_eq_false_iff_ne, hqs.out]; omega
        have hul2 : decide (0 < us.length) = true := by rw [hul.out]; simp; omega
        rw [hul2] at hfl
        clear hul2
        cases al with
        | false =>
          have hRR : t.fold = Tree.mk t.kind t.op t.text t.other us := by rw [hfo.out, if_neg]; rw [hfl.out]; simp
          clear hfl hfo heval hfrom hke
          go_wp2_with (go_at_call 103; refine (hie.out _).mono ?_; rintro e w' ⟨rfl, hw'⟩; subst w')
          have hres := ht5.out.res
          have hpost := hid hT5.out
          refine form_done (.agg #[.int .i64 t.kind, .int .i64 t.op, .string t.text, .string t.other, .slice va qs.length vc]) hres (fun W hW => ?_) rfl ⟨va, _, vc, by rw [hRR]; rfl, five_below hB5.out (by omega), ?_⟩
          · obtain ⟨z0, z1, z2, z3, z4⟩ := box_cells hW
            simp [results, Tryz.results53, go_sem, z0, z1, z2, z3, z4]
          · rw [hRR]
            exact hpost.out.keep fun b hS hlt => ⟨five_kept (by omega), by omega⟩
        | true =>
          go_wp2_with (go_at_call 103; refine (hie.out _).mono ?_; rintro e w' ⟨rfl, hw'⟩; subst w')
          have hE5 := hid (hE.out.below hB5.out)
          refine (heval.out _ _ _ hT5.out hE5.out).mono ?_; rintro e w5 ⟨rfl, hb5⟩
          have ht6 := hid (ht5.out.below hb5)
          have hT6 := hid (hT5.out.keep (S' := fun b => w.heap.size + 1 + 1 ≤ b) fun b hS hlt => ⟨hb5.block b hlt, hS⟩)
          have hB6 := hid (hB5.out.trans (hb5.mono hB5.out.size))
          have hX6 := (hb5.block w4.heap.size (by simp)).trans hX5.out
          obtain ⟨x0, x1, x2, x3, x4⟩ := box_cells hX6
          have hs6 : w.heap.size + 1 + 1 ≤ w5.heap.size := by have := hb5.size; simp at this; omega
          have hlt6 : w4.heap.size < w5.heap.size := by have := hb5.size; simp at this; omega
          replace hX6 := hid hX6
          clear hX5 b0 b1 b2 b3 b4 s0 s1 s2 s3 s4 f5 heval hb5 hE5 hT5 hT4 hB4
          obtain ⟨b0, b1, b2, b3, b4⟩ := box_cells ht6.out.box
          have f5 := box_frozen ht6.out.res
          obtain ⟨s0, s1, s2, s3, s4⟩ := box_cells ht6.out.res
          generalize ((Tree.mk t.kind t.op t.text t.other us).ev []).1 = en at *
          generalize ((Tree.mk t.kind t.op t.text t.other us).ev []).2 = eb at *
          cases eb with
          | false =>
            have hRR : t.fold = Tree.mk t.kind t.op t.text t.other us := by rw [hfo.out, if_neg]; rw [hfl.out]; simp
            clear hfl hfo hfrom
            go_wp2
            have hres := ht6.out.res
            have hpost := hid hT6.out
            refine form_done (.agg #[.int .i64 t.kind, .int .i64 t.op, .string t.text, .string t.other, .slice va qs.length vc]) hres (fun W hW => ?_) rfl ⟨va, _, vc, by rw [hRR]; rfl, five_below hB6.out (by omega), ?_⟩
            · obtain ⟨z0, z1, z2, z3, z4⟩ := box_cells hW
              simp [results, Tryz.results53, go_sem, z0, z1, z2, z3, z4]
            · rw [hRR]
              exact hpost.out.keep fun b hS hlt => ⟨five_kept (by omega), by omega⟩
          | true =>
            have hE6 := hid (fun W (hB : Below w.heap.size w W) => hE.out.below hB)
            by_cases hin : -999999999 ≤ en ∧ en ≤ 999999999
            · have hRR : t.fold = numT en := by rw [hfo.out, if_pos]; rw [hfl.out]; simp [hin]
              have hdn : decide (-999999999 ≤ en ∧ en ≤ 999999999) = true := by simp [hin]
              clear hfl hfo
              go_wp2_with fail
              refine (hfrom.out _ (hE6.out _ hB6.out).1).mono ?_; rintro e w6 ⟨u, kv, rfl, hb6, ⟨ua, um, uc, rfl⟩, hu⟩
              rw [hdn]
              obtain ⟨hu1, hu2⟩ := hu hin
              have hu3 := hid (from_tree hin hu2)
              have hB7 := hid (hB6.out.trans (hb6.mono hB6.out.size))
              have ht7 := hid (ht6.out.below hb6)
              have hs7 : w.heap.size + 1 + 1 ≤ w6.heap.size := by have := hb6.size; omega
              have hu4 := hid (hu1.keep (S' := fun b => w.heap.size + 1 + 1 ≤ b ∧ b < w6.heap.size) (w' := w6.alloc (.cells #[.int .i64 u.kind, .int .i64 u.op, .string u.text, .string u.other, .slice ua um uc] 70)) fun b hS hlt => ⟨Below.heap_alloc _ _ _ hlt, by omega, by omega⟩)
              have ht8 := hid (ht7.out.below ((Below.refl _ _).alloc (Nat.le_refl _) (.cells #[.int .i64 u.kind, .int .i64 u.op, .string u.text, .string u.other, .slice ua um uc] 70)))
              have hB8 := hid (hB7.out.alloc hB7.out.size (.cells #[.int .i64 u.kind, .int .i64 u.op, .string u.text, .string u.other, .slice ua um uc] 70))
              clear hu hu1 hu2 b0 b1 b2 b3 b4 s0 s1 s2 s3 s4 f5 x0 x1 x2 x3 x4 hb6 hT6 hB6 ht7 ht6
              have f5 := box_frozen ht8.out.res
              obtain ⟨s0, s1, s2, s3, s4⟩ := box_cells ht8.out.res
              go_wp2
              have hres := ht8.out.res
              refine form_done (.agg #[.int .i64 u.kind, .int .i64 u.op, .string u.text, .string u.other, .slice ua um uc]) hres (fun W hW => ?_) rfl ⟨ua, um, uc, by rw [hRR, hu3.out], five_below hB8.out (by omega), ?_⟩
              · obtain ⟨z0, z1, z2, z3, z4⟩ := box_cells hW
                simp [results, Tryz.results53, go_sem, z0, z1, z2, z3, z4]
              · rw [hRR, ← hu3.out]
                exact hu4.out.keep fun b hS hlt => ⟨five_kept (by omega), by omega⟩
            · have hRR : t.fold = Tree.mk t.kind t.op t.text t.other us := by rw [hfo.out, if_neg]; rw [hfl.out]; simp; omega
              have hdn : decide (-999999999 ≤ en ∧ en ≤ 999999999) = false := by simp; omega
              clear hfl hfo
              go_wp2_with fail
              refine (hfrom.out _ (hE6.out _ hB6.out).1).mono ?_; rintro e w6 ⟨u, kv, rfl, hb6, ⟨ua, um, uc, rfl⟩, hu⟩
              rw [hdn]
              clear hu
              have hX7 := (Below.heap_alloc w6 (.cells #[.int .i64 u.kind, .int .i64 u.op, .string u.text, .string u.other, .slice ua um uc] 70) _ (Nat.lt_of_lt_of_le hlt6 hb6.size)).trans ((hb6.block w4.heap.size hlt6).trans hX6.out)
              have ht7 := hid ((ht6.out.below hb6).below ((Below.refl _ _).alloc (Nat.le_refl _) (.cells #[.int .i64 u.kind, .int .i64 u.op, .string u.text, .string u.other, .slice ua um uc] 70)))
              have hT7 := hid (hT6.out.keep (S' := fun b => w.heap.size + 1 + 1 ≤ b) (w' := w6.alloc (.cells #[.int .i64 u.kind, .int .i64 u.op, .string u.text, .string u.other, .slice ua um uc] 70)) fun b hS hlt => ⟨(Below.heap_alloc w6 _ _ (Nat.lt_of_lt_of_le hlt hb6.size)).trans (hb6.block b hlt), hS⟩)
              have hB7 := hid ((hB6.out.trans (hb6.mono hB6.out.size)).alloc (Nat.le_trans hB6.out.size hb6.size) (.cells #[.int .i64 u.kind, .int .i64 u.op, .string u.text, .string u.other, .slice ua um uc] 70))
              have hs7 : w.heap.size + 1 + 1 ≤ w6.heap.size := by have := hb6.size; omega
              clear b0 b1 b2 b3 b4 s0 s1 s2 s3 s4 f5 x0 x1 x2 x3 x4 hb6 hT6 hB6
              obtain ⟨x0, x1, x2, x3, x4⟩ := box_cells hX7
              have f5 := box_frozen ht7.out.res
              obtain ⟨s0, s1, s2, s3, s4⟩ := box_cells ht7.out.res
              clear hX7
              go_wp2
              have hres := ht7.out.res
              have hpost := hid hT7.out
              refine form_done (.agg #[.int .i64 t.kind, .int .i64 t.op, .string t.text, .string t.other, .slice va qs.length vc]) hres (fun W hW => ?_) rfl ⟨va, _, vc, by rw [hRR]; rfl, five_below hB7.out (by omega), ?_⟩
              · obtain ⟨z0, z1, z2, z3, z4⟩ := box_cells hW
                simp [results, Tryz.results53, go_sem, z0, z1, z2, z3, z4]
              · rw [hRR]
                exact hpost.out.keep fun b hS hlt => ⟨five_kept (by omega), by omega⟩
end Go.Proofs.YtmemgmcopnaogaaGreatDoor
