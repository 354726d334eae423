/- Walks and lemmas of this seat (FBehind): what each theorem says of the functions that it names. Conditions: those that each theorem states. -/
import Derived.Test.YtfabfkaolnidiaaFLayW
namespace Go.Proofs.Ytfabfkaolnidiaa
set_option linter.unusedVariables false
set_option linter.unusedSimpArgs false
open Go.RowKit

/-- What is on the stack, the top first. -/
def pIts (L : List PIt) : List LIt := (L.map PIt.it).reverse
theorem pIts_snoc (L : List PIt) (x : PIt) : pIts (L ++ [x]) = x.it :: pIts L := by simp [pIts]
theorem pIts_append (L M : List PIt) : pIts (L ++ M) = pIts M ++ pIts L := by simp [pIts]
/-- How the count of what stands behind is reached. -/
structure BRun (tot cnt : Nat) (R : List Doc) : Prop where
  eq : tot = cnt + behindW R
  fine : ∀ d ∈ R, d.Fine
  bd : cnt + 1048576 * Doc.wts R ≤ 104857600000
theorem BRun.nil {tot cnt : Nat} (h : BRun tot cnt []) : tot = cnt := by have := h.eq; rw [behindW_nil] at this; omega
theorem BRun.stop {tot cnt : Nat} {d : Doc} {C : List Doc} (h : BRun tot cnt (d :: C)) (hk : d.kind = 2 ∨ d.kind = 3) : tot = cnt := by have := h.eq; rw [behindW_cons, if_pos hk] at this; omega
theorem BRun.cnt_le {tot cnt : Nat} {R : List Doc} (h : BRun tot cnt R) : cnt ≤ 104857600000 := by have := h.bd; omega
theorem BRun.text {tot cnt : Nat} {d : Doc} {C : List Doc} (h : BRun tot cnt (d :: C)) (hk : d.kind = 1) : BRun tot (cnt + d.text.size) (d.kids ++ C) := by
  have h1 := h.eq
  rw [behindW_cons, if_neg (by omega), if_pos hk] at h1
  have h2 := h.bd
  have hf := (h.fine d (by simp)).has
  have ht := hf.t
  rw [Doc.wts, d.wt_eq] at h2
  refine ⟨by omega, fun x hx => ?_, by rw [Doc.wts_append]; omega⟩
  rcases List.mem_append.1 hx with hx | hx
  · exact hf.kids x hx
  · exact h.fine x (by simp [hx])
theorem BRun.deep {tot cnt : Nat} {d : Doc} {C : List Doc} (h : BRun tot cnt (d :: C)) (hk : ¬ d.kind = 1 ∧ ¬ (d.kind = 2 ∨ d.kind = 3)) : BRun tot cnt (d.kids ++ C) := by
  have h1 := h.eq
  rw [behindW_cons, if_neg hk.2, if_neg hk.1] at h1
  have h2 := h.bd
  have hf := (h.fine d (by simp)).has
  rw [Doc.wts, d.wt_eq] at h2
  refine ⟨by omega, fun x hx => ?_, by rw [Doc.wts_append]; omega⟩
  rcases List.mem_append.1 hx with hx | hx
  · exact hf.kids x hx
  · exact h.fine x (by simp [hx])
theorem BRun.kids_le {tot cnt : Nat} {d : Doc} {C : List Doc} (h : BRun tot cnt (d :: C)) : d.kids.length + C.length ≤ 100000 := by
  have h2 := h.bd
  rw [Doc.wts, d.wt_eq] at h2
  have := wts_len d.kids
  have := wts_len C
  omega
theorem drop_rev {q : List (Doc × Value)} {k : Nat} {p : Doc × Value} (h : q[k]? = some p) : (q.drop k).reverse = (q.drop (k + 1)).reverse ++ [p] := by rw [drop_cons h, List.reverse_cons]
/-- A box in new memory stays while a row grows. -/
theorem box_kept {w w' : World} {b : Nat} {v : Value} {c : Array Value} {T : TypeId} {o : Obj} (hb : w.heap[b]? = some (.cells c T (0, 0))) (hg : (w.alloc o).grownBy w' v.ownBlock) (hne : v.ownBlock ≠ some b) : w'.heap[b]? = some (.cells c T (0, 0)) := by
  have hl := heap_lt hb
  exact (hg.block b (by simp; omega) fun e => hne e.symm).trans ((Below.heap_alloc _ _ _ hl).trans hb)

set_option maxRecDepth 100000 in
set_option maxHeartbeats 12800000 in
theorem implbehind_any (g B : Nat) (ov : Value) (c : Int) (tv : Value) (L : List PIt) (S : Nat → Prop) (w : World) (hbox : Wr w g ov c tv) (hown : w.ownsRow B 92 7 tv L.length (L.flatMap PIt.cells))
    (hd : ∀ p ∈ L, DocIs S w p.it.d p.kv) (hf : ∀ p ∈ L, p.it.d.Fine) (hw : itWts (pIts L) ≤ 100000) :
    Calls Try.prog 45 #[.pointer (some ⟨g, 0, none⟩)] w fun e w' => e = .returned (.int .i64 (behindW ((pIts L).map LIt.d))) ∧ Below w.heap.size w w' := by
  obtain ⟨i0, hi, hz0, hz1, hz2⟩ := info_parts Try.info70
  obtain ⟨tot, htot⟩ : ∃ tot, tot = behindW ((pIts L).map LIt.d) := ⟨_, rfl⟩
  have h0 : Hid (BRun tot 0 ((pIts L).map LIt.d)) := hid ⟨by rw [htot]; omega, fun d hd => by
    obtain ⟨x, hx, rfl⟩ := List.mem_map.1 hd
    unfold pIts at hx
    obtain ⟨p, hp, rfl⟩ := List.mem_map.1 (List.mem_reverse.1 hx)
    exact hf p hp, by have h9 : Doc.wts ((pIts L).map LIt.d) ≤ 100000 := hw; omega⟩
  have hlen : L.length ≤ 100000 := by
    have h9 := wts_len ((pIts L).map LIt.d)
    have h8 : Doc.wts ((pIts L).map LIt.d) ≤ 100000 := hw
    simp [pIts] at h9
    simp [pIts] at h8
    omega
  rw [← htot]
  clear htot hf hw
  obtain ⟨ta, tc, rfl, htm⟩ := own_slice hown
  have hw2 := hid hbox.c2
  have hgl := hbox.lt
  replace hbox := hid hbox
  replace hd := hid hd
  have b2 := hw2.out
  go_enter Try.func45, Try.ntmps45
  go_wp2
  go_loopw [3, 4, 5] (fun cv v i wr => ∃ (k cnt : Nat), cv = .int .i64 cnt ∧ i = .int .i64 ((k : Int) - 1) ∧ k ≤ L.length ∧ Below w.heap.size w wr ∧ wr.ownsRow w.heap.size 70 5 v 0 [] ∧ BRun tot cnt ((pIts (L.take k)).map LIt.d)) (fun _ _ i _ => (intOf i + 1).toNat)
  case atStart => exact ⟨L.length, 0, rfl, by first | rfl | go_num, Nat.le_refl _, by repeat (first | exact Below.refl _ _ | refine Below.alloc ?_ (by first | omega | (simp; done) | (simp; omega)) _ | refine Below.drew ?_), own_new0 _ _ _, by rw [List.take_length]; exact h0.out⟩
  clear h0 b2
  rename World => wo
  obtain ⟨k, cnt, rfl, rfl, hkl, hb, ho, hrun⟩ := hrel
  have hbs := hb.size
  by_cases hlt : 0 < k
  case neg =>
    obtain rfl : k = 0 := by omega
    have hA := hid hrun.nil
    clear hrun
    go_wp2
    go_ret
    exact ⟨by rw [hA.out]; rfl, hb⟩
  obtain ⟨j, rfl⟩ : ∃ j, k = j + 1 := ⟨k - 1, by omega⟩
  obtain ⟨⟨⟨d, dind, dflat⟩, kv⟩, hp⟩ := get_of_lt (show j < L.length by omega)
  obtain ⟨pa, pn, pc, hkv⟩ := (hd.out _ (List.mem_of_getElem? hp)).shape
  simp only at hkv
  subst hkv
  have hdd := hid (hd.out _ (List.mem_of_getElem? hp))
  obtain ⟨tg, tc', hve, htc, htm', htB, htl⟩ := own_slice_some hown (show 0 < L.length by omega)
  simp at hve
  obtain ⟨rfl, rfl⟩ := hve
  have s0 := carry hb (own_at PIt.len hown hp (j := 0) (by omega) rfl rfl)
  have s1 := carry hb (own_at PIt.len hown hp (j := 1) (by omega) rfl rfl)
  have s2 := carry hb (own_at PIt.len hown hp (j := 2) (by omega) rfl rfl)
  have s3 := carry hb (own_at PIt.len hown hp (j := 3) (by omega) rfl rfl)
  have s4 := carry hb (own_at PIt.len hown hp (j := 4) (by omega) rfl rfl)
  rw [Nat.add_zero] at s0
  have b2 := carry hb hw2.out
  rw [take_next hp, pIts_snoc, List.map_cons] at hrun
  have e1 : ((j + 1 : Nat) : Int) - 1 = (j : Int) := by omega
  have hjl : (j : Int) < (L.length : Int) := by omega
  have hj0 : (0 : Int) ≤ (j : Int) := by omega
  rw [e1]
  replace e1 := hid e1
  obtain ⟨C, hC⟩ : ∃ C, C = (pIts (L.take j)).map LIt.d := ⟨_, rfl⟩
  rw [← hC] at hrun
  replace hC := hid hC
  replace hrun := hid hrun
  clear hp
  go_wp2_with (at_builtin; refine Hid.out ?_)
  refine hid ?_
  refine wpList_append_lies _ (by rfl) _ _ _ (by rfl) w.heap.size 70 i0 _ 5 64 Try.underlying68 hi hz0 hz1 hz2 rfl (by omega) _ 0 [] (by rfl) (ho.alloc _) ⟨wo.heap.size, 0, none⟩ 1 1 (Doc.cells (d, .slice pa pn pc)) (by rfl) (by rfl) (World.news_of_block (cs := #[.int .i64 d.kind, .int .i64 d.n, .string d.text, .slice pa pn pc, .int .i64 d.group]) (t := 70) (fr := (0, 0)) (heap_alloc_new wo _)) (by simp [Value.oneCell', Doc.cells]) (by omega) (by unfold maxLen; omega) (by omega) (by simp; omega) (wo.heap.size + 1) (by simp) ?_
  intro gg cap3 w3 hown3 hgr3 hat3 hlt3
  have hb3 : Below w.heap.size w w3 := (hb.alloc hbs _).grown hgr3 (by simp; omega) (fun r e => (ho.lt r e).1)
  have ho3 : w3.ownsRow w.heap.size 70 5 (.slice (some ⟨gg, 0, none⟩) 1 cap3) ([(d, (.slice pa pn pc : Value))]).length (([(d, (.slice pa pn pc : Value))]).flatMap Doc.cells) := by simpa using hown3
  clear hgr3 hat3 hown3 ho s0 s1 s2 s3 s4 b2 hjl hj0
  replace hb3 := hid hb3
  refine Hid.out ?_
  refine hid ?_
  go_wp2
  go_loopg [3, 4] (Doc.wts (d :: C)) (fun gk cv v wr => ∃ (cnt : Nat) (M : List (Doc × Value)), cv = .int .i64 cnt ∧ Below w.heap.size w wr ∧ wr.ownsRow w.heap.size 70 5 v M.length (M.flatMap Doc.cells) ∧ (∀ p ∈ M, DocIs S w p.1 p.2) ∧ BRun tot cnt ((M.map Prod.fst).reverse ++ C) ∧ Doc.wts ((M.map Prod.fst).reverse ++ C) ≤ gk)
  case atStart => exact ⟨cnt, [(d, .slice pa pn pc)], rfl, hb3.out, ho3, fun p hp => by simp at hp; subst hp; exact hdd.out, hrun.out, Nat.le_refl _⟩
  clear hrun hb3 ho3 hlt3 hb hbs
  rename World => wi
  obtain ⟨cnt, M, rfl, hb, ho, hM, hrun, hgk⟩ := hrel
  have hbs := hb.size
  rcases List.eq_nil_or_concat M with rfl | ⟨M, ⟨x, xv⟩, rfl⟩
  · obtain ⟨sa, sc0, rfl, hscm0⟩ := own_slice ho
    have hrn := hid hrun
    clear hrun
    go_wp2
    go_roundw
    all_goals first
      | (simp [intOf]; omega)
      | (simp [intOf]; done)
      | (simp only [intOf]; omega)
      | exact ⟨j, cnt, rfl, by go_num, by omega, hb, ho, by have h9 := hrn.out; rw [hC.out] at h9; simpa using h9⟩
  rw [List.concat_eq_append] at ho hM hrun hgk
  rw [List.map_append, List.reverse_append] at hrun hgk
  simp only [List.map_cons, List.map_nil, List.reverse_cons, List.reverse_nil, List.nil_append, List.singleton_append, List.cons_append] at hrun hgk
  have hkls := hrun.kids_le
  rw [List.length_append, List.length_reverse, List.length_map] at hkls
  have hcl := hrun.cnt_le
  have hxf := (hrun.fine x (by simp)).has
  have htx := hxf.t
  obtain ⟨sg, sc, rfl, hsc, hscm, hsB, hsH⟩ := own_slice_some ho (by simp)
  have hxM : (M ++ [(x, xv)])[M.length]? = some (x, xv) := by simp
  obtain ⟨q, hq, hqs, hsub⟩ := (hM (x, xv) (by simp)).open
  simp only at hq hqs
  obtain ⟨_, xa, xc, rfl, hxc, hxm, hxrow⟩ := hqs
  unfold maxLen at hxm
  have s0 := own_at Doc.len ho hxM (j := 0) (by omega) rfl rfl
  have s1 := own_at Doc.len ho hxM (j := 1) (by omega) rfl rfl
  have s2 := own_at Doc.len ho hxM (j := 2) (by omega) rfl rfl
  have s3 := own_at Doc.len ho hxM (j := 3) (by omega) rfl rfl
  have s4 := own_at Doc.len ho hxM (j := 4) (by omega) rfl rfl
  rw [Nat.add_zero] at s0
  have hpop := own_pop Doc.len ho (by simp)
  have hll : (M ++ [(x, (.slice xa q.length xc : Value))]).length = M.length + 1 := by simp
  rw [hll] at hsc ⊢
  replace hll := hid hll
  have e9 : ((M.length + 1 : Nat) : Int) - 1 = (M.length : Int) := by omega
  have hsc2 : (M.length : Int) ≤ (sc : Int) := by omega
  have hsc3 : (0 : Int) ≤ (M.length : Int) := by omega
  have hM2 : ∀ p ∈ M, DocIs S w p.1 p.2 := fun p hp => hM p (by simp [hp])
  have hqk : Hid (q.length = x.kids.length) := hid (by rw [← hq, List.length_map])
  obtain ⟨X, hX⟩ : ∃ X, X = Obj.cells #[.int .i64 x.kind, .int .i64 x.n, .string x.text, .slice xa q.length xc, .int .i64 x.group] 70 (0, 0) := ⟨_, rfl⟩
  have hbx : Hid ((wi.alloc X).heap[wi.heap.size]? = some (.cells #[.int .i64 x.kind, .int .i64 x.n, .string x.text, .slice xa q.length xc, .int .i64 x.group] 70 (0, 0))) := hid (by rw [← hX]; exact heap_alloc_new wi X)
  have hpx : Hid ((wi.alloc X).ownsRow w.heap.size 70 5 (.slice (some ⟨sg, 0, none⟩) M.length sc) M.length (M.flatMap Doc.cells)) := hid (hpop.alloc _)
  have hb2 : Hid (Below w.heap.size w (wi.alloc X)) := hid (hb.alloc hbs _)
  rw [hX] at hbx hpx hb2
  by_cases k23 : x.kind = 2 ∨ x.kind = 3
  · have hA := hid (hrun.stop k23)
    have e1 : (x.kind == 1) = false := by simp; omega
    have e23 : (x.kind == 2) = true ∨ ((x.kind == 2) = false ∧ (x.kind == 3) = true) := by
      rcases k23 with h | h
      · left; simpa using h
      · right; constructor
        · simp; omega
        · simpa using h
    clear hrun hgk hM hM2 hkls hxf ho hpop hxM hX k23
    rcases e23 with e2 | ⟨e2, e3⟩
    all_goals go_wp2
    all_goals go_ret
    all_goals exact ⟨by rw [hA.out]; rfl, hb2.out⟩
  have e2 : (x.kind == 2) = false := by simp; omega
  have e3 : (x.kind == 3) = false := by simp; omega
  have hgk2 : Hid (Doc.wts (x.kids ++ ((M.map Prod.fst).reverse ++ C)) + 1 ≤ gk) := hid (by rw [Doc.wts, x.wt_eq] at hgk; rw [Doc.wts_append]; omega)
  obtain ⟨gk, rfl⟩ : ∃ g, gk = g + 1 := ⟨gk - 1, by have := hgk2.out; omega⟩
  have hrow : Hid (q.length = 0 ∨ ∃ b off, xa = some ⟨b, off, none⟩ ∧ S b ∧ RowAt w b off (q.flatMap Doc.cells)) := hid hxrow
  have hqd : Hid (∀ p ∈ q, DocIs S w p.1 p.2) := hid hsub
  have hq2 := hid hq
  by_cases k1 : x.kind = 1
  · have hrn := hid (hrun.text k1)
    have e1 : (x.kind == 1) = true := by simpa using k1
    clear hrun hgk hM hxf ho hpop hxM hX k23 k1 hxrow hsub hq
    replace hM2 := hid hM2
    go_wp2
    go_loopw [4, 7] (fun v i wr => ∃ (k : Nat), i = .int .i64 ((k : Int) - 1) ∧ k ≤ q.length ∧ Below w.heap.size w wr ∧ wr.ownsRow w.heap.size 70 5 v (M ++ (q.drop k).reverse).length ((M ++ (q.drop k).reverse).flatMap Doc.cells) ∧ wr.heap[wi.heap.size]? = some (.cells #[.int .i64 x.kind, .int .i64 x.n, .string x.text, .slice xa q.length xc, .int .i64 x.group] 70 (0, 0)) ∧ v.ownBlock ≠ some wi.heap.size) (fun _ i _ => (intOf i + 1).toNat)
    case atStart => exact ⟨q.length, by first | rfl | go_num, Nat.le_refl _, hb2.out, by rw [List.drop_length]; simpa using hpx.out, hbx.out, by simp [Value.ownBlock]; omega⟩
    clear hpx hbx hb2 s0 s1 s2 s3 s4
    rename World => wk
    obtain ⟨k, rfl, hkq, hb, ho, hbx, hne⟩ := hrel
    have hbs := hb.size
    by_cases hlt : 0 < k
    · obtain ⟨m, rfl⟩ : ∃ m, k = m + 1 := ⟨k - 1, by omega⟩
      obtain ⟨⟨y, yv⟩, hy⟩ := get_of_lt (show m < q.length by omega)
      obtain ⟨ya, yn, yc, hyv⟩ := (hqd.out _ (List.mem_of_getElem? hy)).shape
      simp only at hyv
      subst hyv
      obtain ⟨qb, qoff, rfl, hqS, hqro⟩ := hrow.out.resolve_left (by omega)
      have hrw := hqro.mono hb (Nat.le_refl _)
      have c0 := hrw.flat0 5 Doc.len hy rfl
      have c1 := hrw.flat 5 Doc.len hy 1 rfl
      have c2 := hrw.flat 5 Doc.len hy 2 rfl
      have c3 := hrw.flat 5 Doc.len hy 3 rfl
      have c4 := hrw.flat 5 Doc.len hy 4 rfl
      have b3 : wk.cell? ⟨wi.heap.size, 3, none⟩ = some (.slice (some ⟨qb, qoff, none⟩) q.length xc) := box_cell hbx rfl
      have hnx := drop_rev hy
      have hA9 : (M ++ (q.drop (m + 1)).reverse).length ≤ 100000 := by rw [List.length_append, List.length_reverse, List.length_drop]; have := hqk.out; omega
      obtain ⟨A, hA⟩ : ∃ A, A = M ++ (q.drop (m + 1)).reverse := ⟨_, rfl⟩
      rw [← hA] at ho hA9
      have hA2 : Hid (M ++ (q.drop m).reverse = A ++ [(y, .slice ya yn yc)]) := hid (by rw [hnx, hA]; simp)
      have e5 : ((m + 1 : Nat) : Int) - 1 = (m : Int) := by omega
      have hmq : (m : Int) < (q.length : Int) := by omega
      rw [e5]
      replace e5 := hid e5
      replace hbx := hid hbx
      replace hne := hid hne
      clear hnx hA hy hqro hrw
      go_wp2_with (at_builtin; refine wpList_append_lies _ (by rfl) _ _ _ (by rfl) w.heap.size 70 i0 _ 5 64 Try.underlying68 hi hz0 hz1 hz2 rfl (by omega) _ A.length (A.flatMap Doc.cells) (by rfl) (ho.alloc _) ⟨wk.heap.size, 0, none⟩ 1 1 (Doc.cells (y, .slice ya yn yc)) (by rfl) (by rfl) (World.news_of_block (cs := #[.int .i64 y.kind, .int .i64 y.n, .string y.text, .slice ya yn yc, .int .i64 y.group]) (t := 70) (fr := (0, 0)) (heap_alloc_new wk _)) (by simp [Value.oneCell', Doc.cells]) (by omega) (by unfold maxLen; omega) (by omega) (by simp; omega) (wk.heap.size + 1) (by simp) ?_; intro gg5 cap5 w5 hown5 hgr5 hat5 hlt5)
      all_goals go_roundw
      all_goals first
        | (simp [intOf]; omega)
        | (simp [intOf]; done)
        | (simp only [intOf]; omega)
        | exact (by
            have hwl : wi.heap.size < wk.heap.size := heap_lt hbx.out
            refine ⟨m, by go_num, by omega, (hb.alloc hbs _).grown hgr5 (by simp; omega) (fun r e => (ho.lt r e).1), ?_, box_kept hbx.out hgr5 hne.out, ?_⟩
            · rw [hA2.out, List.length_append, List.flatMap_append]; simpa using hown5
            · intro e
              rcases hat5 with h | h
              · exact hne.out (h.trans e)
              · simp [Value.ownBlock] at e; omega)
    · obtain rfl : k = 0 := by omega
      go_wp2
      go_roundg gk
      all_goals first
        | omega
        | exact (by
            refine ⟨_, M ++ q.reverse, rfl, hb, by simpa using ho, fun p hp => ?_, ?_, ?_⟩
            · rcases List.mem_append.1 hp with hp | hp
              · exact hM2.out p hp
              · exact hqd.out p (List.mem_reverse.1 hp)
            · have h9 := hrn.out
              rw [← hq2.out] at h9
              simpa [List.map_append, List.map_reverse] using h9
            · have h9 := hgk2.out
              rw [← hq2.out] at h9
              simp [List.map_append, List.map_reverse] at h9 ⊢
              omega)
  · have hrn := hid (hrun.deep ⟨k1, k23⟩)
    have e1 : (x.kind == 1) = false := by simpa using k1
    clear hrun hgk hM hxf ho hpop hxM hX k23 k1 hxrow hsub hq
    replace hM2 := hid hM2
    go_wp2
    go_loopw [4, 7] (fun v i wr => ∃ (k : Nat), i = .int .i64 ((k : Int) - 1) ∧ k ≤ q.length ∧ Below w.heap.size w wr ∧ wr.ownsRow w.heap.size 70 5 v (M ++ (q.drop k).reverse).length ((M ++ (q.drop k).reverse).flatMap Doc.cells) ∧ wr.heap[wi.heap.size]? = some (.cells #[.int .i64 x.kind, .int .i64 x.n, .string x.text, .slice xa q.length xc, .int .i64 x.group] 70 (0, 0)) ∧ v.ownBlock ≠ some wi.heap.size) (fun _ i _ => (intOf i + 1).toNat)
    case atStart => exact ⟨q.length, by first | rfl | go_num, Nat.le_refl _, hb2.out, by rw [List.drop_length]; simpa using hpx.out, hbx.out, by simp [Value.ownBlock]; omega⟩
    clear hpx hbx hb2 s0 s1 s2 s3 s4
    rename World => wk
    obtain ⟨k, rfl, hkq, hb, ho, hbx, hne⟩ := hrel
    have hbs := hb.size
    by_cases hlt : 0 < k
    · obtain ⟨m, rfl⟩ : ∃ m, k = m + 1 := ⟨k - 1, by omega⟩
      obtain ⟨⟨y, yv⟩, hy⟩ := get_of_lt (show m < q.length by omega)
      obtain ⟨ya, yn, yc, hyv⟩ := (hqd.out _ (List.mem_of_getElem? hy)).shape
      simp only at hyv
      subst hyv
      obtain ⟨qb, qoff, rfl, hqS, hqro⟩ := hrow.out.resolve_left (by omega)
      have hrw := hqro.mono hb (Nat.le_refl _)
      have c0 := hrw.flat0 5 Doc.len hy rfl
      have c1 := hrw.flat 5 Doc.len hy 1 rfl
      have c2 := hrw.flat 5 Doc.len hy 2 rfl
      have c3 := hrw.flat 5 Doc.len hy 3 rfl
      have c4 := hrw.flat 5 Doc.len hy 4 rfl
      have b3 : wk.cell? ⟨wi.heap.size, 3, none⟩ = some (.slice (some ⟨qb, qoff, none⟩) q.length xc) := box_cell hbx rfl
      have hnx := drop_rev hy
      have hA9 : (M ++ (q.drop (m + 1)).reverse).length ≤ 100000 := by rw [List.length_append, List.length_reverse, List.length_drop]; have := hqk.out; omega
      obtain ⟨A, hA⟩ : ∃ A, A = M ++ (q.drop (m + 1)).reverse := ⟨_, rfl⟩
      rw [← hA] at ho hA9
      have hA2 : Hid (M ++ (q.drop m).reverse = A ++ [(y, .slice ya yn yc)]) := hid (by rw [hnx, hA]; simp)
      have e5 : ((m + 1 : Nat) : Int) - 1 = (m : Int) := by omega
      have hmq : (m : Int) < (q.length : Int) := by omega
      rw [e5]
      replace e5 := hid e5
      replace hbx := hid hbx
      replace hne := hid hne
      clear hnx hA hy hqro hrw
      go_wp2_with (at_builtin; refine wpList_append_lies _ (by rfl) _ _ _ (by rfl) w.heap.size 70 i0 _ 5 64 Try.underlying68 hi hz0 hz1 hz2 rfl (by omega) _ A.length (A.flatMap Doc.cells) (by rfl) (ho.alloc _) ⟨wk.heap.size, 0, none⟩ 1 1 (Doc.cells (y, .slice ya yn yc)) (by rfl) (by rfl) (World.news_of_block (cs := #[.int .i64 y.kind, .int .i64 y.n, .string y.text, .slice ya yn yc, .int .i64 y.group]) (t := 70) (fr := (0, 0)) (heap_alloc_new wk _)) (by simp [Value.oneCell', Doc.cells]) (by omega) (by unfold maxLen; omega) (by omega) (by simp; omega) (wk.heap.size + 1) (by simp) ?_; intro gg5 cap5 w5 hown5 hgr5 hat5 hlt5)
      all_goals go_roundw
      all_goals first
        | (simp [intOf]; omega)
        | (simp [intOf]; done)
        | (simp only [intOf]; omega)
        | exact (by
            have hwl : wi.heap.size < wk.heap.size := heap_lt hbx.out
            refine ⟨m, by go_num, by omega, (hb.alloc hbs _).grown hgr5 (by simp; omega) (fun r e => (ho.lt r e).1), ?_, box_kept hbx.out hgr5 hne.out, ?_⟩
            · rw [hA2.out, List.length_append, List.flatMap_append]; simpa using hown5
            · intro e
              rcases hat5 with h | h
              · exact hne.out (h.trans e)
              · simp [Value.ownBlock] at e; omega)
    · obtain rfl : k = 0 := by omega
      go_wp2
      go_roundg gk
      all_goals first
        | omega
        | exact (by
            refine ⟨_, M ++ q.reverse, rfl, hb, by simpa using ho, fun p hp => ?_, ?_, ?_⟩
            · rcases List.mem_append.1 hp with hp | hp
              · exact hM2.out p hp
              · exact hqd.out p (List.mem_reverse.1 hp)
            · have h9 := hrn.out
              rw [← hq2.out] at h9
              simpa [List.map_append, List.map_reverse] using h9
            · have h9 := hgk2.out
              rw [← hq2.out] at h9
              simp [List.map_append, List.map_reverse] at h9 ⊢
              omega)
end Go.Proofs.Ytfabfkaolnidiaa
