/- Walks and lemmas of this seat (LFnOneLine): what each theorem says of the functions that it names. Conditions: those that each theorem states. -/
import Derived.Test.YtfabfkaolnidiaaFDrawLay
import Derived.Test.YtfabfkaolnidiaaPOneLine
import Derived.Test.YtfabfkaolnidiaaFRend2
import Derived.Test.YtfabfkaolnidiaaFSameDoc2
import Derived.Test.YtfabfkaolnidiaaGHB
namespace Go.Proofs.Ytfabfkaolnidiaa
set_option linter.unusedVariables false
set_option linter.unusedSimpArgs false
open Go.RowKit

theorem flatL_len : ∀ (l : List DNode) (s : List UInt8), flatL l = some s → s.length ≤ bulk DNode.sizes l := by
  intro l
  induction l with
  | nil => intro s h; simp [flatL] at h; subst h; simp [bulk]
  | cons x l ih =>
    intro s h
    rw [flatL] at h
    have hb : bulk DNode.sizes (x :: l) = x.sizes + 1 + bulk DNode.sizes l := by simp [bulk]; omega
    cases hx : leafOf x.kind x.text with
    | none => rw [hx] at h; simp at h
    | some a =>
      rw [hx] at h
      cases hl : flatL l with
      | none => rw [hl] at h; simp at h
      | some b =>
        rw [hl] at h
        simp at h
        subst h
        have h1 := ih b hl
        have h2 : a.length ≤ x.sizes + 1 := by
          unfold leafOf at hx
          unfold DNode.sizes
          have e : x.text.data.toList.length = x.text.size := rfl
          split at hx
          · simp at hx; subst hx; omega
          split at hx
          · simp at hx; subst hx; simp
          split at hx
          · simp at hx
          · simp at hx; subst hx; simp
        rw [List.length_append]; omega
theorem grp_slc {w : World} {B cap : Nat} {gv k1 : Value} {q : List (DNode × Value)} (hrow : w.ownsRow B 49 4 gv (q.length + 1) (q.flatMap DNode.cells ++ [.int .i64 5, .int .i64 0, .string ⟨#[]⟩, k1]))
    (hk : ∀ p ∈ q, Slc w p.2 1 p.1.kids.length (p.1.kids.flatMap int1)) (h1 : Slc w k1 1 1 [.int .i64 (((q.map Prod.fst).length : Int) - 1)]) : DNodeSlc w gv (q.map Prod.fst ++ [grp (q.map Prod.fst).length]) := by
  refine ⟨q ++ [(grp (q.map Prod.fst).length, k1)], by simp, ?_, fun p hp => ?_⟩
  · rw [List.length_append, List.length_singleton, List.flatMap_append]
    exact Slc.of_own hrow
  · rcases List.mem_append.1 hp with hp | hp
    · exact hk p hp
    · rw [List.mem_singleton.1 hp]; exact h1
theorem grp_fine {l : List DNode} (hf : FineD l) : (∀ x ∈ l ++ [grp l.length], x.Ok) ∧ bulk DNode.sizes (l ++ [grp l.length]) ≤ 1048576 := by
  have h1 := hf.fine
  have h0 := hf.1
  refine ⟨fun x hx => ?_, ?_⟩
  · rcases List.mem_append.1 hx with hx | hx
    · exact h1.1 x hx
    · rw [List.mem_singleton.1 hx]
      refine ⟨by show 0 ≤ _; omega, by unfold I64; simp only [grp]; omega, by unfold I64; simp only [grp]; omega, fun k hk => ?_, by unfold maxLen; simp [grp]⟩
      simp [grp] at hk
      unfold I64; omega
  · have : bulk DNode.sizes (l ++ [grp l.length]) = bulk DNode.sizes l + 2 := by
      have e : (⟨#[]⟩ : ByteArray).size = 0 := rfl
      simp [bulk, List.map_append, List.sum_append, DNode.sizes, grp, e]
      omega
    omega
theorem cells_one (p : DNode × Value) (h : ∃ a n c, p.2 = .slice a n c) : ∀ u ∈ DNode.cells p, u.oneCell' = true := fun u hu => by
  obtain ⟨a, n, c, e⟩ := h
  unfold DNode.cells at hu
  rw [e] at hu
  simp at hu
  rcases hu with rfl | rfl | rfl | rfl <;> rfl
/-- The group over the document has been made: what the rest needs of it. -/
structure GrpMade (w w2 w3 : World) (l : List DNode) (gv : Value) : Prop where
  hb : Below w.heap.size w w3
  slc : DNodeSlc w3 gv (l ++ [grp l.length])

set_option maxRecDepth 100000 in
set_option maxHeartbeats 6400000 in
theorem lawFnOneLine {w : World} (bs : List UInt8) (v0 : Value) (hv0 : Slc w v0 1 bs.length (bs.flatMap byte1)) :
    Calls Try.prog 7 #[v0] w fun e w' => e = .returned (.bool true) ∧ Below w.heap.size w w' := by
  have hbig := hid (lawsbig_any v0 bs w hv0)
  by_cases hs : 1048576 < bs.length
  · have hd : decide (1048576 < bs.length) = true := by simpa using hs
    rw [hd] at hbig
    obtain ⟨_, a, cap, rfl, hcap, hm, hrow⟩ := hv0
    go_enter Try.func7, Try.ntmps7
    go_wp2_with (go_at_call 21; refine hbig.out.mono ?_; rintro e w' ⟨rfl, rfl⟩)
    go_ret
    exact ⟨rfl, Below.refl _ _⟩
  have hd : decide (1048576 < bs.length) = false := by simpa using hs
  rw [hd] at hbig
  have hat := hid (fun (W : World) (hb : Below w.heap.size w W) (i : Int) (hi : 0 ≤ i ∧ i ≤ 1000) => lawsat_eq v0 bs i hi W (hv0.mono hb (Nat.le_refl _)) (by omega))
  have hdraw := hid (specDrawFlatText_any w v0 bs hv0 (by omega))
  obtain ⟨_, a, cap, rfl, hcap, hm, _⟩ := hv0
  clear hd hs
  go_enter Try.func7, Try.ntmps7
  go_wp2_with (go_at_call 21; refine hbig.out.mono ?_; rintro e w' ⟨rfl, hw'⟩; subst w')
  refine hdraw.out.mono ?_; rintro e w1 ⟨v, l, rfl, hbw, hD, hf⟩
  have hff := hf.fine
  have hbk : bulk DNode.sizes l ≤ 1048576 := by omega
  have hll := hf.1
  have hgf := hid (grp_fine hf)
  obtain ⟨va, vc, rfl, hvm, hvc, _⟩ := hD.shape
  have cfl := fun (W : World) (hb : Below w1.heap.size w1 W) => implFlatText_any l _ W hff.1 hbk (hD.mono hb (Nat.le_refl _))
  have cfls := fun (W : World) (hb : Below w1.heap.size w1 W) => specFlatText_any l _ W hff.1 hbk (hD.mono hb (Nat.le_refl _))
  have cgis := hid (fun (W : World) (hb : Below w1.heap.size w1 W) => specGroupsIn_any l _ W hff.1 hbk (hD.mono hb (Nat.le_refl _)))
  have cdok := fun (W : World) (hb : Below w1.heap.size w1 W) => specDocOk_any l _ W hff.1 hbk (hD.mono hb (Nat.le_refl _))
  have hws := hbw.size
  have hB := hid (fun (W : World) (hb : Below w1.heap.size w1 W) => hbw.trans (hb.mono hws))
  have hb1 := hid (Below.refl w1.heap.size w1)
  have ha0 := atI_bd bs 0
  replace hD := hid hD
  clear hdraw hbig hbw
  by_cases hok : docOk l = true
  · cases hfl : flatText l with
    | none =>
      rw [hfl] at cfl cfls
      rw [show tup none = .returned (.tuple #[.string ⟨#[]⟩, .bool false]) from rfl] at cfl cfls
      rw [hok] at cdok
      replace cfl := hid cfl
      replace cfls := hid cfls
      replace cdok := hid cdok
      clear hok hfl
      go_wp2_with fail
      refine (cfl.out w1 hb1.out).mono ?_; rintro e w2 ⟨rfl, hbx⟩
      have hb2 := hid (hb1.out.trans (hbx.mono hb1.out.size))
      clear hbx
      go_wp2_with fail
      refine (cdok.out w2 hb2.out).mono ?_; rintro e w3 ⟨rfl, hbx⟩
      have hb3 := hid (hb2.out.trans (hbx.mono hb2.out.size))
      clear hbx
      go_wp2_with fail
      refine (cfls.out w3 hb3.out).mono ?_; rintro e w4 ⟨rfl, hbx⟩
      have hb4 := hid (hb3.out.trans (hbx.mono hb3.out.size))
      clear hbx
      go_wp2
      go_ret
      exact ⟨rfl, hB.out _ hb4.out⟩
    | some s =>
      have hsl : s.length ≤ bulk DNode.sizes l := flatL_len l s (by unfold flatText at hfl; rw [if_pos hok] at hfl; exact hfl)
      have hren := hid (fun (hl : l.length + 1 ≤ 4000) (wd : Int) (hw : (s.length : Int) ≤ wd ∧ wd ≤ 10000) => show tup (renderL (l ++ [grp l.length]) wd) = .returned (.tuple #[.string ⟨s.toArray⟩, .bool true]) by rw [render_grp hok hl hbk hfl hw]; rfl)
      have hl1 := (docOk_starts hok).1
      rw [hfl, show tup (some s) = .returned (.tuple #[.string ⟨s.toArray⟩, .bool true]) from rfl] at cfl
      rw [hok] at cdok
      replace cfl := hid cfl
      replace cdok := hid cdok
      have htz : (⟨s.toArray⟩ : ByteArray).size = s.length := by show s.toArray.size = _; simp
      clear hok hfl cfls
      generalize (⟨s.toArray⟩ : ByteArray) = T at *
      rw [← htz] at hren hsl
      have hTz : T.size ≤ 140000 := by omega
      clear hsl htz
      generalize hgo : l.countP isGroupB = ng at cgis
      have hng : ng ≤ 4000 := by have := List.countP_le_length (p := isGroupB) (l := l); omega
      have hng2 : Hid ((l ++ [grp l.length]).countP isGroupB = ng + 1) := hid (by rw [List.countP_append, hgo]; rfl)
      have hse : Hid (eqList eqDNode (l ++ [grp l.length]) (l ++ [grp l.length]) = true) := hid (eqList_self eqDNode eqDNode_iff _)
      have hne : Hid (eqList eqDNode (l ++ [grp l.length]) l = false) := hid (by
        cases h : eqList eqDNode (l ++ [grp l.length]) l with
        | false => rfl
        | true =>
          have := congrArg List.length ((eqList_iff eqDNode eqDNode_iff _ _).1 h)
          simp at this)
      replace hgo := hid hgo
      go_wp2_with fail
      refine (cfl.out w1 hb1.out).mono ?_; rintro e w2 ⟨rfl, hbx⟩
      have hb2 := hid (hb1.out.trans (hbx.mono hb1.out.size))
      clear hbx
      go_wp2_with fail
      refine (cdok.out w2 hb2.out).mono ?_; rintro e w3 ⟨rfl, hbx⟩
      have hb3 := hid (hb2.out.trans (hbx.mono hb2.out.size))
      clear hbx
      obtain ⟨q, hq, hrow, hkids⟩ := hD.out
      have hql : q.length = l.length := by rw [← hq]; simp
      obtain ⟨_, va', vc', hve, _, _, hrow⟩ := hrow
      simp only [Value.slice.injEq] at hve
      obtain ⟨rfl, hx9, rfl⟩ := hve
      clear hx9
      obtain ⟨b, off, rfl, hro⟩ := slc_some hrow (by omega)
      obtain ⟨i0, hi, hz0, hz1, hz2⟩ := info_parts Try.info3
      obtain ⟨i1, hj, hy0, hy1, hy2⟩ := info_parts infoDNode
      have hcl : Hid ((q.flatMap DNode.cells).length = l.length * 4) := hid (by rw [flat_len _ 4 DNode.len, hql])
      have hone : Hid (∀ u ∈ q.flatMap DNode.cells, u.oneCell' = true) := hid fun u hu => by
        obtain ⟨p, hp, hu⟩ := List.mem_flatMap.1 hu
        obtain ⟨_, a, c, e, _⟩ := hkids p hp
        exact cells_one p ⟨a, _, c, e⟩ u hu
      have hro2 := hid (hro.mono hb3.out (Nat.le_refl _))
      have hs3 := hb3.out.size
      replace hkids := hid hkids
      replace hql := hid hql
      replace hq := hid hq
      clear hrow hro
      go_wp2_with (at_builtin; refine Hid.out ?_)
      refine hid ?_
      refine wpList_append_own _ (by rfl) _ _ 26 (by rfl) w3.heap.size 49 i1 _ 4 56 Try.underlying26 hj hy0 hy1 hy2 rfl (by decide) _ 0 [] (by rfl) (own_new0 w3 _ _) ⟨b, off, none⟩ l.length _ (q.flatMap DNode.cells) (by rfl) hcl.out (fun j u hu => ?_) hone.out (by unfold maxLen; omega) (by omega) (by simp) ?_
      · have h5 := hro2.out j u hu
        rw [show (⟨b, off, none⟩ : Addr).add j = ⟨b, off + j, none⟩ from by cases j <;> simp [Addr.add]]
        exact (((Below.refl w3.heap.size w3).alloc (Nat.le_refl _) _).cell (p := ⟨b, off + j, none⟩) (World.block_lt_of_cell? w3 _ h5)).trans h5
      intro g2 w4 hown4 hgr4 hiff; clear hiff
      rw [Nat.zero_add, List.nil_append] at hown4
      have hB4 : Below w3.heap.size w3 w4 := ((Below.refl w3.heap.size w3).alloc (Nat.le_refl _) _).grown hgr4 (by simp) (fun r e => by simp [Value.ownBlock] at e; omega)
      have hs4 := hB4.size
      replace hB4 := hid hB4
      replace hown4 := hid hown4
      clear hgr4 hro2 hcl hone
      go_wp2_with (at_builtin; refine Hid.out ?_)
      refine hid ?_
      refine wpList_append_own _ (by rfl) _ _ 26 (by rfl) w3.heap.size 49 i1 _ 4 56 Try.underlying26 hj hy0 hy1 hy2 rfl (by decide) _ l.length (q.flatMap DNode.cells) (by rfl) ((hown4.out.alloc _).alloc _) _ 1 1 [.int .i64 5, .int .i64 0, .string ⟨#[]⟩, .slice (some ⟨w4.heap.size, 0, none⟩) 1 1] (by rfl) (by rfl) (new_cells_at _ _ _ _ _ (by first | rfl | (simp; done)) (by first | rfl | (simp; done))) (by intro u hu; simp only [List.mem_cons, List.not_mem_nil, or_false] at hu; rcases hu with rfl | rfl | rfl | rfl <;> rfl) (by unfold maxLen; omega) (by omega) (by simp; omega) ?_
      intro g3 w5 hown5 hgr5 hiff; clear hiff
      have hB5 : Below w3.heap.size w3 w5 := ((hB4.out.alloc hs4 _).alloc (by simp; omega) _).grown hgr5 (by simp; omega) (fun r e => (hown4.out.lt r e).1)
      have hk5 := own_types3 hgr5 ((World.ownsRow_lit (base := 0) (e := 3) (size := 1) w4 #[.int .i64 ((l.length : Int) - 1)] 1 (Nat.zero_le _) (by unfold maxLen; omega) rfl).alloc _) ((hown4.out.alloc _).alloc _) (by decide)
      obtain ⟨ga, gc, rfl, _⟩ := own_slice hown5
      have hb5 : Below w1.heap.size w1 w5 := hb3.out.trans (hB5.mono hs3)
      have hG : DNodeSlc w5 (.slice ga (l.length + 1) gc) (l ++ [grp l.length]) := by
        have := grp_slc (q := q) (k1 := .slice (some ⟨w4.heap.size, 0, none⟩) 1 1) (cap := 0) (by rw [hql.out]; exact hown5) (fun p hp => (hkids.out p hp).mono hb5 (Nat.le_refl _)) (by rw [hq.out]; exact Slc.of_own hk5)
        rwa [hq.out] at this
      have hs5 := hb5.size
      replace hb5 := hid hb5
      clear hown5 hgr5 hB5 hk5 hown4 hB4 hkids
      by_cases h4000 : 4000 < (l.length : Int) + 1
      · go_wp2
        go_ret
        exact ⟨rfl, hB.out _ hb5.out⟩
      go_wp2_with fail
      refine (hat.out w5 (hB.out w5 hb5.out) 0 (by omega)).mono ?_; rintro e w6 ⟨rfl, hw6⟩; subst w6
      by_cases hwd : 10000 < (T.size : Int) + atI bs 0
      · go_wp2
        go_ret
        exact ⟨rfl, hB.out _ hb5.out⟩
      have cr := hid (fun (wd : Int) (W : World) (hb : Below w5.heap.size w5 W) => implRender_any _ _ wd W hgf.out.1 hgf.out.2 (hG.mono hb (Nat.le_refl _)))
      have cgi := fun (W : World) (hb : Below w5.heap.size w5 W) => implGroupsIn_any _ _ W hgf.out.1 hgf.out.2 (hG.mono hb (Nat.le_refl _))
      have csd := fun (W : World) (hb : Below w5.heap.size w5 W) => implSameDoc_any _ _ _ _ W hgf.out.1 hgf.out.2 (hG.mono hb (Nat.le_refl _)) hgf.out.1 hgf.out.2 (hG.mono hb (Nat.le_refl _))
      have csd2 := fun (W : World) (hb : Below w5.heap.size w5 W) => implSameDoc_any _ _ _ _ W hgf.out.1 hgf.out.2 (hG.mono hb (Nat.le_refl _)) hff.1 hbk (hD.out.mono (hb5.out.trans (hb.mono hs5)) (Nat.le_refl _))
      rw [hng2.out] at cgi
      rw [hse.out] at csd
      rw [hne.out] at csd2
      have hr1 := hid (hren.out (by omega) (T.size : Int) ⟨Int.le_refl _, by omega⟩)
      have hr2 := hid (hren.out (by omega) ((T.size : Int) + atI bs 0) ⟨by omega, by omega⟩)
      replace cgi := hid cgi
      replace csd := hid csd
      replace csd2 := hid csd2
      clear hG hren hng2 hse hne hgo hq hql
      have hc5 := hid (Below.refl w5.heap.size w5)
      go_wp2_with fail
      refine (cr.out (T.size : Int) w5 hc5.out).mono ?_; rintro e w6 ⟨he, hbx⟩
      rw [hr1.out] at he; subst he
      have hc6 := hid (hc5.out.trans (hbx.mono hc5.out.size))
      clear hbx
      go_wp2_with fail
      refine (hat.out w6 (hB.out w6 (hb5.out.trans (hc6.out.mono hs5))) 0 (by omega)).mono ?_; rintro e w7 ⟨rfl, hw7⟩; subst w7
      go_wp2_with fail
      refine (cr.out ((T.size : Int) + atI bs 0) w6 hc6.out).mono ?_; rintro e w7 ⟨he, hbx⟩
      rw [hr2.out] at he; subst he
      have hc7 := hid (hc6.out.trans (hbx.mono hc6.out.size))
      clear hbx
      go_wp2_with fail
      refine (cgi.out w7 hc7.out).mono ?_; rintro e w8 ⟨rfl, hbx⟩
      have hc8 := hid (hc7.out.trans (hbx.mono hc7.out.size))
      clear hbx
      go_wp2_with fail
      refine (cgis.out w8 (hb5.out.trans (hc8.out.mono hs5))).mono ?_; rintro e w9 ⟨rfl, hbx⟩
      have hc9 := hid (hc8.out.trans (hbx.mono hc8.out.size))
      clear hbx
      go_wp2_with fail
      refine (csd.out w9 hc9.out).mono ?_; rintro e w10 ⟨rfl, hbx⟩
      have hc10 := hid (hc9.out.trans (hbx.mono hc9.out.size))
      clear hbx
      go_wp2_with fail
      refine (csd2.out w10 hc10.out).mono ?_; rintro e w11 ⟨rfl, hbx⟩
      have hc11 := hid (hc10.out.trans (hbx.mono hc10.out.size))
      clear hbx
      go_wp2
      go_ret
      exact ⟨rfl, hB.out _ (hb5.out.trans (hc11.out.mono hs5))⟩
  · have hfl : flatText l = none := by unfold flatText; rw [if_neg hok]
    have hok : docOk l = false := by simpa using hok
    rw [hfl, show tup none = .returned (.tuple #[.string ⟨#[]⟩, .bool false]) from rfl] at cfl
    rw [hok] at cdok
    replace cfl := hid cfl
    replace cdok := hid cdok
    clear hok hfl cfls
    go_wp2_with fail
    refine (cfl.out w1 hb1.out).mono ?_; rintro e w2 ⟨rfl, hbx⟩
    have hb2 := hid (hb1.out.trans (hbx.mono hb1.out.size))
    clear hbx
    go_wp2_with fail
    refine (cdok.out w2 hb2.out).mono ?_; rintro e w3 ⟨rfl, hbx⟩
    have hb3 := hid (hb2.out.trans (hbx.mono hb2.out.size))
    clear hbx
    go_wp2
    go_ret
    exact ⟨rfl, hB.out _ hb3.out⟩
end Go.Proofs.Ytfabfkaolnidiaa
