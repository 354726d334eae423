/- Walks and lemmas of this seat (FLayM): what each theorem says of the functions that it names. Conditions: those that each theorem states. -/
import Derived.Test.YtfabfkaolnidiaaFLayR
import Derived.Test.YtfabfkaolnidiaaFMaskI
namespace Go.Proofs.Ytfabfkaolnidiaa
set_option linter.unusedVariables false
set_option linter.unusedSimpArgs false
open Go.RowKit

/-! The reference's layout by a mask of bits, one for each group. -/
def layMask (l : List DNode) (m : Nat) : List UInt8 × Bool := layRun (maskDec m) l.length ⟨[], 0, true, [root0 l]⟩
theorem layRun_false (dec : Nat → List LIt → LIt → Bool) : ∀ (f : Nat) (s : LSt), s.ok = false → (layRun dec f s).2 = false := by
  intro f
  induction f with
  | zero => intro s h; exact h
  | succ f ih =>
    intro s h
    obtain ⟨out, col, ok, st⟩ := s
    cases st with
    | nil => exact h
    | cons x st =>
      rw [layRun_cons]
      refine ih _ ?_
      simp only at h
      subst h
      unfold layStep
      split
      · rfl
      split
      · rfl
      split
      · rfl
      split <;> rfl
/-- Two results: a layout, and whether it may be. -/
def maskTup (p : List UInt8 × Bool) : Ending := .returned (.tuple #[.string (if p.2 = true then ⟨p.1.toArray⟩ else ⟨#[]⟩), .bool p.2])
theorem maskTup_no {p : List UInt8 × Bool} (h : p.2 = false) : maskTup p = .returned (.tuple #[.string ⟨#[]⟩, .bool false]) := by unfold maskTup; rw [h]; rfl
theorem maskTup_yes {p : List UInt8 × Bool} {o : List UInt8} (h : p = (o, true)) : maskTup p = .returned (.tuple #[.string ⟨o.toArray⟩, .bool true]) := by unfold maskTup; rw [h]; rfl
/-- For each node, how many groups stand ahead of it. -/
def bitL (l : List DNode) (k : Nat) : List Int := (List.range k).map fun i => (((l.take i).countP isGroupB : Nat) : Int)
theorem bitL_len (l : List DNode) (k : Nat) : (bitL l k).length = k := by simp [bitL]
theorem bitL_succ (l : List DNode) (k : Nat) : bitL l (k + 1) = bitL l k ++ [(((l.take k).countP isGroupB : Nat) : Int)] := by simp [bitL, List.range_succ]
theorem bitL_get (l : List DNode) {k i : Nat} (h : i < k) : (bitL l k)[i]? = some (((l.take i).countP isGroupB : Nat) : Int) := by simp [bitL, h]
theorem countP_le (l : List DNode) (i : Nat) : (l.take i).countP isGroupB ≤ l.countP isGroupB := by
  conv => rhs; rw [← List.take_append_drop i l]
  rw [List.countP_append]; omega
theorem group_ix {l : List DNode} (hah : AheadD l) {i : Nat} {x : DNode} (hx : l[i]? = some x) : (docIx l i).group = (((l.take i).countP isGroupB : Nat) : Int) := by rw [docIx_eq hah hx]; rfl
/-- How the reference stands between two steps, nothing forced as yet. -/
structure MLay (l : List DNode) (dec : Nat → List LIt → LIt → Bool) (ans : List UInt8 × Bool) (gk : Nat) (out : List UInt8) (L : List SIt) : Prop where
  ok : SOk l L
  run : ∃ c col, c + gk ≤ 4001 ∧ LayB c ⟨out, col, true, sIts l L⟩ ∧ layRun dec gk ⟨out, col, true, sIts l L⟩ = ans
  wt : itWts (sIts l L) ≤ gk
  stk : Stk (sIts l L)
theorem MLay.next {l : List DNode} {dec : Nat → List LIt → LIt → Bool} {ans : List UInt8 × Bool} {gk : Nat} {out out' : List UInt8} {L L' : List SIt} {x : SIt} (h : MLay l dec ans (gk + 1) out (L ++ [x])) (hs : ∀ col, ∃ col', layStep dec out col true (sIts l L) (x.it l) = ⟨out', col', true, sIts l L'⟩) (hok : SOk l L') (hst : Stk (sIts l L')) : MLay l dec ans gk out' L' := by
  obtain ⟨c, col, hc, hB, hr⟩ := h.run
  obtain ⟨col', e⟩ := hs col
  have hw := h.wt
  rw [sIts_snoc] at hB hr hw
  rw [layRun_cons, e] at hr
  have hB2 := hB.next (by omega) dec
  rw [e] at hB2
  refine ⟨hok, ⟨c + 1, col', by omega, hB2, hr⟩, ?_, hst⟩
  have h9 := layStep_wts dec out col true (sIts l L) (x.it l)
  rw [e] at h9
  have h8 : itWts (sIts l L') + 1 ≤ itWts (x.it l :: sIts l L) := h9
  omega
theorem MLay.dead {l : List DNode} {dec : Nat → List LIt → LIt → Bool} {ans : List UInt8 × Bool} {gk : Nat} {out : List UInt8} {L : List SIt} {x : SIt} (h : MLay l dec ans (gk + 1) out (L ++ [x])) (hs : ∀ col, (layStep dec out col true (sIts l L) (x.it l)).ok = false) : ans.2 = false := by
  obtain ⟨c, col, hc, hB, hr⟩ := h.run
  rw [sIts_snoc, layRun_cons] at hr
  rw [← hr]
  exact layRun_false dec _ _ (hs col)
theorem MLay.size {l : List DNode} {dec : Nat → List LIt → LIt → Bool} {ans : List UInt8 × Bool} {gk : Nat} {out : List UInt8} {L : List SIt} (h : MLay l dec ans gk out L) : out.length ≤ 8002000000 ∧ L.length ≤ 4001 ∧ gk ≤ 4001 ∧ ∀ x ∈ L, x.ind ≤ 160040 := by
  obtain ⟨c, col, hc, hB, hr⟩ := h.run
  have h1 := hB.out
  have h3 := sIts_len l L
  have h4 := h.wt
  simp only at h1
  have hcm : c * 2000000 ≤ 4001 * 2000000 := Nat.mul_le_mul_right _ (by omega)
  refine ⟨by omega, by omega, by omega, fun x hx => ?_⟩
  have h5 := (hB.st (x.it l) (by unfold sIts; exact List.mem_map_of_mem (List.mem_reverse.2 hx))).1
  have h6 : x.ind ≤ c * 40 := h5
  omega
theorem MLay.pop {l : List DNode} {dec : Nat → List LIt → LIt → Bool} {ans : List UInt8 × Bool} {gk : Nat} {out : List UInt8} {L : List SIt} {x : SIt} (h : MLay l dec ans gk out (L ++ [x])) : ∃ g, gk = g + 1 := by
  have hw := h.wt
  rw [sIts_snoc, itWts_cons, (x.it l).d.wt_eq] at hw
  exact ⟨gk - 1, by omega⟩

set_option maxRecDepth 100000 in
set_option maxHeartbeats 12800000 in
theorem specl17Lay_any (l0 : List DNode) (v0 hv : Value) (m : Nat) (w : World) (hx0 : ∀ x ∈ l0, x.Ok) (hn0 : bulk DNode.sizes l0 ≤ 1048576) (hv0 : DNodeSlc w v0 l0) (hok : docOk l0 = true)
    (hH : Slc w hv 1 l0.length ((hardL l0 l0.length).flatMap bool1)) (hm : m ≤ 1000) (hgr : l0.countP isGroupB ≤ 8) :
    Calls Try.prog 49 #[v0, hv, .int .i64 m] w fun e w' => e = maskTup (layMask l0 m) ∧ Below w.heap.size w w' := by
  have hvs := hv0
  obtain ⟨a, cap, rfl, hm9, hc9, hsl⟩ := hv0.shape
  obtain ⟨i0, hi, hz0, hz1, hz2⟩ := info_parts Try.info5
  obtain ⟨i1, hj, hy0, hy1, hy2⟩ := info_parts Try.info3
  obtain ⟨ans, hans⟩ : ∃ ans, ans = layMask l0 m := ⟨_, rfl⟩
  rw [← hans]
  obtain ⟨hl1, hl2, hd, s, hs, _⟩ := docOk_starts hok
  have hah := aheadD_of hs
  have hinit : Hid (MLay l0 (maskDec m) ans l0.length [] [⟨l0.length - 1, 0, false⟩]) := hid (by
    have hw := wt_root hok
    have e : sIts l0 [⟨l0.length - 1, 0, false⟩] = [root0 l0] := rfl
    refine ⟨fun x hx => ?_, ⟨0, 0, by omega, ⟨by simp, by simp, fun x hx => ?_⟩, by rw [e, hans]; rfl⟩, ?_, ?_⟩
    · simp at hx; subst hx; exact ⟨show l0.length - 1 < l0.length by omega, by simp⟩
    · simp only [e] at hx
      simp at hx; subst hx; exact ⟨by simp [root0], fine_ix hah hd hn0 _ (by omega)⟩
    · rw [e, itWts_cons]; show (docIx l0 (l0.length - 1)).wt + 0 ≤ _; omega
    · rw [e]; exact ⟨by simp, by simp [root0]⟩)
  obtain ⟨_, ha, hcap, rfl, hhc, hhm, hhrow⟩ := hH
  obtain ⟨hb, hoff, rfl, hhro⟩ := slc_some hhrow (by omega)
  have hhl : Hid (∀ i, i < l0.length → w.cell? ⟨hb, hoff + i, none⟩ = some (.bool (hardAt l0 i))) := hid fun i hi9 => hhro.one bool1_len (hardL_get l0 hi9) rfl
  have hcnt : Hid (∀ i, (l0.take i).countP isGroupB ≤ 8) := hid fun i => Nat.le_trans (countP_le l0 i) hgr
  have hgs : Hid (∀ (i : Nat) (x : DNode), l0[i]? = some x → (l0.take (i + 1)).countP isGroupB = (l0.take i).countP isGroupB + if x.kind = 5 then 1 else 0) := hid fun i x hx => by
    rw [take_next hx, List.countP_append]
    congr 1
    by_cases h : x.kind = 5 <;> simp [isGroupB, h]
  clear hok hs hans hhrow hhro hgr
  replace hvs := hid hvs
  replace hah := hid hah
  replace hd := hid hd
  have hln : Hid ((l0.length : Int) - 1 = ((l0.length - 1 : Nat) : Int)) := hid (by omega)
  go_enter Try.func49, Try.ntmps49
  go_wp2
  go_loopw [9, 10, 11] (fun bv kv iv wr => ∃ (i : Nat) (bn : Value), bn = bv ∧ iv = .int .i64 i ∧ i ≤ l0.length ∧ kv = .int .i64 ((l0.take i).countP isGroupB : Nat) ∧ Below w.heap.size w wr ∧ wr.ownsRow w.heap.size 3 1 bn i ((bitL l0 i).flatMap int1) ∧ wr.ownsRow w.heap.size 5 1 (.slice (some ⟨w.heap.size, 0, none⟩) 0 0) 0 []) (fun _ _ iv _ => l0.length - (intOf iv).toNat)
  case atStart => exact ⟨0, _, rfl, rfl, by omega, by simp, by repeat (first | exact Below.refl _ _ | refine Below.alloc ?_ (by first | omega | (simp; done) | (simp; omega)) _ | refine Below.drew ?_), by have h9 := own_new0 (w.alloc (.cells #[] 5)) 3 1; rw [World.size_alloc] at h9; exact own_base h9 (by omega), (own_new0 w 5 1).alloc _⟩
  rename World => wo
  obtain ⟨i, bn, rfl, rfl, hil, rfl, hb1, hbo, hoo⟩ := hrel
  have hbs1 := hb1.size
  by_cases hlt : i < l0.length
  · obtain ⟨y, ka, kc, yb, yoff, hy, rfl, c0, c1, c2, c3, hkd⟩ := hsl.at (Below.refl w.heap.size w) (Nat.le_refl _) hlt
    have hns := hid (hgs.out i y hy)
    have hci := hcnt.out i
    have hcs := hid (bitL_succ l0 i)
    obtain ⟨cg, hcg⟩ : ∃ cg, cg = (l0.take i).countP isGroupB := ⟨_, rfl⟩
    rw [← hcg] at hns hci hcs ⊢
    clear hy hkd hcg c1 c2 c3
    have hw1 : IntKind.wrap .i64 ((cg : Int) + 1) = (cg : Int) + 1 := wrap_in _ (by unfold I64; omega)
    by_cases h5 : y.kind = 5
    · have e5 : (y.kind == 5) = true := by simpa using h5
      rw [if_pos h5] at hns
      clear h5
      go_wp2_with (at_builtin; refine wpList_append_own _ rfl _ _ 47 rfl w.heap.size 3 i1 _ 1 8 Try.underlying47 hj hy0 hy1 hy2 rfl (by decide) _ i ((bitL l0 i).flatMap int1) rfl (hbo.alloc _) _ _ _ (int1 cg) rfl rfl (new_cells_at _ _ _ _ _ rfl (by first | rfl | simp)) (by intro u hu; simp [int1] at hu; subst hu; rfl) (by unfold maxLen; omega) (by omega) (by simp; omega) ?_; intro v3 w3 hown3 hgr3 hiff; have hb3 : Below w.heap.size w w3 := (hb1.alloc hbs1 _).grown hgr3 (by simp; omega) (fun r e => (hbo.lt r e).1); have q0 := carry hb3 c0; replace hb3 := hid hb3)
      all_goals go_roundw
      all_goals first
        | (simp [intOf]; omega)
        | exact ⟨i + 1, _, rfl, by go_num, by omega, by rw [hns.out]; rfl, hb3.out, by rw [hcs.out, List.flatMap_append, List.flatMap_singleton]; exact hown3, (((Keeps.refl 3 w.heap.size wo).alloc _).trans (Keeps.app (hbo.alloc _) hgr3)).own hoo (by decide)⟩
    · have e5 : (y.kind == 5) = false := by simpa using h5
      rw [if_neg h5] at hns
      clear h5
      go_wp2_with (at_builtin; refine wpList_append_own _ rfl _ _ 47 rfl w.heap.size 3 i1 _ 1 8 Try.underlying47 hj hy0 hy1 hy2 rfl (by decide) _ i ((bitL l0 i).flatMap int1) rfl (hbo.alloc _) _ _ _ (int1 cg) rfl rfl (new_cells_at _ _ _ _ _ rfl (by first | rfl | simp)) (by intro u hu; simp [int1] at hu; subst hu; rfl) (by unfold maxLen; omega) (by omega) (by simp; omega) ?_; intro v3 w3 hown3 hgr3 hiff; have hb3 : Below w.heap.size w w3 := (hb1.alloc hbs1 _).grown hgr3 (by simp; omega) (fun r e => (hbo.lt r e).1); have q0 := carry hb3 c0; replace hb3 := hid hb3)
      all_goals go_roundw
      all_goals first
        | (simp [intOf]; omega)
        | exact ⟨i + 1, _, rfl, by go_num, by omega, by rw [hns.out]; rfl, hb3.out, by rw [hcs.out, List.flatMap_append, List.flatMap_singleton]; exact hown3, (((Keeps.refl 3 w.heap.size wo).alloc _).trans (Keeps.app (hbo.alloc _) hgr3)).own hoo (by decide)⟩
  obtain rfl : i = l0.length := by omega
  obtain ⟨bg, bcap, rfl, hbgc, hbgm, _, _⟩ := own_slice_some hbo (by omega)
  clear hgs hlt hil
  rw [List.take_length]
  go_wp2
  go_loopg [8, 12] (l0.length) (fun gk ov sv wr => ∃ (out : List UInt8) (L : List SIt) (ovn : Value), ovn = ov ∧ Below w.heap.size w wr ∧ wr.ownsRow w.heap.size 3 1 (.slice (some ⟨bg, 0, none⟩) l0.length bcap) l0.length ((bitL l0 l0.length).flatMap int1) ∧ wr.ownsRow w.heap.size 5 1 ovn out.length (out.flatMap byte1) ∧ ovn ≠ .slice none 0 0 ∧ wr.ownsRow w.heap.size 57 3 sv L.length (L.flatMap SIt.cells) ∧ MLay l0 (maskDec m) ans gk out L)
  case atStart => exact ⟨[], [⟨l0.length - 1, 0, false⟩], _, rfl, hb1.alloc hbs1 _, hbo.alloc _, hoo.alloc _, by simp, by have h9 := own_box wo #[.int .i64 ((l0.length - 1 : Nat) : Int), .int .i64 0, .bool false] 57 3 rfl; rw [hln.out]; simpa [SIt.cells] using own_base h9 hbs1, hinit.out⟩
  clear hinit hln hb1 hbo hoo hbs1
  rename World => wr
  obtain ⟨out, L, ov, rfl, hb0, hbo, hoo, hne, ho, hS⟩ := hrel
  have hbs := hb0.size
  rcases List.eq_nil_or_concat L with rfl | ⟨L, x, rfl⟩
  · obtain ⟨sa, sc0, rfl, hscm0⟩ := own_slice ho
    have hA : Hid (ans = (out, true)) := hid (by
      obtain ⟨c, col, _, _, hr⟩ := hS.run
      rw [← hr, show sIts l0 [] = [] from rfl, layRun_nil])
    have hcv := OwnB.text (B := w.heap.size) ⟨hoo, hne⟩
    replace hS := hid hS
    go_wp2
    go_ret2
    exact ⟨by rw [maskTup_yes hA.out]; rfl, hb0⟩
  rw [List.concat_eq_append] at ho hS
  obtain ⟨gk, rfl⟩ := hS.pop
  obtain ⟨sz1, sz3, sz4, sz5⟩ := hS.size
  have hsx := sz5 x (by simp)
  have hok2 : SOk l0 L := fun z hz => hS.ok z (by simp [hz])
  obtain ⟨hxi, hxind⟩ := hS.ok x (by simp)
  obtain ⟨sg, sc, rfl, hsc, hscm, hsB, hsH⟩ := own_slice_some ho (by simp)
  have hxL : (L ++ [x])[L.length]? = some x := by simp
  have s0 := own_at SIt.len ho hxL (j := 0) (by omega) rfl rfl
  have s1 := own_at SIt.len ho hxL (j := 1) (by omega) rfl rfl
  have s2 := own_at SIt.len ho hxL (j := 2) (by omega) rfl rfl
  have hpop := own_pop SIt.len ho (by simp)
  rw [Nat.add_zero] at s0
  have hll : (L ++ [x]).length = L.length + 1 := by simp
  rw [hll] at ho sz3 hsc ⊢
  have e9 : ((L.length + 1 : Nat) : Int) - 1 = (L.length : Int) := by omega
  have hsc2 : (L.length : Int) ≤ (sc : Int) := by omega
  have hsc3 : (0 : Int) ≤ (L.length : Int) := by omega
  obtain ⟨y, ka, kc, yb, yoff, hy, rfl, c0, c1, c2, c3, hkd⟩ := hsl.at (Below.refl w.heap.size w) (Nat.le_refl _) hxi
  have g0 := hhl.out x.i hxi
  replace c0 := carry hb0 c0
  replace c1 := carry hb0 c1
  replace c2 := carry hb0 c2
  replace c3 := carry hb0 c3
  replace g0 := carry hb0 g0
  have k0 := own_at int1_len hbo (bitL_get l0 hxi) (j := 0) (by omega) rfl (by rw [bitL_len])
  rw [Nat.mul_one, Nat.add_zero] at k0
  have d0 := fun o => carryA o c0
  have d1 := fun o => carryA o c1
  have d2 := fun o => carryA o c2
  have d3 := fun o => carryA o c3
  have hys := sizes_mem (List.mem_of_getElem? hy) hn0
  unfold DNode.sizes at hys
  have hnd := docNode_has (hd.out y (List.mem_of_getElem? hy))
  have hxi2 : (x.i : Int) < (l0.length : Int) := by omega
  have hxi0 : (0 : Int) ≤ (x.i : Int) := by omega
  have hstk := hS.stk
  rw [sIts_snoc] at hstk
  have hp := docIx_parts hah.out hy
  have hgx := group_ix hah.out hy
  have hcx := hcnt.out x.i
  have hbx : Hid (Below w.heap.size w ((wr.alloc (.cells #[.int .i64 x.i, .int .i64 x.ind, .bool x.flat] 57)).alloc (.cells #[.int .i64 y.kind, .int .i64 y.n, .string y.text, .slice ka y.kids.length kc] 49))) := hid ((hb0.alloc hbs _).alloc (by simp; omega) _)
  have hgx2 : Hid (((wr.alloc (.cells #[.int .i64 x.i, .int .i64 x.ind, .bool x.flat] 57)).alloc (.cells #[.int .i64 y.kind, .int .i64 y.n, .string y.text, .slice ka y.kids.length kc] 49)).ownsRow w.heap.size 3 1 (.slice (some ⟨bg, 0, none⟩) l0.length bcap) l0.length ((bitL l0 l0.length).flatMap int1)) := hid ((hbo.alloc _).alloc _)
  have hox : Hid (((wr.alloc (.cells #[.int .i64 x.i, .int .i64 x.ind, .bool x.flat] 57)).alloc (.cells #[.int .i64 y.kind, .int .i64 y.n, .string y.text, .slice ka y.kids.length kc] 49)).ownsRow w.heap.size 5 1 ov out.length (out.flatMap byte1)) := hid ((hoo.alloc _).alloc _)
  have hpx : Hid (((wr.alloc (.cells #[.int .i64 x.i, .int .i64 x.ind, .bool x.flat] 57)).alloc (.cells #[.int .i64 y.kind, .int .i64 y.n, .string y.text, .slice ka y.kids.length kc] 49)).ownsRow w.heap.size 57 3 (.slice (some ⟨sg, 0, none⟩) L.length sc) L.length (L.flatMap SIt.cells)) := hid ((hpop.alloc _).alloc _)
  have hbox1 : Hid (((wr.alloc (.cells #[.int .i64 x.i, .int .i64 x.ind, .bool x.flat] 57)).alloc (.cells #[.int .i64 y.kind, .int .i64 y.n, .string y.text, .slice ka y.kids.length kc] 49)).heap[wr.heap.size]? = some (.cells #[.int .i64 x.i, .int .i64 x.ind, .bool x.flat] 57 (0, 0))) := hid (lt0 wr _ _)
  have hbox2 : Hid (((wr.alloc (.cells #[.int .i64 x.i, .int .i64 x.ind, .bool x.flat] 57)).alloc (.cells #[.int .i64 y.kind, .int .i64 y.n, .string y.text, .slice ka y.kids.length kc] 49)).heap[wr.heap.size + 1]? = some (.cells #[.int .i64 y.kind, .int .i64 y.n, .string y.text, .slice ka y.kids.length kc] 49 (0, 0))) := hid (lt1 wr _ _)
  have hsz2 : w.heap.size ≤ ((wr.alloc (.cells #[.int .i64 x.i, .int .i64 x.ind, .bool x.flat] 57)).alloc (.cells #[.int .i64 y.kind, .int .i64 y.n, .string y.text, .slice ka y.kids.length kc] 49)).heap.size := by simp; omega
  have hkblt := hid fun (h : 0 < y.kids.length) => hkd.block_lt int1_len h
  have hkids := hid fun (ind : Nat) (f : Bool) W (h : Below w.heap.size w W) (h2 : W.ownsRow w.heap.size 57 3 (.slice (some ⟨sg, 0, none⟩) L.length sc) L.length (L.flatMap SIt.cells)) => specl16Kids_any w.heap.size (.slice (some ⟨sg, 0, none⟩) L.length sc) L y.kind y.n y.text (.slice ka y.kids.length kc) y.kids ind f W h2 h.size (hkd.mono h (Nat.le_refl _)) hkblt.out (fun k hk => (hah.out x.i y hy k hk).1) (by omega)
  have hbrk := hid fun W (h : Below w.heap.size w W) (h2 : W.ownsRow w.heap.size 5 1 ov out.length (out.flatMap byte1)) => specl16Break_any w.heap.size ov out x.ind W h2 h.size (by omega) (by omega)
  have hne2 := hid hne
  replace hok2 := hid hok2
  have hsk := hid fun (ind : Nat) (f : Bool) (hi : ind ≤ 1000000) => hok2.out.kids hah.out hy ind hi f
  have hseq := hid fun (ind : Nat) (f : Bool) => sIts_kids hah.out hy L ind f
  by_cases k1 : y.kind = 1
  · have hN := hid (hS.next (fun col => ⟨_, lay1 hah.out hy _ _ _ _ _ k1⟩) hok2.out hstk.tail)
    have hsc9 := hid (strCells_eq y.text)
    have htl : Hid (y.text.data.toList.length = y.text.size) := hid rfl
    replace hS := hid hS
    replace hstk := hid hstk
    have e1 : (y.kind == 1) = true := by simpa using k1
    clear hy hkd hbo hoo hpop ho hp hne hnd k1 hgx hcx k0 g0
    go_wp2_with (at_builtin; refine Lib.wpList_append_own_string _ rfl _ _ 38 9 rfl w.heap.size 5 i0 Try.underlying38 Try.underlying9 hi hz0 hz1 hz2 _ out.length (out.flatMap byte1) rfl hox.out y.text rfl (by unfold maxLen; omega) (by omega) hsz2 ?_; intro v3 w3 hown3 hgr3 hiff; have hK3 := hid (Keeps.app hox.out hgr3))
    go_roundg gk
    case measure => omega
    case rel =>
      refine ⟨_, L, _, rfl, hbx.out.trans ((hK3.out.below hsz2).mono (Nat.le_refl _)), hK3.out.own hgx2.out (by decide), ?_, fun e => hne2.out (hiff.1 e).1, hK3.out.own hpx.out (by decide), hN.out⟩
      rw [List.length_append, List.flatMap_append, htl.out, ← hsc9.out]; exact hown3
  by_cases k23 : y.kind = 2 ∨ y.kind = 3
  · obtain ⟨fl, hfl⟩ : ∃ fl, fl = x.flat := ⟨_, rfl⟩
    cases fl with
    | true =>
      have k2 : y.kind = 2 := by
        rcases k23 with h | h
        · exact h
        · exfalso
          have h9 := hstk.2 (x.it l0) (by simp) hfl.symm
          have h8 : (docIx l0 x.i).flat = none := by
            rw [Doc.flat_eq, if_pos (by rw [hp.1]; omega), leafOf, if_neg (by rw [hp.1]; omega), if_neg (by rw [hp.1]; omega), if_pos (by rw [hp.1]; omega)]
          have h7 : (docIx l0 x.i).flat.isSome = true := h9
          rw [h8] at h7; cases h7
      have hN := hid (hS.next (fun col => ⟨_, lay2 hah.out hy _ _ _ _ _ k2 hfl.symm⟩) hok2.out hstk.tail)
      rw [← hfl] at s2 hbox1 hbox2 hbx hgx2 hox hpx hsz2
      replace hS := hid hS
      replace hstk := hid hstk
      replace hfl := hid hfl
      have e1 : (y.kind == 1) = false := by simpa using k1
      have e2 : (y.kind == 2) = true := by simpa using k2
      clear hy hkd hbo hoo hpop ho hp k1 k23 hne hnd k2 hgx hcx k0 g0
      go_wp2_with (at_builtin; refine wpList_append_own _ rfl _ _ 38 rfl w.heap.size 5 i0 _ 1 1 Try.underlying38 hi hz0 hz1 hz2 rfl (by decide) _ out.length (out.flatMap byte1) rfl (hox.out.alloc _) _ _ _ (byte1 32) rfl rfl (new_cells_at _ _ _ _ _ rfl (by first | rfl | simp)) (by intro u hu; simp [byte1] at hu; subst hu; rfl) (by unfold maxLen; omega) (by omega) (by simp; omega) ?_; intro v3 w3 hown3 hgr3 hiff; have hK3 := hid ((((Keeps.refl 5 w.heap.size _).alloc _)).trans (Keeps.app (hox.out.alloc _) hgr3)))
      go_roundg gk
      case measure => omega
      case rel =>
        exact ⟨_, L, _, rfl, hbx.out.trans ((hK3.out.below hsz2).mono (Nat.le_refl _)), hK3.out.own hgx2.out (by decide), by simpa using hown3, fun e => hne2.out (hiff.1 e).1, hK3.out.own hpx.out (by decide), hN.out⟩
    | false =>
      have hN := hid (hS.next (fun col => ⟨_, lay3 hah.out hy _ _ _ _ _ k23 hfl.symm⟩) hok2.out hstk.tail)
      rw [← hfl] at s2 hbox1 hbox2 hbx hgx2 hox hpx hsz2
      replace hS := hid hS
      replace hstk := hid hstk
      replace hfl := hid hfl
      have e1 : (y.kind == 1) = false := by simpa using k1
      have e23 : (y.kind == 2) = true ∨ ((y.kind == 2) = false ∧ (y.kind == 3) = true) := by
        rcases k23 with h | h
        · left; simpa using h
        · right; constructor
          · simp; omega
          · simpa using h
      clear hy hkd hbo hoo hpop ho hp k1 hne hnd k23 hgx hcx k0 g0
      rcases e23 with e2 | ⟨e2, e3⟩
      all_goals go_wp2_with (go_at_call 35; refine (hbrk.out _ hbx.out hox.out).mono ?_; rintro e w5 ⟨v5, rfl, ho5, hne5, hK5⟩; replace hK5 := hid hK5)
      all_goals go_roundg gk
      all_goals first
        | omega
        | exact ⟨_, L, _, rfl, hbx.out.trans ((hK5.out.below hsz2).mono (Nat.le_refl _)), hK5.out.own hgx2.out (by decide), ho5, hne5, hK5.out.own hpx.out (by decide), hN.out⟩
  have e1 : (y.kind == 1) = false := by simpa using k1
  have e2 : (y.kind == 2) = false := by simp; omega
  have e3 : (y.kind == 3) = false := by simp; omega
  by_cases k5 : y.kind = 5
  · have e5 : (y.kind == 5) = true := by simpa using k5
    obtain ⟨cg, hcg⟩ : ∃ cg, cg = (l0.take x.i).countP isGroupB := ⟨_, rfl⟩
    rw [← hcg] at hcx hgx k0
    have hdc : ∀ col, maskDec m col (sIts l0 L) (x.it l0) = maskB m cg := fun col => by
      show maskB m (docIx l0 x.i).group.toNat = _
      rw [hgx]; rfl
    have hha : hardAt l0 x.i = !(docIx l0 x.i).flat.isSome := by unfold hardAt; cases (docIx l0 x.i).flat <;> rfl
    have hN := hid fun (f : Bool) (hf : (x.flat || maskB m cg) = f) (hok9 : (x.flat || !maskB m cg || (docIx l0 x.i).flat.isSome) = true) => hS.next (L' := L ++ sKids y.kids x.ind f) (fun col => ⟨col, by rw [lay5 hah.out hy _ _ _ _ _ k5, hdc, hf, hok9, hseq.out]; rfl⟩) (hsk.out _ _ hxind) (by
      rw [hseq.out]
      refine hstk.kids (by rw [hp.1]; omega) (fun h => ?_) (fun h => ?_)
      · cases hfx : x.flat with
        | true => exact hstk.2 (x.it l0) (by simp) hfx
        | false =>
          rw [hfx, Bool.false_or] at hf
          rw [hf, h, hfx] at hok9
          simpa using hok9
      · rw [← hf] at h
        exact (Bool.or_eq_false_iff.1 h).1)
    have hD := hid fun (h1 : x.flat = false) (h2 : maskB m cg = true) (h3 : hardAt l0 x.i = true) => hS.dead (fun col => by rw [lay5 hah.out hy _ _ _ _ _ k5, hdc, h1, h2]; rw [hha] at h3; simpa using h3)
    have hfh : Hid (x.flat = true → hardAt l0 x.i = false) := hid fun h => by
      have h9 : (docIx l0 x.i).flat.isSome = true := hstk.2 (x.it l0) (by simp) h
      rw [hha, h9]; rfl
    have hhs : Hid ((docIx l0 x.i).flat.isSome = !hardAt l0 x.i) := hid (by rw [hha, Bool.not_not])
    have hmk := mask_test m cg hm
    have hcg64 : (cg : Int) ≤ 64 := by omega
    have hcg0 : (0 : Int) ≤ (cg : Int) := by omega
    have k1' := fun o => carryA o k0
    have k2' := fun o o' => carryA o (carryA o' k0)
    have g1 := fun o => carryA o g0
    have g2 := fun o o' => carryA o (carryA o' g0)
    obtain ⟨fl, hfl⟩ : ∃ fl, fl = x.flat := ⟨_, rfl⟩
    replace hS := hid hS
    replace hstk := hid hstk
    clear hy hkd hbo hoo hpop ho hp k1 k23 k5 hne hnd hgx hcg hdc hha
    rw [← hfl] at s2 hbox1 hbox2 hbx hgx2 hox hpx hsz2
    cases fl with
    | true =>
      have hN2 := hid (hN.out true (by rw [← hfl]; rfl) (by rw [← hfl]; rfl))
      have hh9 := hfh.out hfl.symm
      rw [hh9] at g0 g1 g2
      clear hN hD hfh hhs hmk
      replace hfl := hid hfl
      replace hh9 := hid hh9
      go_wp2_with (go_at_call 37; refine (hkids.out x.ind true _ hbx.out hpx.out).mono ?_; rintro e w5 ⟨v5, rfl, ho5, hK5⟩; replace hK5 := hid hK5)
      all_goals go_roundg gk
      all_goals first
        | omega
        | exact ⟨_, _, _, rfl, hbx.out.trans ((hK5.out.below hsz2).mono (Nat.le_refl _)), hK5.out.own hgx2.out (by decide), hK5.out.own hox.out (by decide), hne2.out, ho5, hN2.out⟩
    | false =>
      generalize hMB : maskB m cg = mb at hmk
      cases mb with
      | false =>
        have hN2 := hid (hN.out false (by rw [← hfl, hMB]; rfl) (by rw [← hfl, hMB]; rfl))
        clear hN hD hfh hhs
        replace hfl := hid hfl
        replace hMB := hid hMB
        go_wp2_with (go_at_call 37; refine (hkids.out x.ind false _ hbx.out hpx.out).mono ?_; rintro e w5 ⟨v5, rfl, ho5, hK5⟩; replace hK5 := hid hK5)
        all_goals go_roundg gk
        all_goals first
          | omega
          | exact ⟨_, _, _, rfl, hbx.out.trans ((hK5.out.below hsz2).mono (Nat.le_refl _)), hK5.out.own hgx2.out (by decide), hK5.out.own hox.out (by decide), hne2.out, ho5, hN2.out⟩
      | true =>
        generalize hHA : hardAt l0 x.i = hd1 at g0 g1 g2
        cases hd1 with
        | true =>
          have hA := hid (hD.out hfl.symm hMB hHA)
          clear hN hD hfh hhs
          replace hfl := hid hfl
          replace hMB := hid hMB
          replace hHA := hid hHA
          go_wp2
          go_ret2
          exact ⟨by rw [maskTup_no hA.out]; rfl, hbx.out⟩
        | false =>
          have hN2 := hid (hN.out true (by rw [← hfl, hMB]; rfl) (by rw [hhs.out, hHA]; simp))
          clear hN hD hfh hhs
          replace hfl := hid hfl
          replace hMB := hid hMB
          replace hHA := hid hHA
          go_wp2_with (go_at_call 37; refine (hkids.out x.ind true _ hbx.out hpx.out).mono ?_; rintro e w5 ⟨v5, rfl, ho5, hK5⟩; replace hK5 := hid hK5)
          all_goals go_roundg gk
          all_goals first
            | omega
            | exact ⟨_, _, _, rfl, hbx.out.trans ((hK5.out.below hsz2).mono (Nat.le_refl _)), hK5.out.own hgx2.out (by decide), hK5.out.own hox.out (by decide), hne2.out, ho5, hN2.out⟩
  · have hkn : y.n = ((y.n.toNat : Nat) : Int) := by omega
    have hN := hid (hS.next (L' := L ++ sKids y.kids (x.ind + y.n.toNat) x.flat) (fun col => ⟨_, by rw [lay6 hah.out hy _ _ _ _ _ ⟨k1, by omega, by omega, k5⟩, hseq.out]⟩) (hsk.out _ _ (by omega)) (by rw [hseq.out]; exact hstk.kids (by rw [hp.1]; omega) (fun h => hstk.2 (x.it l0) (by simp) h) (fun h => h)))
    have e5 : (y.kind == 5) = false := by simpa using k5
    obtain ⟨yn, hyn⟩ : ∃ yn, yn = y.n.toNat := ⟨_, rfl⟩
    rw [← hyn] at hkn hN
    have hynb : yn ≤ 40 := by omega
    rw [hkn] at c1 d1 hbox1 hbox2 hbx hgx2 hox hpx hsz2 hkids
    replace hyn := hid hyn
    replace hS := hid hS
    replace hstk := hid hstk
    clear hy hkd hbo hoo hpop ho hp k1 k23 k5 hne hnd hkn hgx hcx k0 g0
    go_wp2_with (go_at_call 37; refine (hkids.out (x.ind + yn) x.flat _ hbx.out hpx.out).mono ?_; rintro e w5 ⟨v5, rfl, ho5, hK5⟩; replace hK5 := hid hK5)
    all_goals go_roundg gk
    all_goals first
      | omega
      | exact ⟨_, _, _, rfl, hbx.out.trans ((hK5.out.below hsz2).mono (Nat.le_refl _)), hK5.out.own hgx2.out (by decide), hK5.out.own hox.out (by decide), hne2.out, ho5, hN.out⟩
end Go.Proofs.Ytfabfkaolnidiaa
