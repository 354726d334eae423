/- Walks and lemmas of this seat (FLayR): what each theorem says of the functions that it names. Conditions: those that each theorem states. -/
import Derived.Test.YtfabfkaolnidiaaFLayF
import Derived.Test.YtfabfkaolnidiaaFFlatText
import Derived.Deep.RegionLaw
import Derived.BigQuiet
namespace Go.Proofs.Ytfabfkaolnidiaa
set_option linter.unusedVariables false
set_option linter.unusedSimpArgs false
open Go.RowKit

def root0 (l : List DNode) : LIt := ⟨docIx l (l.length - 1), 0, false⟩
/-- A document laid out within a width. -/
def renderL (l : List DNode) (wd : Int) : Option (List UInt8) := if docOk l = true ∧ 0 ≤ wd ∧ wd ≤ 10000 then some (layRun (fitDec wd) l.length ⟨[], 0, true, [root0 l]⟩).1 else none
theorem lt0 (w : World) (o1 o2 : Obj) : ((w.alloc o1).alloc o2).heap[w.heap.size]? = some o1 := (Below.heap_alloc (w.alloc o1) o2 _ (by simp)).trans (heap_alloc_new w o1)
theorem lt1 (w : World) (o1 o2 : Obj) : ((w.alloc o1).alloc o2).heap[w.heap.size + 1]? = some o2 := by
  have := heap_alloc_new (w.alloc o1) o2
  simpa using this
section
variable {l : List DNode} (hah : AheadD l) {x : SIt} {y : DNode} (hy : l[x.i]? = some y) (dec : Nat → List LIt → LIt → Bool) (out : List UInt8) (col : Nat) (ok : Bool) (C : List LIt)
include hah hy
theorem lay1 (h : y.kind = 1) : layStep dec out col ok C (x.it l) = ⟨out ++ y.text.data.toList, col + y.text.size, ok, C⟩ := by
  obtain ⟨e1, _, e3, _⟩ := docIx_parts hah hy
  unfold layStep
  rw [show (x.it l).d.kind = y.kind from e1, show (x.it l).d.text = y.text from e3, if_pos h]
theorem lay2 (h : y.kind = 2) (hf : x.flat = true) : layStep dec out col ok C (x.it l) = ⟨out ++ [32], col + 1, ok, C⟩ := by
  obtain ⟨e1, _, e3, _⟩ := docIx_parts hah hy
  unfold layStep
  rw [show (x.it l).d.kind = y.kind from e1, if_neg (by omega), if_pos ⟨h, hf⟩]
theorem lay3 (h : y.kind = 2 ∨ y.kind = 3) (hf : x.flat = false) : layStep dec out col ok C (x.it l) = ⟨out ++ brk x.ind, x.ind, ok, C⟩ := by
  obtain ⟨e1, _, e3, _⟩ := docIx_parts hah hy
  unfold layStep
  rw [show (x.it l).d.kind = y.kind from e1, if_neg (by omega), if_neg (fun h2 => by have h3 : x.flat = true := h2.2; rw [hf] at h3; cases h3), if_pos h]
  rfl
theorem lay5 (h : y.kind = 5) : layStep dec out col ok C (x.it l) = ⟨out, col, ok && (x.flat || !dec col C (x.it l) || (docIx l x.i).flat.isSome), kidIts (docIx l x.i) x.ind (x.flat || dec col C (x.it l)) ++ C⟩ := by
  obtain ⟨e1, _, e3, _⟩ := docIx_parts hah hy
  unfold layStep
  rw [show (x.it l).d.kind = y.kind from e1, if_neg (by omega), if_neg (by omega), if_neg (by omega), if_pos h]
  rfl
theorem lay6 (h : ¬ y.kind = 1 ∧ ¬ y.kind = 2 ∧ ¬ y.kind = 3 ∧ ¬ y.kind = 5) : layStep dec out col ok C (x.it l) = ⟨out, col, ok, kidIts (docIx l x.i) (x.ind + y.n.toNat) x.flat ++ C⟩ := by
  obtain ⟨e1, e2, e3, _⟩ := docIx_parts hah hy
  unfold layStep
  rw [show (x.it l).d.kind = y.kind from e1, show (x.it l).d.n = y.n from e2, if_neg h.1, if_neg (by omega), if_neg (by omega), if_neg h.2.2.2]
  rfl
end
theorem bdn (W : World) (n : Nat) : Below W.heap.size W (W.drewN n) := ⟨rfl, rfl, rfl, Nat.le_refl _, fun _ _ => rfl⟩
theorem fitDec_some {wd : Int} {col : Nat} {C : List LIt} {x : LIt} (h : fitDec wd col C x = true) : x.d.flat.isSome = true := by
  unfold fitDec at h
  split at h
  · cases h
  · rename_i s hs; rw [hs]; rfl
/-- How the reference stands between two steps. -/
structure SLay (l : List DNode) (dec : Nat → List LIt → LIt → Bool) (ans : List UInt8) (gk : Nat) (out : List UInt8) (col : Nat) (L : List SIt) : Prop where
  ok : SOk l L
  run : ∃ c ok, c + gk ≤ 4001 ∧ LayB c ⟨out, col, ok, sIts l L⟩ ∧ (layRun dec gk ⟨out, col, ok, sIts l L⟩).1 = ans
  wt : itWts (sIts l L) ≤ gk
  stk : Stk (sIts l L)
theorem SLay.next {l : List DNode} {dec : Nat → List LIt → LIt → Bool} {ans : List UInt8} {gk : Nat} {out out' : List UInt8} {col col' : Nat} {L L' : List SIt} {x : SIt} (h : SLay l dec ans (gk + 1) out col (L ++ [x])) (hs : ∀ ok, ∃ ok', layStep dec out col ok (sIts l L) (x.it l) = ⟨out', col', ok', sIts l L'⟩) (hok : SOk l L') (hst : Stk (sIts l L')) : SLay l dec ans gk out' col' L' := by
  obtain ⟨c, ok, hc, hB, hr⟩ := h.run
  obtain ⟨ok', e⟩ := hs ok
  have hw := h.wt
  rw [sIts_snoc] at hB hr hw
  rw [layRun_cons, e] at hr
  have hB2 := hB.next (by omega) dec
  rw [e] at hB2
  refine ⟨hok, ⟨c + 1, ok', by omega, hB2, hr⟩, ?_, hst⟩
  have h9 := layStep_wts dec out col ok (sIts l L) (x.it l)
  rw [e] at h9
  have h8 : itWts (sIts l L') + 1 ≤ itWts (x.it l :: sIts l L) := h9
  omega
theorem SLay.size {l : List DNode} {dec : Nat → List LIt → LIt → Bool} {ans : List UInt8} {gk : Nat} {out : List UInt8} {col : Nat} {L : List SIt} (h : SLay l dec ans gk out col L) : out.length ≤ 8002000000 ∧ col ≤ 8002000000 ∧ L.length ≤ 4001 ∧ gk ≤ 4001 ∧ ∀ x ∈ L, x.ind ≤ 160040 := by
  obtain ⟨c, ok, hc, hB, hr⟩ := h.run
  have h1 := hB.out
  have h2 := hB.col
  have h3 := sIts_len l L
  have h4 := h.wt
  simp only at h1 h2
  have hcm : c * 2000000 ≤ 4001 * 2000000 := Nat.mul_le_mul_right _ (by omega)
  refine ⟨by omega, by omega, by omega, by omega, fun x hx => ?_⟩
  have h5 := (hB.st (x.it l) (by unfold sIts; exact List.mem_map_of_mem (List.mem_reverse.2 hx))).1
  have h6 : x.ind ≤ c * 40 := h5
  omega
theorem SLay.pop {l : List DNode} {dec : Nat → List LIt → LIt → Bool} {ans : List UInt8} {gk : Nat} {out : List UInt8} {col : Nat} {L : List SIt} {x : SIt} (h : SLay l dec ans gk out col (L ++ [x])) : ∃ g, gk = g + 1 := by
  have hw := h.wt
  rw [sIts_snoc, itWts_cons, (x.it l).d.wt_eq] at hw
  exact ⟨gk - 1, by omega⟩
theorem SLay.fine {l : List DNode} {dec : Nat → List LIt → LIt → Bool} {ans : List UInt8} {gk : Nat} {out : List UInt8} {col : Nat} {L : List SIt} (h : SLay l dec ans gk out col L) : ∀ y ∈ sIts l L, y.d.Fine := fun y hy => by
  obtain ⟨c, ok, hc, hB, hr⟩ := h.run
  exact (hB.st y hy).2

set_option maxRecDepth 100000 in
set_option maxHeartbeats 12800000 in
theorem specRender_any (l0 : List DNode) (v0 : Value) (wd : Int) (w : World) (hx0 : ∀ x ∈ l0, x.Ok) (hn0 : bulk DNode.sizes l0 ≤ 1048576) (hv0 : DNodeSlc w v0 l0) :
    Calls Try.prog 9 #[v0, .int .i64 wd] w fun e w' => e = tup (renderL l0 wd) ∧ Below w.heap.size w w' := by
  have hdk := specDocOk_any l0 v0 w hx0 hn0 hv0
  have hv := hv0
  obtain ⟨a, cap, rfl, hm, hc, hsl⟩ := hv0.shape
  obtain ⟨i0, hi, hz0, hz1, hz2⟩ := info_parts Try.info5
  by_cases hok : docOk l0 = true
  case neg =>
    have hR : Hid (renderL l0 wd = none) := hid (by unfold renderL; rw [if_neg (fun h => hok h.1)])
    have hok : docOk l0 = false := by simpa using hok
    rw [hok] at hdk
    clear hok
    go_enter Try.func9, Try.ntmps9
    go_wp2_with fail
    refine hdk.mono ?_; rintro e w1 ⟨rfl, hb1⟩
    clear hdk
    go_wp2
    go_ret2
    exact ⟨by rw [hR.out]; rfl, hb1⟩
  have hdi := fun W => specl1In_an wd 0 10000 W
  by_cases hin : 0 ≤ wd ∧ wd ≤ 10000
  case neg =>
    have hR : Hid (renderL l0 wd = none) := hid (by unfold renderL; rw [if_neg (fun h => hin h.2)])
    rw [show decide (0 ≤ wd ∧ wd ≤ 10000) = false from by simpa using hin] at hdi
    rw [hok] at hdk
    clear hok hin
    replace hdi := hid hdi
    go_enter Try.func9, Try.ntmps9
    go_wp2_with fail
    refine hdk.mono ?_; rintro e w1 ⟨rfl, hb1⟩
    clear hdk
    go_wp2_with fail
    refine (hdi.out _).mono ?_; rintro e w2 ⟨rfl, rfl⟩
    go_wp2
    go_ret2
    exact ⟨by rw [hR.out]; rfl, hb1⟩
  obtain ⟨ans, hans⟩ : ∃ ans, ans = (layRun (fitDec wd) l0.length ⟨[], 0, true, [root0 l0]⟩).1 := ⟨_, rfl⟩
  have hR : Hid (renderL l0 wd = some ans) := hid (by unfold renderL; rw [if_pos ⟨hok, hin⟩, hans])
  obtain ⟨hl1, hl2, hd, s, hs, _⟩ := docOk_starts hok
  have hah := aheadD_of hs
  have hinit : Hid (SLay l0 (fitDec wd) ans l0.length [] 0 [⟨l0.length - 1, 0, false⟩]) := hid (by
    have hw := wt_root hok
    have e : sIts l0 [⟨l0.length - 1, 0, false⟩] = [root0 l0] := rfl
    refine ⟨fun x hx => ?_, ⟨0, true, by omega, ⟨by simp, by simp, fun x hx => ?_⟩, by rw [e, hans]⟩, ?_, ?_⟩
    · simp at hx; subst hx; exact ⟨show l0.length - 1 < l0.length by omega, by simp⟩
    · simp only [e] at hx
      simp at hx; subst hx; exact ⟨by simp [root0], fine_ix hah hd hn0 _ (by omega)⟩
    · rw [e, itWts_cons]; show (docIx l0 (l0.length - 1)).wt + 0 ≤ _; omega
    · rw [e]; exact ⟨by simp, by simp [root0]⟩)
  rw [show decide (0 ≤ wd ∧ wd ≤ 10000) = true from by simpa using hin] at hdi
  rw [hok] at hdk
  obtain ⟨hin1, hin2⟩ := hin
  have hhard := hid fun W (h : Below w.heap.size w W) => specl16Hards_any l0 _ W hx0 hn0 (hv.mono h (Nat.le_refl _)) hah hd
  clear hok hs hans
  replace hdi := hid hdi
  replace hv := hid hv
  replace hah := hid hah
  replace hd := hid hd
  have hln : Hid ((l0.length : Int) - 1 = ((l0.length - 1 : Nat) : Int)) := hid (by omega)
  go_enter Try.func9, Try.ntmps9
  go_wp2_with fail
  refine hdk.mono ?_; rintro e w1 ⟨rfl, hb1⟩
  clear hdk
  go_wp2_with fail
  refine (hdi.out _).mono ?_; rintro e w2 ⟨rfl, rfl⟩
  go_wp2_with fail
  refine (hhard.out _ hb1).mono ?_; rintro e w3 ⟨hdv, rfl, hb3, hh3⟩
  have hB3 := hb1.trans (hb3.mono hb1.size)
  have hs3 := hB3.size
  replace hh3 := own_base hh3 hb1.size
  clear hhard hdi hb3 hb1
  go_wp2
  go_loopg [7, 8, 9] (l0.length) (fun gk ov cv sv wr => ∃ (out : List UInt8) (col : Nat) (L : List SIt) (ovn : Value), ovn = ov ∧ cv = .int .i64 col ∧ Below w.heap.size w wr ∧ wr.ownsRow w.heap.size 4 1 hdv l0.length ((hardL l0 l0.length).flatMap bool1) ∧ wr.ownsRow w.heap.size 5 1 ovn out.length (out.flatMap byte1) ∧ ovn ≠ .slice none 0 0 ∧ wr.ownsRow w.heap.size 57 3 sv L.length (L.flatMap SIt.cells) ∧ SLay l0 (fitDec wd) ans gk out col L)
  case atStart => exact ⟨[], 0, [⟨l0.length - 1, 0, false⟩], _, rfl, rfl, (hB3.alloc hs3 _).alloc (by simp; omega) _, (hh3.alloc _).alloc _, (own_base (own_new0 _ _ _) hs3).alloc _, by simp, by have h9 := own_box (w3.alloc (.cells #[] 5)) #[.int .i64 ((l0.length - 1 : Nat) : Int), .int .i64 0, .bool false] 57 3 rfl; rw [World.size_alloc] at h9; rw [hln.out]; simpa [SIt.cells] using own_base h9 (by omega), hinit.out⟩
  clear hinit hh3 hB3 hs3 hln
  obtain ⟨out, col, L, ov, rfl, rfl, hb, hh, hoo, hne, ho, hS⟩ := hrel
  have hbs := hb.size
  rcases List.eq_nil_or_concat L with rfl | ⟨L, x, rfl⟩
  · obtain ⟨sa, sc0, rfl, hscm0⟩ := own_slice ho
    have hA : Hid (ans = out) := hid (by
      obtain ⟨c, ok, _, _, hr⟩ := hS.run
      rw [← hr, show sIts l0 [] = [] from rfl, layRun_nil])
    have hcv := OwnB.text (B := w.heap.size) ⟨hoo, hne⟩
    replace hS := hid hS
    go_wp2
    go_ret2
    exact ⟨by rw [hR.out, hA.out]; rfl, hb⟩
  rw [List.concat_eq_append] at ho hS
  obtain ⟨gk, rfl⟩ := hS.pop
  obtain ⟨sz1, sz2, sz3, sz4, sz5⟩ := hS.size
  have hsx := sz5 x (by simp)
  have hok2 : SOk l0 L := fun z hz => hS.ok z (by simp [hz])
  obtain ⟨hxi, hxind⟩ := hS.ok x (by simp)
  obtain ⟨sg, sc, rfl, hsc, hscm, hsB, hsH⟩ := own_slice_some ho (by simp)
  have hxL : (L ++ [x])[L.length]? = some x := by simp
  have s0 := own_at SIt.len ho hxL (j := 0) (by omega) rfl rfl
  have s1 := own_at SIt.len ho hxL (j := 1) (by omega) rfl rfl
  have s2 := own_at SIt.len ho hxL (j := 2) (by omega) rfl rfl
  have hpop := own_pop SIt.len ho (by simp)
  rw [Nat.add_zero] at s0
  have hll : (L ++ [x]).length = L.length + 1 := by simp
  rw [hll] at ho sz3 hsc ⊢
  have e9 : ((L.length + 1 : Nat) : Int) - 1 = (L.length : Int) := by omega
  have hsc2 : (L.length : Int) ≤ (sc : Int) := by omega
  have hsc3 : (0 : Int) ≤ (L.length : Int) := by omega
  obtain ⟨y, ka, kc, yb, yoff, hy, rfl, c0, c1, c2, c3, hkd⟩ := hsl.at (Below.refl w.heap.size w) (Nat.le_refl _) hxi
  replace c0 := carry hb c0
  replace c1 := carry hb c1
  replace c2 := carry hb c2
  replace c3 := carry hb c3
  have d0 := fun o => carryA o c0
  have d1 := fun o => carryA o c1
  have d2 := fun o => carryA o c2
  have d3 := fun o => carryA o c3
  have hys := sizes_mem (List.mem_of_getElem? hy) hn0
  unfold DNode.sizes at hys
  have hnd := docNode_has (hd.out y (List.mem_of_getElem? hy))
  have hxi2 : (x.i : Int) < (l0.length : Int) := by omega
  have hxi0 : (0 : Int) ≤ (x.i : Int) := by omega
  have hstk := hS.stk
  rw [sIts_snoc] at hstk
  have hp := docIx_parts hah.out hy
  have hbx : Hid (Below w.heap.size w ((wr.alloc (.cells #[.int .i64 x.i, .int .i64 x.ind, .bool x.flat] 57)).alloc (.cells #[.int .i64 y.kind, .int .i64 y.n, .string y.text, .slice ka y.kids.length kc] 49))) := hid ((hb.alloc hbs _).alloc (by simp; omega) _)
  have hhx : Hid (((wr.alloc (.cells #[.int .i64 x.i, .int .i64 x.ind, .bool x.flat] 57)).alloc (.cells #[.int .i64 y.kind, .int .i64 y.n, .string y.text, .slice ka y.kids.length kc] 49)).ownsRow w.heap.size 4 1 hdv l0.length ((hardL l0 l0.length).flatMap bool1)) := hid ((hh.alloc _).alloc _)
  have hox : Hid (((wr.alloc (.cells #[.int .i64 x.i, .int .i64 x.ind, .bool x.flat] 57)).alloc (.cells #[.int .i64 y.kind, .int .i64 y.n, .string y.text, .slice ka y.kids.length kc] 49)).ownsRow w.heap.size 5 1 ov out.length (out.flatMap byte1)) := hid ((hoo.alloc _).alloc _)
  have hpx : Hid (((wr.alloc (.cells #[.int .i64 x.i, .int .i64 x.ind, .bool x.flat] 57)).alloc (.cells #[.int .i64 y.kind, .int .i64 y.n, .string y.text, .slice ka y.kids.length kc] 49)).ownsRow w.heap.size 57 3 (.slice (some ⟨sg, 0, none⟩) L.length sc) L.length (L.flatMap SIt.cells)) := hid ((hpop.alloc _).alloc _)
  have hbox1 : Hid (((wr.alloc (.cells #[.int .i64 x.i, .int .i64 x.ind, .bool x.flat] 57)).alloc (.cells #[.int .i64 y.kind, .int .i64 y.n, .string y.text, .slice ka y.kids.length kc] 49)).heap[wr.heap.size]? = some (.cells #[.int .i64 x.i, .int .i64 x.ind, .bool x.flat] 57 (0, 0))) := hid (lt0 wr _ _)
  have hbox2 : Hid (((wr.alloc (.cells #[.int .i64 x.i, .int .i64 x.ind, .bool x.flat] 57)).alloc (.cells #[.int .i64 y.kind, .int .i64 y.n, .string y.text, .slice ka y.kids.length kc] 49)).heap[wr.heap.size + 1]? = some (.cells #[.int .i64 y.kind, .int .i64 y.n, .string y.text, .slice ka y.kids.length kc] 49 (0, 0))) := hid (lt1 wr _ _)
  have hsz2 : w.heap.size ≤ ((wr.alloc (.cells #[.int .i64 x.i, .int .i64 x.ind, .bool x.flat] 57)).alloc (.cells #[.int .i64 y.kind, .int .i64 y.n, .string y.text, .slice ka y.kids.length kc] 49)).heap.size := by simp; omega
  have hkblt := hid fun (h : 0 < y.kids.length) => hkd.block_lt int1_len h
  have hkids := hid fun (ind : Nat) (f : Bool) W (h : Below w.heap.size w W) (h2 : W.ownsRow w.heap.size 57 3 (.slice (some ⟨sg, 0, none⟩) L.length sc) L.length (L.flatMap SIt.cells)) => specl16Kids_any w.heap.size (.slice (some ⟨sg, 0, none⟩) L.length sc) L y.kind y.n y.text (.slice ka y.kids.length kc) y.kids ind f W h2 h.size (hkd.mono h (Nat.le_refl _)) hkblt.out (fun k hk => (hah.out x.i y hy k hk).1) (by omega)
  have hbrk := hid fun W (h : Below w.heap.size w W) (h2 : W.ownsRow w.heap.size 5 1 ov out.length (out.flatMap byte1)) => specl16Break_any w.heap.size ov out x.ind W h2 h.size (by omega) (by omega)
  have hne2 := hid hne
  replace hok2 := hid hok2
  have hsk := hid fun (ind : Nat) (f : Bool) (hi : ind ≤ 1000000) => hok2.out.kids hah.out hy ind hi f
  have hseq := hid fun (ind : Nat) (f : Bool) => sIts_kids hah.out hy L ind f
  by_cases k1 : y.kind = 1
  · have hN := hid (hS.next (fun ok => ⟨_, lay1 hah.out hy _ _ _ _ _ k1⟩) hok2.out hstk.tail)
    have hsc9 := hid (strCells_eq y.text)
    have htl : Hid (y.text.data.toList.length = y.text.size) := hid rfl
    replace hS := hid hS
    replace hstk := hid hstk
    have e1 : (y.kind == 1) = true := by simpa using k1
    clear hy hkd hh hoo hpop ho hp hne hnd k1
    go_wp2_with (at_builtin; refine Lib.wpList_append_own_string _ rfl _ _ 38 9 rfl w.heap.size 5 i0 Try.underlying38 Try.underlying9 hi hz0 hz1 hz2 _ out.length (out.flatMap byte1) rfl hox.out y.text rfl (by unfold maxLen; omega) (by omega) hsz2 ?_; intro v3 w3 hown3 hgr3 hiff; have hK3 := hid (Keeps.app hox.out hgr3); have q2 := box_cell (hK3.out.box hbox2.out (by decide)) (j := 2) rfl)
    go_roundg gk
    case measure => omega
    case rel =>
      refine ⟨_, _, L, _, rfl, rfl, hbx.out.trans ((hK3.out.below hsz2).mono (Nat.le_refl _)), hK3.out.own hhx.out (by decide), ?_, fun e => hne2.out (hiff.1 e).1, hK3.out.own hpx.out (by decide), hN.out⟩
      rw [List.length_append, List.flatMap_append, htl.out, ← hsc9.out]; exact hown3
  by_cases k23 : y.kind = 2 ∨ y.kind = 3
  · obtain ⟨fl, hfl⟩ : ∃ fl, fl = x.flat := ⟨_, rfl⟩
    cases fl with
    | true =>
      have k2 : y.kind = 2 := by
        rcases k23 with h | h
        · exact h
        · exfalso
          have h9 := hstk.2 (x.it l0) (by simp) hfl.symm
          have h8 : (docIx l0 x.i).flat = none := by
            rw [Doc.flat_eq, if_pos (by rw [hp.1]; omega), leafOf, if_neg (by rw [hp.1]; omega), if_neg (by rw [hp.1]; omega), if_pos (by rw [hp.1]; omega)]
          have h7 : (docIx l0 x.i).flat.isSome = true := h9
          rw [h8] at h7; cases h7
      have hN := hid (hS.next (fun ok => ⟨_, lay2 hah.out hy _ _ _ _ _ k2 hfl.symm⟩) hok2.out hstk.tail)
      rw [← hfl] at s2 hbox1 hbox2 hbx hhx hox hpx hsz2
      replace hS := hid hS
      replace hstk := hid hstk
      replace hfl := hid hfl
      have e1 : (y.kind == 1) = false := by simpa using k1
      have e2 : (y.kind == 2) = true := by simpa using k2
      clear hy hkd hh hoo hpop ho hp k1 k23 hne hnd k2
      go_wp2_with (at_builtin; refine wpList_append_own _ rfl _ _ 38 rfl w.heap.size 5 i0 _ 1 1 Try.underlying38 hi hz0 hz1 hz2 rfl (by decide) _ out.length (out.flatMap byte1) rfl (hox.out.alloc _) _ _ _ (byte1 32) rfl rfl (new_cells_at _ _ _ _ _ rfl (by first | rfl | simp)) (by intro u hu; simp [byte1] at hu; subst hu; rfl) (by unfold maxLen; omega) (by omega) (by simp; omega) ?_; intro v3 w3 hown3 hgr3 hiff; have hK3 := hid ((((Keeps.refl 5 w.heap.size _).alloc _)).trans (Keeps.app (hox.out.alloc _) hgr3)))
      go_roundg gk
      case measure => omega
      case rel =>
        exact ⟨_, _, L, _, rfl, rfl, hbx.out.trans ((hK3.out.below hsz2).mono (Nat.le_refl _)), hK3.out.own hhx.out (by decide), by simpa using hown3, fun e => hne2.out (hiff.1 e).1, hK3.out.own hpx.out (by decide), hN.out⟩
    | false =>
      have hN := hid (hS.next (fun ok => ⟨_, lay3 hah.out hy _ _ _ _ _ k23 hfl.symm⟩) hok2.out hstk.tail)
      rw [← hfl] at s2 hbox1 hbox2 hbx hhx hox hpx hsz2
      replace hS := hid hS
      replace hstk := hid hstk
      replace hfl := hid hfl
      have e1 : (y.kind == 1) = false := by simpa using k1
      have e23 : (y.kind == 2) = true ∨ ((y.kind == 2) = false ∧ (y.kind == 3) = true) := by
        rcases k23 with h | h
        · left; simpa using h
        · right; constructor
          · simp; omega
          · simpa using h
      clear hy hkd hh hoo hpop ho hp k1 hne hnd k23
      rcases e23 with e2 | ⟨e2, e3⟩
      all_goals go_wp2_with (go_at_call 35; refine (hbrk.out _ hbx.out hox.out).mono ?_; rintro e w5 ⟨v5, rfl, ho5, hne5, hK5⟩; have q1 := box_cell (hK5.box hbox1.out (by decide)) (j := 1) rfl; replace hK5 := hid hK5)
      all_goals go_roundg gk
      all_goals first
        | omega
        | exact ⟨_, _, L, _, rfl, rfl, hbx.out.trans ((hK5.out.below hsz2).mono (Nat.le_refl _)), hK5.out.own hhx.out (by decide), ho5, hne5, hK5.out.own hpx.out (by decide), hN.out⟩
  have e1 : (y.kind == 1) = false := by simpa using k1
  have e2 : (y.kind == 2) = false := by simp; omega
  have e3 : (y.kind == 3) = false := by simp; omega
  by_cases k5 : y.kind = 5
  · have hx5 : y.kids.length = 1 := hnd.2.2.2.2 k5
    obtain ⟨k0, hk0⟩ : ∃ k0, y.kids = [k0] := List.length_eq_one_iff.1 hx5
    have hk00 := (hah.out x.i y hy k0 (by rw [hk0]; simp))
    have e5 : (y.kind == 5) = true := by simpa using k5
    have hN := hid fun (f : Bool) (hf : (x.flat || fitDec wd col (sIts l0 L) (x.it l0)) = f) => hS.next (L' := L ++ sKids y.kids x.ind f) (fun ok => ⟨_, by rw [lay5 hah.out hy _ _ _ _ _ k5, hf, hseq.out]⟩) (hsk.out _ _ hxind) (by
      rw [hseq.out]
      refine hstk.kids (by rw [hp.1]; omega) (fun h => ?_) (fun h => ?_)
      · rw [← hf] at h
        rcases Bool.or_eq_true _ _ ▸ h with h | h
        · exact hstk.2 (x.it l0) (by simp) h
        · exact fitDec_some h
      · rw [← hf] at h
        exact (Bool.or_eq_false_iff.1 h).1)
    have hpos : 0 < l0.length := by omega
    obtain ⟨hg, hcap, rfl, hgc, hgm, _, _⟩ := own_slice_some hh hpos
    have h0 := own_at bool1_len hh (hardL_get l0 hxi) (j := 0) (by omega) rfl (by rw [hardL_len])
    rw [Nat.mul_one, Nat.add_zero] at h0
    have h1 := fun o => carryA o h0
    have h2 := fun o o' => carryA o (carryA o' h0)
    obtain ⟨_, ka', kc', hve, hkc, hkm, hkrow⟩ := hkd
    simp at hve
    obtain ⟨rfl, rfl⟩ := hve
    obtain ⟨kb, koff, rfl, hkro⟩ := slc_some hkrow (by omega)
    have f0 := carry hb (hkro.one int1_len (k := 0) (by rw [hk0]; rfl) rfl)
    obtain ⟨n0, rfl⟩ : ∃ n0 : Nat, k0 = (n0 : Int) := ⟨k0.toNat, by omega⟩
    rw [Nat.add_zero] at f0
    have f1 := fun o => carryA o f0
    have f2 := fun o o' => carryA o (carryA o' f0)
    have b20 := fun n => cell_drewN (box_cell hbox2.out (j := 0) rfl) n
    have b21 := fun n => cell_drewN (box_cell hbox2.out (j := 1) rfl) n
    have b22 := fun n => cell_drewN (box_cell hbox2.out (j := 2) rfl) n
    have b23 := fun n => cell_drewN (box_cell hbox2.out (j := 3) rfl) n
    have b11 := fun n => cell_drewN (box_cell hbox1.out (j := 1) rfl) n
    have hkl1 : (0 : Int) < (y.kids.length : Int) := by omega
    have hdx := hS.fine (x.it l0) (by rw [sIts_snoc]; simp)
    have hst2 := fun (hf : x.flat = false) (z : LIt) (hz : z ∈ sIts l0 L) => (⟨hstk.below hf z hz, hS.fine z (by rw [sIts_snoc]; simp [hz])⟩ : z.flat = false ∧ z.d.Fine)
    have hkd1 : (x.it l0).d.kids = [docIx l0 n0] := by
      show (docIx l0 x.i).kids = _
      rw [hp.2.2.2, hk0]; rfl
    have hfs := hid fun (hf : x.flat = false) => fitDec_spec (w := wd) (col := col) hdx (show (docIx l0 x.i).kind = 5 by rw [hp.1]; exact k5) hkd1 (hst2 hf)
    have hha : Hid (hardAt l0 x.i = !(x.it l0).d.flat.isSome) := hid (by unfold hardAt; show (docIx l0 x.i).flat.isNone = !(docIx l0 x.i).flat.isSome; cases (docIx l0 x.i).flat <;> rfl)
    have hw0 : itWts (sIts l0 (L ++ [⟨n0, x.ind, true⟩])) ≤ 100000 := by
      have h9 := hS.wt
      rw [sIts_snoc, itWts_cons, (x.it l0).d.wt_eq, hkd1] at h9
      rw [sIts_snoc, itWts_cons]
      show (docIx l0 n0).wt + _ ≤ _
      simp only [Doc.wts] at h9
      omega
    have hok0 : SOk l0 (L ++ [⟨n0, x.ind, true⟩]) := fun z hz => by
      rcases List.mem_append.1 hz with h | h
      · exact hok2.out z h
      · simp at h; subst h; exact ⟨show n0 < _ by omega, hxind⟩
    obtain ⟨fl, hfl⟩ : ∃ fl, fl = x.flat := ⟨_, rfl⟩
    replace hS := hid hS
    replace hstk := hid hstk
    replace hdx := hid hdx
    replace hst2 := hid hst2
    replace hkd1 := hid hkd1
    replace hk0 := hid hk0
    replace hok0 := hid hok0
    replace hw0 := hid hw0
    clear hy hh hoo hpop ho hp k1 k23 k5 hne hnd hkro hkrow hx5 hk00
    rw [← hfl] at s2 hbox1 hbox2 hbx hhx hox hpx hsz2 b20 b21 b22 b23 b11
    cases fl with
    | true =>
      have hN2 := hid (hN.out true (by rw [← hfl]; rfl))
      clear hN hfs hha
      replace hfl := hid hfl
      go_wp2_with fail
      go_quiet (fail)
      all_goals go_wp2_with (go_at_call 37; refine (hkids.out x.ind true _ (hbx.out.trans ((bdn _ _).mono hsz2)) (own_drewN hpx.out _)).mono ?_; rintro e w5 ⟨v5, rfl, ho5, hK5⟩; replace hK5 := hid hK5)
      all_goals go_roundg gk
      all_goals first
        | omega
        | exact ⟨_, _, _, _, rfl, rfl, (hbx.out.trans ((bdn _ _).mono hsz2)).trans ((hK5.out.below hsz2).mono (Nat.le_refl _)), hK5.out.own (own_drewN hhx.out _) (by decide), hK5.out.own (own_drewN hox.out _) (by decide), hne2.out, ho5, hN2.out⟩
    | false =>
      generalize hHA : hardAt l0 x.i = hd1 at h0 h1 h2 hha
      have hfs2 := hfs.out hfl.symm
      cases hd1 with
      | true =>
        have hN2 := hid (hN.out false (by
          have h9 := hha.out
          rw [← hfl, Bool.false_or, hfs2, show (x.it l0).d.flat.isSome = false from by simpa using h9.symm]; rfl))
        clear hN hfs hha hfs2 hHA
        replace hfl := hid hfl
        go_wp2_with fail
        go_quiet (fail)
        all_goals go_wp2_with (go_at_call 37; refine (hkids.out x.ind false _ (hbx.out.trans ((bdn _ _).mono hsz2)) (own_drewN hpx.out _)).mono ?_; rintro e w5 ⟨v5, rfl, ho5, hK5⟩; replace hK5 := hid hK5)
        all_goals go_roundg gk
        all_goals first
          | omega
          | exact ⟨_, _, _, _, rfl, rfl, (hbx.out.trans ((bdn _ _).mono hsz2)).trans ((hK5.out.below hsz2).mono (Nat.le_refl _)), hK5.out.own (own_drewN hhx.out _) (by decide), hK5.out.own (own_drewN hox.out _) (by decide), hne2.out, ho5, hN2.out⟩
      | false =>
        obtain ⟨dv, hdv⟩ : ∃ dv, dv = fitsW (wd - col) (sIts l0 (L ++ [⟨n0, x.ind, true⟩])) := ⟨_, rfl⟩
        have hN2 := hid (hN.out dv (by
          have h9 := hha.out
          rw [← hfl, Bool.false_or, hfs2, show (x.it l0).d.flat.isSome = true from by simpa using h9.symm, hdv, sIts_snoc]; rfl))
        have hfits := hid fun W (h : Below ((wr.alloc (.cells #[.int .i64 x.i, .int .i64 x.ind, .bool false] 57)).alloc (.cells #[.int .i64 y.kind, .int .i64 y.n, .string y.text, .slice (some ⟨kb, koff, none⟩) y.kids.length kc] 49)).heap.size ((wr.alloc (.cells #[.int .i64 x.i, .int .i64 x.ind, .bool false] 57)).alloc (.cells #[.int .i64 y.kind, .int .i64 y.n, .string y.text, .slice (some ⟨kb, koff, none⟩) y.kids.length kc] 49)) W) => specl16Fits_any l0 _ w.heap.size (.slice (some ⟨sg, 0, none⟩) L.length sc) L ⟨n0, x.ind, true⟩ (wd - col) W hx0 hn0 (hv.out.mono (hbx.out.trans (h.mono hsz2)) (Nat.le_refl _)) hah.out hd.out (own_below hpx.out h (Nat.le_refl _)) hok0.out hw0.out (by omega)
        rw [← hdv] at hfits
        clear hN hfs hha hfs2 hHA hdv
        replace hfl := hid hfl
        have i0 : ((wr.alloc (.cells #[.int .i64 x.i, .int .i64 x.ind, .bool false] 57)).alloc (.cells #[.int .i64 y.kind, .int .i64 y.n, .string y.text, .slice (some ⟨kb, koff, none⟩) y.kids.length kc] 49)).cell? ⟨wr.heap.size, 0, none⟩ = some (.int .i64 x.i) := box_cell hbox1.out rfl
        have i1 : ((wr.alloc (.cells #[.int .i64 x.i, .int .i64 x.ind, .bool false] 57)).alloc (.cells #[.int .i64 y.kind, .int .i64 y.n, .string y.text, .slice (some ⟨kb, koff, none⟩) y.kids.length kc] 49)).cell? ⟨wr.heap.size, 1, none⟩ = some (.int .i64 x.ind) := box_cell hbox1.out rfl
        have i2 : ((wr.alloc (.cells #[.int .i64 x.i, .int .i64 x.ind, .bool false] 57)).alloc (.cells #[.int .i64 y.kind, .int .i64 y.n, .string y.text, .slice (some ⟨kb, koff, none⟩) y.kids.length kc] 49)).cell? ⟨wr.heap.size, 2, none⟩ = some (.bool false) := box_cell hbox1.out rfl
        have i3 : ((wr.alloc (.cells #[.int .i64 x.i, .int .i64 x.ind, .bool false] 57)).alloc (.cells #[.int .i64 y.kind, .int .i64 y.n, .string y.text, .slice (some ⟨kb, koff, none⟩) y.kids.length kc] 49)).cell? ⟨wr.heap.size + 1, 3, none⟩ = some (.slice (some ⟨kb, koff, none⟩) y.kids.length kc) := box_cell hbox2.out rfl
        have i4 : ((wr.alloc (.cells #[.int .i64 x.i, .int .i64 x.ind, .bool false] 57)).alloc (.cells #[.int .i64 y.kind, .int .i64 y.n, .string y.text, .slice (some ⟨kb, koff, none⟩) y.kids.length kc] 49)).cell? ⟨hg, x.i, none⟩ = some (.bool false) := h2 _ _
        have i5 : ((wr.alloc (.cells #[.int .i64 x.i, .int .i64 x.ind, .bool false] 57)).alloc (.cells #[.int .i64 y.kind, .int .i64 y.n, .string y.text, .slice (some ⟨kb, koff, none⟩) y.kids.length kc] 49)).cell? ⟨kb, koff, none⟩ = some (.int .i64 n0) := f2 _ _
        have hb1s : wr.heap.size < ((wr.alloc (.cells #[.int .i64 x.i, .int .i64 x.ind, .bool false] 57)).alloc (.cells #[.int .i64 y.kind, .int .i64 y.n, .string y.text, .slice (some ⟨kb, koff, none⟩) y.kids.length kc] 49)).heap.size := by simp; omega
        have hb2s : wr.heap.size + 1 < ((wr.alloc (.cells #[.int .i64 x.i, .int .i64 x.ind, .bool false] 57)).alloc (.cells #[.int .i64 y.kind, .int .i64 y.n, .string y.text, .slice (some ⟨kb, koff, none⟩) y.kids.length kc] 49)).heap.size := by simp
        replace hsz2 := hid hsz2
        replace i0 := hid i0
        replace i1 := hid i1
        replace i2 := hid i2
        replace i3 := hid i3
        replace i4 := hid i4
        replace i5 := hid i5
        replace hb1s := hid hb1s
        replace hb2s := hid hb2s
        clear h1 h2 f1 f2 b20 b21 b22 b23 b11
        go_wp2_with fail
        generalize ((wr.alloc (.cells #[.int .i64 x.i, .int .i64 x.ind, .bool false] 57)).alloc (.cells #[.int .i64 y.kind, .int .i64 y.n, .string y.text, .slice (some ⟨kb, koff, none⟩) y.kids.length kc] 49)) = w2 at i0 i1 i2 i3 i4 i5 hbx hhx hox hpx hbox1 hbox2 hsz2 hfits hb1s hb2s ⊢
        replace i0 := i0.out
        replace i1 := i1.out
        replace i2 := i2.out
        replace i3 := i3.out
        replace i4 := i4.out
        replace i5 := i5.out
        clear h0 f0 c0 c1 c2 c3 d0 d1 d2 d3 s0 s1 s2
        have hkne : y.kids ≠ [] := by rw [hk0.out]; simp
        have hkpos : 0 < y.kids.length := by rw [hk0.out]; simp
        go_still_tail 22, (by kernel_rfl)
        go_wp2_with (first
          | (go_at_call 36; refine (hfits.out _ (Below.refl _ _).drew).mono ?_; rintro e w4 ⟨rfl, hb4⟩; have hbx2 := (hb4.block (wr.heap.size + 1) hb2s.out).trans hbox2.out; have hbx1 := (hb4.block wr.heap.size hb1s.out).trans hbox1.out; have g20 : w4.cell? ⟨wr.heap.size + 1, 0, none⟩ = some (.int .i64 y.kind) := box_cell hbx2 rfl; have g21 : w4.cell? ⟨wr.heap.size + 1, 1, none⟩ = some (.int .i64 y.n) := box_cell hbx2 rfl; have g22 : w4.cell? ⟨wr.heap.size + 1, 2, none⟩ = some (.string y.text) := box_cell hbx2 rfl; have g23 : w4.cell? ⟨wr.heap.size + 1, 3, none⟩ = some (.slice (some ⟨kb, koff, none⟩) y.kids.length kc) := box_cell hbx2 rfl; have g11 : w4.cell? ⟨wr.heap.size, 1, none⟩ = some (.int .i64 x.ind) := box_cell hbx1 rfl; replace hbx1 := hid hbx1; replace hbx2 := hid hbx2; have hb4' : Hid (Below w2.heap.size w2 w4) := hid ((Below.refl _ _).drew.trans (hb4.mono (Nat.le_refl _))); have hBw4 := hid (hbx.out.trans (hb4'.out.mono hsz2.out)); have hsw4 := hBw4.out.size)
          | (go_at_call 37; refine (hkids.out x.ind dv _ hBw4.out (own_below hpx.out hb4'.out (Nat.le_refl _))).mono ?_; rintro e w5 ⟨v5, rfl, ho5, hK5⟩; replace hK5 := hid hK5))
        all_goals go_roundg gk
        all_goals first
          | omega
          | exact ⟨_, _, _, _, rfl, rfl, hBw4.out.trans ((hK5.out.below hsw4).mono (Nat.le_refl _)), hK5.out.own (own_below hhx.out hb4'.out (Nat.le_refl _)) (by decide), hK5.out.own (own_below hox.out hb4'.out (Nat.le_refl _)) (by decide), hne2.out, ho5, hN2.out⟩
  · have hkn : y.n = ((y.n.toNat : Nat) : Int) := by omega
    have hN := hid (hS.next (L' := L ++ sKids y.kids (x.ind + y.n.toNat) x.flat) (fun ok => ⟨_, by rw [lay6 hah.out hy _ _ _ _ _ ⟨k1, by omega, by omega, k5⟩, hseq.out]⟩) (hsk.out _ _ (by omega)) (by rw [hseq.out]; exact hstk.kids (by rw [hp.1]; omega) (fun h => hstk.2 (x.it l0) (by simp) h) (fun h => h)))
    have e5 : (y.kind == 5) = false := by simpa using k5
    obtain ⟨yn, hyn⟩ : ∃ yn, yn = y.n.toNat := ⟨_, rfl⟩
    rw [← hyn] at hkn hN
    have hynb : yn ≤ 40 := by omega
    rw [hkn] at c1 d1 hbox1 hbox2 hbx hhx hox hpx hsz2 hkids
    replace hyn := hid hyn
    replace hS := hid hS
    replace hstk := hid hstk
    clear hy hkd hh hoo hpop ho hp k1 k23 k5 hne hnd hkn
    go_wp2_with (go_at_call 37; refine (hkids.out (x.ind + yn) x.flat _ hbx.out hpx.out).mono ?_; rintro e w5 ⟨v5, rfl, ho5, hK5⟩; replace hK5 := hid hK5)
    all_goals go_roundg gk
    all_goals first
      | omega
      | exact ⟨_, _, _, _, rfl, rfl, hbx.out.trans ((hK5.out.below hsz2).mono (Nat.le_refl _)), hK5.out.own hhx.out (by decide), hK5.out.own hox.out (by decide), hne2.out, ho5, hN.out⟩
end Go.Proofs.Ytfabfkaolnidiaa
