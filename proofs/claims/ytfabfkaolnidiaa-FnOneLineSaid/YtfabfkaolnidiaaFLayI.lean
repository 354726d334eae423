/- Walks and lemmas of this seat (FLayI): what each theorem says of the functions that it names. Conditions: those that each theorem states. -/
import Derived.Test.YtfabfkaolnidiaaFLayI0
namespace Go.Proofs.Ytfabfkaolnidiaa
set_option linter.unusedVariables false
set_option linter.unusedSimpArgs false
open Go.RowKit

set_option maxRecDepth 100000 in
set_option maxHeartbeats 12800000 in
theorem impllay_R (g : Nat) (h : Option Nat) (p1 p2 : Nat) (dec : Nat → List LIt → LIt → Bool) (t : Doc) (kv : Value) (S : Nat → Prop) (w : World)
    (hS : ∀ b, S b → b < w.heap.size ∧ b ≠ g ∧ some b ≠ h) (hbox : Wr w g (.slice none 0 0) 0 (.slice none 0 0)) (hg : h ≠ some g) (hh : PB w h true) (ht : DocIs S w t kv) (hf : t.Fine) (hw : t.wt ≤ 4001) (Pd : Doc → Prop) (hPk : ∀ d, Pd d → ∀ u ∈ d.kids, Pd u) (hPt : Pd t)
    (hcl : ∀ (W : World) (ov tv : Value) (col : Nat) (ok : Bool) (L : List PIt) (x : PIt), Wf g h w W → Wr W g ov col tv → PB W h ok → W.ownsRow w.heap.size 92 7 tv L.length (L.flatMap PIt.cells) → (∀ p ∈ L ++ [x], DocIs S W p.it.d p.kv ∧ p.it.d.Fine) → itWts (pIts (L ++ [x])) ≤ 10000 → col ≤ 8002000000 → Pd x.it.d →
      Calls Try.prog 43 #[.agg #[.int .i64 x.it.d.kind, .int .i64 x.it.d.n, .string x.it.d.text, x.kv, .int .i64 x.it.d.group], .pointer (some ⟨p1, 0, none⟩), .pointer (some ⟨p2, 0, none⟩)] W fun e W' => e = .returned (.bool (dec col (pIts L) x.it)) ∧ FrB h W W' ∧ PB W' h (ok && (!dec col (pIts L) x.it || x.it.d.flat.isSome))) :
    Calls Try.prog 41 #[.pointer (some ⟨g, 0, none⟩), .agg #[.int .i64 t.kind, .int .i64 t.n, .string t.text, kv, .int .i64 t.group], .func (.func 43) #[] #[.pointer (some ⟨p1, 0, none⟩), .pointer (some ⟨p2, 0, none⟩)]] w fun e w' => e = .returned (.tuple #[]) ∧ Wf g h w w' ∧ ∃ ans : List UInt8 × Bool, ans = layRun dec t.wt ⟨[], 0, true, [⟨t, 0, false⟩]⟩ ∧ PB w' h ans.2 ∧ ∃ ov col tv, Wr w' g ov col tv ∧ w'.ownsRow w.heap.size 5 1 ov ans.1.length (ans.1.flatMap byte1) := by
  obtain ⟨i0, hi, hz0, hz1, hz2⟩ := info_parts Try.info5
  obtain ⟨ta, tn, tc, rfl⟩ := ht.shape
  obtain ⟨ans, hans⟩ : ∃ ans, ans = layRun dec t.wt ⟨[], 0, true, [⟨t, 0, false⟩]⟩ := ⟨_, rfl⟩
  have hans2 := hid hans
  have hinit : Hid (ILay dec ans t.wt [] 0 true [⟨⟨t, 0, false⟩, .slice ta tn tc⟩]) := hid (by
    refine ⟨⟨0, by omega, ⟨by simp, by simp, fun x hx => ?_⟩⟩, hans.symm, ?_⟩
    · simp [pIts] at hx; subst hx; exact ⟨by simp, hf⟩
    · show itWts [⟨t, 0, false⟩] ≤ _; rw [itWts_cons]; show t.wt + 0 ≤ _; omega)
  have htd := hid ht
  have hhlt : Hid (∀ b, h = some b → b < w.heap.size) := hid fun b e => by subst e; exact hh.lt
  have hgl := hbox.lt
  have t2 := hbox.c2
  have f2 := hbox.fr 2
  have hbox2 := hid hbox
  have hh2 := hid hh
  clear hans hf ht hbox hh
  replace hS := hid hS
  replace hcl := hid hcl
  replace hg := hid hg
  go_enter Try.func41, Try.ntmps41
  go_wp2
  go_loopg [] (t.wt) (fun gk wr => ∃ (out : List UInt8) (col : Nat) (ok : Bool) (L : List PIt) (ov tv : Value), Wf g h w wr ∧ Wr wr g ov col tv ∧ wr.ownsRow w.heap.size 5 1 ov out.length (out.flatMap byte1) ∧ wr.ownsRow w.heap.size 92 7 tv L.length (L.flatMap PIt.cells) ∧ PB wr h ok ∧ (∀ p ∈ L, DocIs S w p.it.d p.kv ∧ Pd p.it.d) ∧ ILay dec ans gk out col ok L)
  case atStart => exact ⟨[], 0, true, [⟨⟨t, 0, false⟩, .slice ta tn tc⟩], _, _, (((Wf.refl g h w).set _).alloc _).alloc _, ((hbox2.out.s2 _).alloc _).alloc _, ((own_setCell (slc_none 5 1 w.heap.size rfl) hgl).alloc _).alloc _, by have h9 := own_box ((w.setCell ⟨g, 2, none⟩ (.slice (some ⟨w.heap.size + 1, 0, none⟩) 1 1)).alloc (.cells #[.int .i64 t.kind, .int .i64 t.n, .string t.text, .slice ta tn tc, .int .i64 t.group] 70)) #[.int .i64 t.kind, .int .i64 t.n, .string t.text, .slice ta tn tc, .int .i64 t.group, .int .i64 0, .bool false] 92 7 rfl; rw [World.size_alloc] at h9; simpa [PIt.cells] using own_base h9 (show w.heap.size ≤ _ by simp), (((hh2.out.set hg.out).below ((Below.refl _ _).alloc (Nat.le_refl _) _)).below ((Below.refl _ _).alloc (Nat.le_refl _) _)), fun p hp => by simp at hp; subst hp; exact ⟨htd.out, hPt⟩, hinit.out⟩
  clear hinit htd t2 f2 hbox2 hh2
  obtain ⟨out, col, ok, L, ov, tv, hfr, hW, hoo, ho, hok, hL, hI⟩ := hrel
  have hwl := hfr.size
  have hglr := hW.lt
  rcases List.eq_nil_or_concat L with rfl | ⟨L, x, rfl⟩
  · obtain ⟨sa, sc0, rfl, hscm0⟩ := own_slice ho
    have t2 := hW.c2
    have hA : Hid (ans = (out, ok)) := hid (by
      have := hI.eq
      rw [← this, show pIts [] = [] from rfl, layRun_nil])
    replace hI := hid hI
    replace hW := hid hW
    go_wp2
    go_end0
    exact ⟨rfl, hfr, ans, hans2.out, by rw [hA.out]; exact hok, ov, _, _, hW.out, by rw [hA.out]; exact hoo⟩
  rw [List.concat_eq_append] at ho hL hI
  obtain ⟨gk, rfl, hkids⟩ := hI.pop
  obtain ⟨sz1, sz2, sz3, sz4, sz6, sz5⟩ := hI.size
  obtain ⟨hxind, hxf⟩ := sz5 x (by simp)
  have hxh := hxf.has
  have htx := hxh.t
  have hnx := hxh.n
  obtain ⟨sg, sc, rfl, hsc, hscm, hsB, hsH⟩ := own_slice_some ho (by simp)
  obtain ⟨xa, xn, xc, hxv⟩ := (hL x (by simp)).1.shape
  obtain ⟨⟨xd, xi, xfl⟩, xkv⟩ := x
  simp only at hxv hxind hxf hxh htx hnx
  subst hxv
  have hxL : (L ++ [(⟨⟨xd, xi, xfl⟩, .slice xa xn xc⟩ : PIt)])[L.length]? = some ⟨⟨xd, xi, xfl⟩, .slice xa xn xc⟩ := by simp
  have s0 := own_at PIt.len ho hxL (j := 0) (by omega) rfl rfl
  have s1 := own_at PIt.len ho hxL (j := 1) (by omega) rfl rfl
  have s2 := own_at PIt.len ho hxL (j := 2) (by omega) rfl rfl
  have s3 := own_at PIt.len ho hxL (j := 3) (by omega) rfl rfl
  have s4 := own_at PIt.len ho hxL (j := 4) (by omega) rfl rfl
  have s5 := own_at PIt.len ho hxL (j := 5) (by omega) rfl rfl
  have s6 := own_at PIt.len ho hxL (j := 6) (by omega) rfl rfl
  rw [Nat.add_zero] at s0
  have hpop := own_pop PIt.len ho (by simp)
  have hll : (L ++ [(⟨⟨xd, xi, xfl⟩, .slice xa xn xc⟩ : PIt)]).length = L.length + 1 := by simp
  rw [hll] at sz3 hsc hW
  clear hll hxL ho
  have e9 : ((L.length + 1 : Nat) : Int) - 1 = (L.length : Int) := by omega
  have hsc2 : (L.length : Int) ≤ (sc : Int) := by omega
  have hsc3 : (0 : Int) ≤ (L.length : Int) := by omega
  have hsc4 : (L.length : Int) < ((L.length + 1 : Nat) : Int) := by omega
  have t0 := hW.c0
  have t1 := hW.c1
  have t2 := hW.c2
  have f0 := hW.fr 0
  have f1 := hW.fr 1
  have f2 := hW.fr 2
  replace hW := hid hW
  replace hI := hid hI
  replace hL := hid hL
  replace hok := hid hok
  replace hfr := hid hfr
  replace hoo := hid hoo
  replace hpop := hid hpop
  replace sz5 := hid sz5
  replace hxh := hid hxh
  replace hxf := hid hxf
  have hwn : IntKind.wrap .i64 (L.length : Int) = (L.length : Int) := wrap_nat _ (by omega)
  go_wp2_with fail
  have hfr1 : Hid (Wf g h w ((wr.setCell ⟨g, 2, none⟩ (.slice (some ⟨sg, 0, none⟩) L.length sc)).alloc (.cells #[.int .i64 xd.kind, .int .i64 xd.n, .string xd.text, .slice xa xn xc, .int .i64 xd.group, .int .i64 xi, .bool xfl] 92)).drew.drew) := hid ((hfr.out.set _).alloc _).drew.drew
  have hW1 : Hid (Wr ((wr.setCell ⟨g, 2, none⟩ (.slice (some ⟨sg, 0, none⟩) L.length sc)).alloc (.cells #[.int .i64 xd.kind, .int .i64 xd.n, .string xd.text, .slice xa xn xc, .int .i64 xd.group, .int .i64 xi, .bool xfl] 92)).drew.drew g ov col (.slice (some ⟨sg, 0, none⟩) L.length sc)) := hid ((hW.out.s2 _).alloc _)
  have hoo1 : Hid (((wr.setCell ⟨g, 2, none⟩ (.slice (some ⟨sg, 0, none⟩) L.length sc)).alloc (.cells #[.int .i64 xd.kind, .int .i64 xd.n, .string xd.text, .slice xa xn xc, .int .i64 xd.group, .int .i64 xi, .bool xfl] 92)).drew.drew.ownsRow w.heap.size 5 1 ov out.length (out.flatMap byte1)) := hid ((own_setCell hoo.out hgl).alloc _)
  have ho1 : Hid (((wr.setCell ⟨g, 2, none⟩ (.slice (some ⟨sg, 0, none⟩) L.length sc)).alloc (.cells #[.int .i64 xd.kind, .int .i64 xd.n, .string xd.text, .slice xa xn xc, .int .i64 xd.group, .int .i64 xi, .bool xfl] 92)).drew.drew.ownsRow w.heap.size 92 7 (.slice (some ⟨sg, 0, none⟩) L.length sc) L.length (L.flatMap PIt.cells)) := hid ((own_setCell hpop.out hgl).alloc _)
  have hok1 : Hid (PB ((wr.setCell ⟨g, 2, none⟩ (.slice (some ⟨sg, 0, none⟩) L.length sc)).alloc (.cells #[.int .i64 xd.kind, .int .i64 xd.n, .string xd.text, .slice xa xn xc, .int .i64 xd.group, .int .i64 xi, .bool xfl] 92)).drew.drew h ok) := hid ((hok.out.set hg.out).below ((Below.refl _ _).alloc (Nat.le_refl _) _).drew.drew)
  have hbx1 : Hid (((wr.setCell ⟨g, 2, none⟩ (.slice (some ⟨sg, 0, none⟩) L.length sc)).alloc (.cells #[.int .i64 xd.kind, .int .i64 xd.n, .string xd.text, .slice xa xn xc, .int .i64 xd.group, .int .i64 xi, .bool xfl] 92)).drew.drew.heap[wr.heap.size]? = some (.cells #[.int .i64 xd.kind, .int .i64 xd.n, .string xd.text, .slice xa xn xc, .int .i64 xd.group, .int .i64 xi, .bool xfl] 92 (0, 0))) := hid (by
    have h9 := heap_alloc_new (wr.setCell ⟨g, 2, none⟩ (.slice (some ⟨sg, 0, none⟩) L.length sc)) (.cells #[.int .i64 xd.kind, .int .i64 xd.n, .string xd.text, .slice xa xn xc, .int .i64 xd.group, .int .i64 xi, .bool xfl] 92)
    have h8 : (wr.setCell ⟨g, 2, none⟩ (.slice (some ⟨sg, 0, none⟩) L.length sc)).heap.size = wr.heap.size := by simp
    rw [h8] at h9
    exact h9)
  go_region
  all_goals go_wp2_with fail
  all_goals go_region
  generalize ((wr.setCell ⟨g, 2, none⟩ (.slice (some ⟨sg, 0, none⟩) L.length sc)).alloc (.cells #[.int .i64 xd.kind, .int .i64 xd.n, .string xd.text, .slice xa xn xc, .int .i64 xd.group, .int .i64 xi, .bool xfl] 92)).drew.drew = w1 at hfr1 hW1 hoo1 ho1 hok1 hbx1 ⊢
  clear s0 s1 s2 s3 s4 s5 s6 t0 t1 t2 f0 f1 f2 hW hok hfr hoo hpop
  have hbl : wr.heap.size < w1.heap.size := heap_lt hbx1.out
  have hgw : g < w1.heap.size := by omega
  have hwl1 : w.heap.size ≤ w1.heap.size := by omega
  have hgne : g ≠ wr.heap.size := by omega
  obtain ⟨bx, hbxe⟩ : ∃ bx, bx = wr.heap.size := ⟨_, rfl⟩
  rw [← hbxe] at hbx1 hbl hgne ⊢
  have hbxB : w.heap.size ≤ bx := by omega
  have hbxs : bx ≠ sg := by omega
  clear hbxe hglr hsH hwl hwn
  have b0 : w1.cell? ⟨bx, 0, none⟩ = some (.int .i64 xd.kind) := box_cell hbx1.out rfl
  have b1 : w1.cell? ⟨bx, 1, none⟩ = some (.int .i64 xd.n) := box_cell hbx1.out rfl
  have b2 : w1.cell? ⟨bx, 2, none⟩ = some (.string xd.text) := box_cell hbx1.out rfl
  have b3 : w1.cell? ⟨bx, 3, none⟩ = some (.slice xa xn xc) := box_cell hbx1.out rfl
  have b4 : w1.cell? ⟨bx, 4, none⟩ = some (.int .i64 xd.group) := box_cell hbx1.out rfl
  have b5 : w1.cell? ⟨bx, 5, none⟩ = some (.int .i64 xi) := box_cell hbx1.out rfl
  have b6 : w1.cell? ⟨bx, 6, none⟩ = some (.bool xfl) := box_cell hbx1.out rfl
  have t0 := hW1.out.c0
  have t1 := hW1.out.c1
  have f0 := hW1.out.fr 0
  have f1 := hW1.out.fr 1
  have hdx := hid (hL.out ⟨⟨xd, xi, xfl⟩, .slice xa xn xc⟩ (by simp)).1
  have hPx := hid (hL.out ⟨⟨xd, xi, xfl⟩, .slice xa xn xc⟩ (by simp)).2
  have hL1 : Hid (∀ p ∈ L, DocIs S w p.it.d p.kv ∧ Pd p.it.d) := hid fun p hp => hL.out p (by simp [hp])
  have hpush := hid fun (ind : Nat) (f : Bool) (W : World) (o2 : Value) (hw9 : Wf g h w W) (h9 : Wr W g o2 col (.slice (some ⟨sg, 0, none⟩) L.length sc)) (h8 : W.ownsRow w.heap.size 92 7 (.slice (some ⟨sg, 0, none⟩) L.length sc) L.length (L.flatMap PIt.cells)) => implpush_any g w.heap.size o2 col (.slice (some ⟨sg, 0, none⟩) L.length sc) L xd (.slice xa xn xc) S ind f W h9 hgl hw9.size h8 (DocIs.fr hS.out hw9 hdx.out) (fun b hb => ⟨(hS.out b hb).1, (hS.out b hb).2.1⟩) (by omega)
  have hback := hid fun (W : World) (hw9 : Wf g h w W) (q : List PIt) (ind : Nat) (f : Bool) (hqi : q.map PIt.it = (kidIts xd ind f).reverse) (hq : ∀ p ∈ q, DocIs S W p.it.d p.kv) => (fun p hp => by
    rcases List.mem_append.1 hp with hp | hp
    · exact hL1.out p hp
    · exact ⟨DocIs.fr_back hS.out hw9 (hq p hp), kids_pd hqi (hPk xd hPx.out) p hp⟩ : ∀ p ∈ L ++ q, DocIs S w p.it.d p.kv ∧ Pd p.it.d)
  clear hL
  by_cases k1 : xd.kind = 1
  · have hN := hid (hI.out.next (stp1 dec out col ok (pIts L) _ k1))
    simp only at hN
    have e1 : (xd.kind == 1) = true := by simpa using k1
    have hsc9 := hid (strCells_eq xd.text)
    have htl : Hid (xd.text.data.toList.length = xd.text.size) := hid rfl
    clear k1 hI b1 b3 b4 b5 b6 hpush hback
    go_wp2_with fail
    first
      | go_region_law (refine step_append_own_string rfl _ _ 38 9 rfl w.heap.size 5 i0 Try.underlying38 Try.underlying9 hi hz0 hz1 hz2 ov out.length (out.flatMap byte1) (by rfl) (own_drew hoo1.out) xd.text (by rfl) (by unfold maxLen; omega) (by omega) (by simp; omega) ?_; intro v3 w3 hown3 hgr3; obtain ⟨va, vc, rfl, hvm⟩ := own_slice hown3; have hW3 : Wr w3 g ov col (.slice (some ⟨sg, 0, none⟩) L.length sc) := (hW1.out.below (Below.refl _ _).drew).of (grown_at (own_drew hoo1.out) hgr3 hgl hgw); have q1 := hW3.c0; have q2 := hW3.c1; have q3 := hW3.fr 0; have q4 := hW3.fr 1; have q5 : w3.cell? ⟨bx, 2, none⟩ = some (.string xd.text) := box_cell ((Lk.app (g := g) (own_drew hoo1.out) hgr3).box hbx1.out (by decide) (Ne.symm hgne)) rfl)
      | fail "region 8"
    all_goals go_wp2_with fail
    all_goals go_region
    all_goals go_wp2
    all_goals go_roundg gk
    all_goals first
      | omega
      | exact (by
          have hL3 : Lk g 5 w.heap.size w1 w3 := (Lk.of_below (Below.refl _ _).drew).trans (Lk.app (own_drew hoo1.out) hgr3)
          refine ⟨_, _, ok, L, _, _, (((hfr1.out.lk hL3).set (j := 0) _).set (j := 1) _).drew, (hW3.s0 _).s1 _, ?_, own_setCell (own_setCell (hL3.own ho1.out (by decide) hgl) hgl) hgl, ((hok1.out.lk hL3 hg.out hhlt.out).set hg.out).set hg.out, hL1.out, hN.out⟩
          rw [List.length_append, List.flatMap_append, htl.out, ← hsc9.out]
          exact own_setCell (own_setCell hown3 hgl) hgl)
  by_cases k3 : (xd.kind = 2 ∧ xfl = false) ∨ xd.kind = 3
  · have hN := hid (hI.out.next (stp3 dec out col ok (pIts L) _ k3))
    simp only at hN
    have e1 : (xd.kind == 1) = false := by simp; omega
    have e23 : ((xd.kind == 2) = true ∧ xfl = false) ∨ ((xd.kind == 2) = false ∧ (xd.kind == 3) = true) := by
      rcases k3 with h | h
      · left; exact ⟨by simpa using h.1, h.2⟩
      · right; constructor
        · simp; omega
        · simpa using h
    have hline := hid (implline_any g w.heap.size ov col (.slice (some ⟨sg, 0, none⟩) L.length sc) out xi w1 hW1.out hgl hwl1 hoo1.out (by omega) (by omega))
    clear k3 k1 hI hpush hback
    rcases e23 with ⟨e2, rfl⟩ | ⟨e2, e3⟩
    all_goals go_wp2_with (go_at_call 64; refine hline.out.mono ?_; rintro e w3 ⟨rfl, ov3, hW3, hown3, hL3⟩; replace hW3 := hid hW3)
    all_goals go_roundg gk
    all_goals first
      | omega
      | exact ⟨_, _, ok, L, _, _, hfr1.out.lk hL3, hW3.out, hown3, hL3.own ho1.out (by decide) hgl, hok1.out.lk hL3 hg.out hhlt.out, hL1.out, hN.out⟩
  have e1 : (xd.kind == 1) = false := by simpa using k1
  have e3 : (xd.kind == 3) = false := by simp; omega
  by_cases k2 : xd.kind = 2
  · obtain rfl : xfl = true := by
      cases xfl with
      | true => rfl
      | false => exact absurd (.inl ⟨k2, rfl⟩) k3
    have hN := hid (hI.out.next (stp2 dec out col ok (pIts L) _ k2 rfl))
    have e2 : (xd.kind == 2) = true := by simpa using k2
    have hne := hid (own_ne hoo1.out hgl)
    clear k1 k2 k3 hI hpush hback b1 b2 b3 b4 b5
    go_wp2_with (at_builtin; refine wpList_append_lies _ (by rfl) _ _ 38 (by rfl) w.heap.size 5 i0 _ 1 1 Try.underlying38 hi hz0 hz1 hz2 rfl (by omega) ov out.length (out.flatMap byte1) (by rfl) (hoo1.out.alloc _) ⟨w1.heap.size, 0, none⟩ 1 1 (byte1 32) (by rfl) (by rfl) (World.news_of_block (cs := #[.int .u8 32]) (t := 5) (fr := (0, 0)) (heap_alloc_new w1 _)) (by simp [Value.oneCell', byte1]) (by omega) (by unfold maxLen; omega) (by omega) (by simp; omega) (w1.heap.size + 1) (by simp) ?_; intro gg cap3 w3 hown3 hgr3 hat hlt3; have hW3 : Wr w3 g ov col (.slice (some ⟨sg, 0, none⟩) L.length sc) := (hW1.out.alloc _).of (grown_at (hoo1.out.alloc _) hgr3 hgl (by simp; omega)); have q1 := hW3.c0; have q2 := hW3.c1; have q3 := hW3.fr 0; have q4 := hW3.fr 1; replace hW3 := hid hW3)
    all_goals go_roundg gk
    all_goals first
      | omega
      | exact (by
          have hL3 : Lk g 5 w.heap.size w1 w3 := (Lk.of_below ((Below.refl _ _).alloc (Nat.le_refl _) _)).trans (Lk.app (hoo1.out.alloc _) hgr3)
          refine ⟨_, _, ok, L, _, _, ((hfr1.out.lk hL3).set (j := 0) _).set (j := 1) _, (hW3.out.s0 _).s1 _, ?_, own_setCell (own_setCell (hL3.own ho1.out (by decide) hgl) hgl) hgl, ((hok1.out.lk hL3 hg.out hhlt.out).set hg.out).set hg.out, hL1.out, hN.out⟩
          rw [List.length_append, List.flatMap_append, List.length_singleton, List.flatMap_singleton]
          exact own_setCell (own_setCell hown3 hgl) hgl)
  have e2 : (xd.kind == 2) = false := by simpa using k2
  by_cases k5 : xd.kind = 5
  · have e5 : (xd.kind == 5) = true := by simpa using k5
    have e4 : (xd.kind == 4) = false := by simp; omega
    have hN := hid fun (L' : List PIt) (f : Bool) (hf : (xfl || dec col (pIts L) ⟨xd, xi, xfl⟩) = f) (hq : pIts L' = kidIts xd xi f ++ pIts L) => hI.out.next (L' := L') (out' := out) (col' := col) (ok' := ok && (xfl || !dec col (pIts L) ⟨xd, xi, xfl⟩ || xd.flat.isSome)) (by subst hf; rw [hq]; exact stp5 dec out col ok (pIts L) ⟨xd, xi, xfl⟩ k5)
    have hxf5 := hxf.out
    cases xfl with
    | true =>
      have hok5 : Hid (∀ W, PB W h ok → PB W h (ok && (true || !dec col (pIts L) ⟨xd, xi, true⟩ || xd.flat.isSome))) := hid fun W hW => by simpa using hW
      clear k1 k2 k3 k5 hI
      go_wp2_with fail
      go_still_tail 13, (by kernel_rfl)
      go_wp2_with (go_at_call 65; refine (hpush.out xi true w1.drew ov hfr1.out.drew (hW1.out.below (Below.refl _ _).drew) (own_drew ho1.out)).mono ?_; rintro e w3 ⟨rfl, tv3, q3, hW3, hq3, hd3, hown3, hL3, hK3⟩; replace hW3 := hid hW3; replace hd3 := hid hd3; replace hq3 := hid hq3)
      all_goals go_roundg gk
      all_goals first
        | omega
        | exact ⟨_, _, _, L ++ q3, _, _, hfr1.out.drew.lk hL3, hW3.out, hL3.own (own_drew hoo1.out) (by decide) hgl, hown3, hok5.out _ ((hok1.out.below (Below.refl _ _).drew).lk hL3 hg.out hhlt.out), hback.out _ hfr1.out.drew q3 _ _ hq3.out hd3.out, hN.out _ true (by simp) (pIts_push L q3 xd xi true hq3.out)⟩
    | false =>
      have hcall := hid (hcl.out w1.drew ov (.slice (some ⟨sg, 0, none⟩) L.length sc) col ok L ⟨⟨xd, xi, false⟩, .slice xa xn xc⟩ hfr1.out.drew (hW1.out.below (Below.refl _ _).drew) (hok1.out.below (Below.refl _ _).drew) (own_drew ho1.out) (fun p hp => by
        rcases List.mem_append.1 hp with hp | hp
        · exact ⟨DocIs.fr hS.out hfr1.out.drew (hL1.out p hp).1, (sz5.out p (by simp [hp])).2⟩
        · simp at hp; subst hp; exact ⟨DocIs.fr hS.out hfr1.out.drew hdx.out, hxf5⟩) (Nat.le_trans sz6 (by omega)) sz2 hPx.out)
      simp only at hcall
      obtain ⟨dd, hdd⟩ : ∃ dd, dd = dec col (pIts L) ⟨xd, xi, false⟩ := ⟨_, rfl⟩
      have hok5 : Hid (∀ W, PB W h (ok && (!dd || xd.flat.isSome)) → PB W h (ok && (false || !dec col (pIts L) ⟨xd, xi, false⟩ || xd.flat.isSome))) := hid fun W hW => by rw [← hdd]; simpa using hW
      have hN5 := hid fun (L' : List PIt) (hq : pIts L' = kidIts xd xi dd ++ pIts L) => hN.out L' dd (by rw [hdd]; rfl) hq
      rw [← hdd] at hcall
      clear k1 k2 k3 k5 hI hN hdd hxf5
      have hgh : Hid (∀ b, h = some b → b < w.heap.size) := hhlt
      go_wp2_with fail
      go_wp2_with fail
      go_region_held3 (fun W => W.cell? ⟨bx, 0, none⟩ = some (.int .i64 xd.kind) ∧ W.cell? ⟨bx, 1, none⟩ = some (.int .i64 xd.n) ∧ W.cell? ⟨bx, 2, none⟩ = some (.string xd.text) ∧ W.cell? ⟨bx, 3, none⟩ = some (.slice xa xn xc) ∧ W.cell? ⟨bx, 4, none⟩ = some (.int .i64 xd.group) ∧ W.cell? ⟨bx, 5, none⟩ = some (.int .i64 xi) ∧ W.cell? ⟨bx, 6, none⟩ = some (.bool false))
        (first | exact ⟨b0, b1, b2, b3, b4, b5, b6⟩ | exact ⟨z0, z1, z2, z3, z4, z5, z6⟩ | exact ⟨y0, y1, y2, y3, y4, y5, y6⟩)
        (first
            | (go_at_call 43; refine hcall.out.mono ?_; rintro e w2 ⟨rfl, hFB, hPB⟩; have hfr2 := hid (hfr1.out.drew.trans hFB.fr); have hW2 := hid ((hW1.out.below (Below.refl _ _).drew).of (hFB.block g hgw (fun e9 => hg.out e9.symm))); have ho2 := hid (own_frB (own_drew ho1.out) hFB hhlt.out); have hoo2 := hid (own_frB (own_drew hoo1.out) hFB hhlt.out); have hbx2 := hid ((hFB.block bx hbl (fun e9 => by have := hhlt.out bx e9.symm; omega)).trans hbx1.out); have z0 : w2.cell? ⟨bx, 0, none⟩ = some (.int .i64 xd.kind) := box_cell hbx2.out rfl; have z1 : w2.cell? ⟨bx, 1, none⟩ = some (.int .i64 xd.n) := box_cell hbx2.out rfl; have z2 : w2.cell? ⟨bx, 2, none⟩ = some (.string xd.text) := box_cell hbx2.out rfl; have z3 : w2.cell? ⟨bx, 3, none⟩ = some (.slice xa xn xc) := box_cell hbx2.out rfl; have z4 : w2.cell? ⟨bx, 4, none⟩ = some (.int .i64 xd.group) := box_cell hbx2.out rfl; have z5 : w2.cell? ⟨bx, 5, none⟩ = some (.int .i64 xi) := box_cell hbx2.out rfl; have z6 : w2.cell? ⟨bx, 6, none⟩ = some (.bool false) := box_cell hbx2.out rfl; replace hPB := hid hPB; have hbs2 : bx < w2.heap.size := Nat.lt_of_lt_of_le hbl hFB.size)
            | (go_at_call 65; refine (hpush.out xi dd w2 ov hfr2.out hW2.out ho2.out).mono ?_; rintro e w3 ⟨rfl, tv3, q3, hW3, hq3, hd3, hown3, hL3, hK3⟩; replace hW3 := hid hW3; replace hd3 := hid hd3; replace hq3 := hid hq3; have hbx3 := (hK3 bx hbs2 (Ne.symm hgne) (fun e9 => hbxs (by simpa [Value.ownBlock] using e9))).trans hbx2.out; have y0 : w3.cell? ⟨bx, 0, none⟩ = some (.int .i64 xd.kind) := box_cell hbx3 rfl; have y1 : w3.cell? ⟨bx, 1, none⟩ = some (.int .i64 xd.n) := box_cell hbx3 rfl; have y2 : w3.cell? ⟨bx, 2, none⟩ = some (.string xd.text) := box_cell hbx3 rfl; have y3 : w3.cell? ⟨bx, 3, none⟩ = some (.slice xa xn xc) := box_cell hbx3 rfl; have y4 : w3.cell? ⟨bx, 4, none⟩ = some (.int .i64 xd.group) := box_cell hbx3 rfl; have y5 : w3.cell? ⟨bx, 5, none⟩ = some (.int .i64 xi) := box_cell hbx3 rfl; have y6 : w3.cell? ⟨bx, 6, none⟩ = some (.bool false) := box_cell hbx3 rfl))
      all_goals go_wp2
      all_goals go_roundg gk
      all_goals first
        | omega
        | exact ⟨_, _, _, L ++ q3, _, _, hfr2.out.lk hL3, hW3.out, hL3.own hoo2.out (by decide) hgl, hown3, hok5.out _ (hPB.out.lk hL3 hg.out hhlt.out), hback.out _ hfr2.out q3 _ _ hq3.out hd3.out, hN5.out _ (pIts_push L q3 xd xi dd hq3.out)⟩
  have e5 : (xd.kind == 5) = false := by simpa using k5
  obtain ⟨yn, hyn⟩ : ∃ yn : Nat, yn = xd.n.toNat := ⟨_, rfl⟩
  have hkn : xd.n = (yn : Int) := by omega
  have hyb : yn ≤ 40 := by omega
  have hN := hid fun (L' : List PIt) (hq : pIts L' = kidIts xd (xi + xd.n.toNat) xfl ++ pIts L) => hI.out.next (L' := L') (by rw [hq]; exact stp6 dec out col ok (pIts L) ⟨xd, xi, xfl⟩ ⟨k1, k2, fun e => k3 (.inr e), k5⟩)
  rw [← hyn] at hN
  have hn0 : ¬ xd.kind = 4 → yn = 0 := fun e => by have := hxh.out.n0 e; omega
  rw [hkn] at b1 hpush
  clear hyn hkn hI hnx
  by_cases k4 : xd.kind = 4
  · have e4 : (xd.kind == 4) = true := by simpa using k4
    clear k1 k2 k3 k4 k5 hn0
    go_wp2_with (go_at_call 65; refine (hpush.out (xi + yn) xfl w1 ov hfr1.out hW1.out ho1.out).mono ?_; rintro e w3 ⟨rfl, tv3, q3, hW3, hq3, hd3, hown3, hL3, hK3⟩; replace hW3 := hid hW3; replace hd3 := hid hd3; replace hq3 := hid hq3)
    all_goals go_roundg gk
    all_goals first
      | omega
      | exact ⟨_, _, _, L ++ q3, _, _, hfr1.out.lk hL3, hW3.out, hL3.own hoo1.out (by decide) hgl, hown3, hok1.out.lk hL3 hg.out hhlt.out, hback.out _ hfr1.out q3 _ _ hq3.out hd3.out, hN.out _ (pIts_push L q3 xd (xi + yn) xfl hq3.out)⟩
  · have e4 : (xd.kind == 4) = false := by simpa using k4
    obtain rfl := hn0 k4
    clear k1 k2 k3 k4 k5 hn0
    go_wp2_with (go_at_call 65; refine (hpush.out xi xfl w1 ov hfr1.out hW1.out ho1.out).mono ?_; rintro e w3 ⟨rfl, tv3, q3, hW3, hq3, hd3, hown3, hL3, hK3⟩; replace hW3 := hid hW3; replace hd3 := hid hd3; replace hq3 := hid hq3)
    all_goals go_roundg gk
    all_goals first
      | omega
      | exact ⟨_, _, _, L ++ q3, _, _, hfr1.out.lk hL3, hW3.out, hL3.own hoo1.out (by decide) hgl, hown3, hok1.out.lk hL3 hg.out hhlt.out, hback.out _ hfr1.out q3 _ _ hq3.out hd3.out, hN.out _ (pIts_push L q3 xd xi xfl hq3.out)⟩
end Go.Proofs.Ytfabfkaolnidiaa
