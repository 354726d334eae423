/- Walks and lemmas of this seat (FStartsOf): what each theorem says of the functions that it names. Conditions: those that each theorem states. -/
import Derived.Test.YtagoeiegdlnalaaFSR
import Derived.Test.YtagoeiegdlnalaaDataNode
import Derived.Outline
import Derived.RegionIn
import Derived.BigRegionIn
import Derived.Deep.Slices
import Derived.Deep.OwnRows
namespace Go.Proofs.Ytagoeiegdlnalaa
set_option linter.unusedVariables false
set_option linter.unusedSimpArgs false
open Go.RowKit Go.Shelf

attribute [local go_sem] Oper.semAt_some


set_option maxRecDepth 100000 in
set_option maxHeartbeats 6400000 in
theorem implstartsOf_in (l0 : List Node) (v0 : Value) (w : World) (hn0 : l0.length ≤ 1048576) (hx0 : ∀ x ∈ l0, x.Ok) (hs0 : bulk Node.sizes l0 ≤ 1048576) (hv0 : NodeSlc w v0 l0) (hin : 1 ≤ l0.length ∧ l0.length ≤ 400) :
    CallsIn Fence.wide 6 Try.prog 94 #[v0] w fun e w' => ImplStartsPost w 400 (l0.map Node.kids) e w' := by
  obtain ⟨a, cap, rfl, hm, hc, hsl⟩ := hv0.shape
  have hd : decide ((1 : Int) ≤ (l0.length : Int) ∧ (l0.length : Int) ≤ 400) = true := by simp; omega
  have hin2 : decide (1 ≤ (l0.map Node.kids).length ∧ (l0.map Node.kids).length ≤ 400) = true := by simp; omega
  have hmk := run_make_row' (P := Try.prog) 36 3 (.int .i64 0) 8 Try.underlying36 Try.info3 rfl .i64 .i64 l0.length (by omega) (by omega)
  replace hin2 := hid hin2
  refine callsIn_of_wp_marks Try.func94 rfl trivial ?_ rfl
  simp only [Try.ntmps94, List.size_toArray, List.length_cons, List.length_nil, Nat.reduceAdd, Nat.reduceSub, Array.replicate_succ, Array.replicate_zero, List.push_toArray, List.append_toArray, List.nil_append, List.cons_append]
  gi_wp2_with fail
  refine ⟨trivial, (implwithin_in Fence.wide _ trivial rfl _ _ _ _).mono ?_⟩
  rw [hd]
  rintro e w' ⟨rfl, rfl⟩
  gi_wp2
  clear hmk hd
  refine wpIn_loop (fun A W => ∃ (u5 u6 u7 u9 u20 u21 u22 u23 u24 u25 u26 u27 u28 u29 u30 u31 u32 u33 u34 u35 u36 u37 u38 u39 u40 u41 u42 u43 u44 u45 u46 u47 u48 : Value) (k : Nat) (out Ds : List Nat), A = { tmps := #[.slice a l0.length cap, undef, .pointer (some ⟨w.heap.size, 0, none⟩), .pointer (some ⟨w.heap.size + 1, 0, none⟩), .pointer (some ⟨w.heap.size + 1 + 1 + 1, 0, none⟩), u5, u6, u7, undef, u9, .slice a l0.length cap, .int .i64 l0.length, .bool true, .bool false, .slice a l0.length cap, .int .i64 l0.length, .slice (some ⟨w.heap.size + 1 + 1, 0, none⟩) l0.length l0.length, .slice a l0.length cap, .int .i64 l0.length, .int .i64 k, u20, u21, u22, u23, u24, u25, u26, u27, u28, u29, u30, u31, u32, u33, u34, u35, u36, u37, u38, u39, u40, u41, u42, u43, u44, u45, u46, u47, u48, undef, undef, undef, undef, undef, undef, undef, undef], defers := Ds.map mark } ∧ k ≤ l0.length ∧ out.length = k ∧ Low out ∧ SR w l0 k out Ds W ∧ Hid (starts (l0.map Node.kids) = startsL out ((l0.drop k).map Node.kids))) (fun A _ => l0.length - (intOf (A.tmps.getD 19 undef)).toNat) ?start ?round
  case start =>
    refine ⟨undef, undef, undef, undef, undef, undef, undef, undef, undef, undef, undef, undef, undef, undef, undef, undef, undef, undef, undef, undef, undef, undef, undef, undef, undef, undef, undef, undef, undef, undef, undef, undef, undef, 0, [], [], rfl, by omega, rfl, Low.nil, ?_, hid rfl⟩
    have e1 := Boxed.new w 36 (.slice none 0 0)
    have e2 := Boxed.new (w.alloc (.cells #[.slice none 0 0] 36)) 4 (.bool false)
    have e3 := own_made ((w.alloc (.cells #[.slice none 0 0] 36)).alloc (.cells #[.bool false] 4)) w.heap.size l0.length 3 (by simp; omega) (by unfold maxLen; omega)
    have e4 := Boxed.new (((w.alloc (.cells #[.slice none 0 0] 36)).alloc (.cells #[.bool false] 4)).alloc (.cells (madeCells #[.int .i64 0] l0.length) 3)) 36 (.slice (some ⟨w.heap.size + 1 + 1, 0, none⟩) l0.length l0.length)
    simp only [World.size_alloc] at e2 e3 e4
    exact ⟨by repeat (first | exact Below.refl _ _ | refine Below.alloc ?_ (by first | omega | (simp; done) | (simp; omega)) _ | refine Below.drew ?_), ((e1.alloc _).alloc _).alloc _, (e2.alloc _).alloc _, e4, (Filling.made e3).below ((Below.refl _ _).alloc (Nat.le_refl _) _) (Nat.le_refl _), Marks.nil _ _⟩
  intro A wr hinv
  obtain ⟨u5, u6, u7, u9, u20, u21, u22, u23, u24, u25, u26, u27, u28, u29, u30, u31, u32, u33, u34, u35, u36, u37, u38, u39, u40, u41, u42, u43, u44, u45, u46, u47, u48, k, out, Ds, rfl, hk, hol, hlow, hsr, hrel⟩ := hinv
  have hb := hsr.hb
  have hbs := hb.size
  have hNs := hsr.st.lt
  by_cases hlt : k < l0.length
  · obtain ⟨x, ka, kc, b, off, hx, rfl, c0, c1, c2, c3, c4, hkd⟩ := hsl.at (Below.refl w.heap.size w) (Nat.le_refl _) hlt
    have hmem := List.mem_of_getElem? hx
    have hxo := hx0 x hmem
    have hxs := Nat.le_trans (bulk_mem Node.sizes hmem) hs0
    unfold Node.sizes at hxs
    have lift : ∀ {q : Nat} {u : Value}, w.cell? ⟨b, q, none⟩ = some u → wr.cell? ⟨b, q, none⟩ = some u := fun {q u} h => (hb.cell (p := ⟨b, q, none⟩) (World.block_lt_of_cell? w _ h)).trans h
    replace c0 := lift c0
    replace c1 := lift c1
    replace c2 := lift c2
    replace c3 := lift c3
    replace c4 := lift c4
    clear lift
    rw [drop_cons hx, List.map_cons] at hrel
    have HR := hrel
    clear hx hrel hmem
    have hkin : IntsIn w.heap.size w (.slice ka x.kids.length kc) x.kids := by
      obtain ⟨_, a', cap', hv, _, _, hro⟩ := hkd
      simp at hv
      obtain ⟨rfl, rfl⟩ := hv
      refine ⟨_, _, rfl, ?_⟩
      rcases hro with h | ⟨kb, koff, rfl, hro⟩
      · exact .inl (List.eq_nil_of_length_eq_zero h)
      · by_cases hz : x.kids = []
        · exact .inl hz
        · have hat : ∀ j, j < x.kids.length → w.cell? ⟨kb, koff + j, none⟩ = some (.int .i64 (x.kids.getD j 0)) := fun j hj => hro.one int1_len (show x.kids[j]? = some (x.kids.getD j 0) by rw [List.getD_eq_getElem?_getD, List.getElem?_eq_getElem hj]; rfl) rfl
          exact .inr ⟨kb, koff, rfl, World.block_lt_of_cell? w _ (hat 0 (List.length_pos_iff.2 hz)), hat⟩
    have hkl : x.kids.length ≤ 1048576 := by omega
    replace hlow := hid hlow
    replace hin := hid hin
    clear hkd hxo
    gi_wp2_with fail
    refine ⟨trivial, (back_in Fence.wide _ trivial rfl _ _ _ _).mono ?_⟩
    rintro e w' ⟨rfl, rfl⟩
    have hsr0 := ((hsr.alloc (.cells #[.int .i64 x.kind, .int .i64 x.op, .string x.text, .string x.other, .slice ka x.kids.length kc] 71)).alloc (.cells #[.int .i64 ((k : Int) - 1)] 3)).alloc (.cells #[.slice ka x.kids.length kc] 36)
    have hat := (Boxed.new (wr.alloc (.cells #[.int .i64 x.kind, .int .i64 x.op, .string x.text, .string x.other, .slice ka x.kids.length kc] 71)) 3 (.int .i64 ((k : Int) - 1))).alloc (.cells #[.slice ka x.kids.length kc] 36)
    have hbk := Boxed.new ((wr.alloc (.cells #[.int .i64 x.kind, .int .i64 x.op, .string x.text, .string x.other, .slice ka x.kids.length kc] 71)).alloc (.cells #[.int .i64 ((k : Int) - 1)] 3)) 36 (.slice ka x.kids.length kc)
    simp only [World.size_alloc] at hat hbk
    gi_wp2
    have hsz : (((wr.alloc (.cells #[.int .i64 x.kind, .int .i64 x.op, .string x.text, .string x.other, .slice ka x.kids.length kc] 71)).alloc (.cells #[.int .i64 ((k : Int) - 1)] 3)).alloc (.cells #[.slice ka x.kids.length kc] 36)).heap.size = wr.heap.size + 3 := by simp
    generalize ((wr.alloc (.cells #[.int .i64 x.kind, .int .i64 x.op, .string x.text, .string x.other, .slice ka x.kids.length kc] 71)).alloc (.cells #[.int .i64 ((k : Int) - 1)] 3)).alloc (.cells #[.slice ka x.kids.length kc] 36) = W0 at hsr0 hat hbk hsz ⊢
    have hDs : ∀ D ∈ Ds, D < W0.heap.size := fun D hD => hsr0.mks.lt hD
    have hDw : ∀ D ∈ Ds, D < wr.heap.size := fun D hD => hsr.mks.lt hD
    replace hDs := hid hDs
    replace hDw := hid hDw
    replace hsz := hid hsz
    clear c0 c1 c2 c3 c4
    refine wpIn_rangeFunc_ownG (F := Fence.wide) rfl (by omega) (gf := 104) (lb := #[.pointer (some ⟨wr.heap.size + 1 + 1, 0, none⟩)]) rfl trivial (enters_of Try.func104 (by kernel_rfl) rfl)
      (back_stops Fence.wide _ trivial rfl (by omega) (wr.heap.size + 1 + 1) w.heap.size _ x.kids hkl W0 hbk.lt (by have := hsz.out; omega) hbk.cell (hkin.below hsr0.hb)) KeepB.trans (keepB_b (by have := hsz.out; omega) hbk.lt) (Below.refl _ _) (fun _ => rfl)
      (SI w l0 k out Ds (wr.heap.size + 1)) (SX w l0 k out Ds) (SI.own (by have := hsz.out; omega) hDs.out) (SX.own (by have := hsz.out; omega) hDs.out) ⟨hsr0, k, rfl, hat⟩
      (fun y => { tmps := #[.slice (some ⟨b, off, none⟩) l0.length cap, undef, .pointer (some ⟨w.heap.size, 0, none⟩), .pointer (some ⟨w.heap.size + 1, 0, none⟩), .pointer (some ⟨w.heap.size + 1 + 1 + 1, 0, none⟩), .int .i64 k, .pointer (some ⟨wr.heap.size, 0, none⟩), .pointer (some ⟨wr.heap.size + 1, 0, none⟩), undef, .int .i64 y.2, .slice (some ⟨b, off, none⟩) l0.length cap, .int .i64 l0.length, .bool true, .bool false, .slice (some ⟨b, off, none⟩) l0.length cap, .int .i64 l0.length, .slice (some ⟨w.heap.size + 1 + 1, 0, none⟩) l0.length l0.length, .slice (some ⟨b, off, none⟩) l0.length cap, .int .i64 l0.length, .int .i64 k, .bool true, .int .i64 k, .pointer (some ⟨b, off + k * 5, none⟩), .agg #[.int .i64 x.kind, .int .i64 x.op, .string x.text, .string x.other, .slice ka x.kids.length kc], .int .i64 k, .int .i64 ((k : Int) - 1), .pointer (some ⟨wr.heap.size, 4, none⟩), .slice ka x.kids.length kc, .func (.func 104) #[] #[.pointer (some ⟨wr.heap.size + 1 + 1, 0, none⟩)], .int .i64 (y.1 : Int), .int .i64 y.2, u31, u32, u33, u34, u35, u36, u37, u38, u39, u40, u41, u42, u43, u44, u45, u46, u47, u48, undef, undef, undef, undef, undef, undef, undef, undef], defers := [] }) ?assign ?body ?done ?stop
    case assign =>
      intro l y W K hK
      gi_wp2
      exact hK
    case body =>
      rintro l pre y W ⟨hsr1, a1, hst, hbox⟩ _
      have ha1 := stepK_le hlow.out _ _ _ hst
      have hns := hbox.lt
      have cst := hsr1.st.cell
      by_cases hbad : y.2 = (a1 : Int) - 1 ∧ 0 < a1
      · obtain ⟨a', rfl⟩ : ∃ a', a1 = a' + 1 := ⟨a1 - 1, by omega⟩
        have hy : y.2 = (a' : Int) := by omega
        have hst2 : Hid (stepK out ((pre ++ [y]).map Prod.snd) k = some (out.getD a' 0)) := hid (by rw [List.map_append, List.map_cons, List.map_nil, hy]; exact stepK_good out hst)
        have hbox2 : Boxed W (wr.heap.size + 1) 3 (.int .i64 (a' : Int)) := by have h3 := hbox; rw [show ((a' + 1 : Nat) : Int) - 1 = (a' : Int) by omega] at h3; exact h3
        have r0 := hsr1.fil.read (nat1_at (show a' < out.length by omega))
        have hle := hlow.out.getD a'
        have cat := hbox2.cell
        have fat := hbox2.frozen
        have hla : a' < l0.length := by omega
        have hkbb : Hid (KeepB w.heap.size (wr.heap.size + 1 + 1) W (W.setCell ⟨wr.heap.size + 1, 0, none⟩ (.int .i64 ((out.getD a' 0 : Nat) - 1 : Int)))) := hid ⟨(Below.refl _ _).setCell (p := ⟨wr.heap.size + 1, 0, none⟩) (show w.heap.size ≤ wr.heap.size + 1 by omega) _, heap_setCell_other W ⟨wr.heap.size + 1, 0, none⟩ _ _ (by show wr.heap.size + 1 + 1 ≠ wr.heap.size + 1; omega)⟩
        generalize out.getD a' 0 = a2 at r0 hle hst2 hkbb
        obtain ⟨y1, y2⟩ := y
        simp only at hy
        subst hy
        clear hbad
        replace hsr1 := hid hsr1
        replace hbox2 := hid hbox2
        clear hst hbox
        gi_wp2
        exact ⟨(KeepsOthers.setCell _ _ _).from _, hkbb.out, hsr1.out.box hbox2.out (by omega) _, a2, hst2.out, hbox2.out.set _⟩
      · have hst2 : Hid (stepK out ((pre ++ [y]).map Prod.snd) k = none) := hid (by rw [List.map_append, List.map_cons, List.map_nil]; exact stepK_bad out hst (by omega))
        obtain ⟨z, hz⟩ : ∃ z, z = (a1 : Int) - 1 := ⟨_, rfl⟩
        rw [← hz] at hbox
        have cat := hbox.cell
        have hz1 : -1 ≤ z := by omega
        have hz2 : z ≤ 1048576 := by omega
        obtain ⟨y1, y2⟩ := y
        have hne : z < 0 ∨ ¬ y2 = z := by simp only at hbad; omega
        clear hbad hst
        have f0 := hsr1.r0.frozen
        have f1 := hsr1.r1.frozen
        have k0 := hsr1.r0.cell
        have k1 := hsr1.r1.cell
        have hres := hid hsr1.res
        replace hz := hid hz
        by_cases hz0 : z < 0
        · clear hne
          replace hsr1 := hid hsr1
          gi_wp2
          all_goals exact ⟨((KeepsOthers.setCell _ _ _).from _).trans ((KeepsOthers.setCell _ _ _).from _), rfl, hst2.out, hres.out⟩
        · have hne2 : (y2 == z) = false := by simp; omega
          have hne3 : (y2 != z) = true := by simp; omega
          clear hne
          replace hsr1 := hid hsr1
          gi_wp2
          all_goals exact ⟨((KeepsOthers.setCell _ _ _).from _).trans ((KeepsOthers.setCell _ _ _).from _), rfl, hst2.out, hres.out⟩
    case done =>
      rintro D ys W hD rfl ⟨hsr1, a1, hst, hbox⟩ hK
      rw [back_all] at hst
      have ha1 := stepK_le hlow.out _ _ _ hst
      have hns := hbox.lt
      have cst := hsr1.st.cell
      have hR2 := hid (HR.out.trans (startsL_go (l := (l0.drop (k + 1)).map Node.kids) (by rw [hol]; exact hst)))
      obtain ⟨z, hz⟩ : ∃ z, z = (a1 : Int) - 1 := ⟨_, rfl⟩
      rw [← hz] at hbox
      have cat := hbox.cell
      have hz1 : -1 ≤ z := by omega
      have hz2 : z ≤ 1048576 := by omega
      have hzz : z + 1 = (a1 : Int) := by omega
      obtain ⟨⟨u0, s0⟩, s1⟩ := hsr1.fil.cell k (by omega)
      have hput := hsr1.put (show out.length < l0.length by omega) a1
      have hheld : (W.setCell ⟨w.heap.size + 1 + 1, out.length, none⟩ (.int .i64 a1)).heap[D]? = some (.deferred (some [])) := (heap_setCell_other W ⟨w.heap.size + 1 + 1, out.length, none⟩ D _ (by show D ≠ w.heap.size + 1 + 1; have := hsz.out; omega)).trans hK
      have hnext : Hid (SR w l0 (k + 1) (out ++ [a1]) (D :: Ds) (W.setCell ⟨w.heap.size + 1 + 1, out.length, none⟩ (.int .i64 a1))) := hid { hput with mks := hput.mks.cons (by have := hsz.out; omega) (fun h => by have := hDs.out D h; omega) hheld }
      have hlow2 := hid (hlow.out.snoc (show a1 ≤ out.length by omega))
      rw [hol] at hnext
      replace hol := hid hol
      replace hsr1 := hid hsr1
      replace hK := hid hK
      replace hz := hid hz
      clear hput hheld hst
      gi_wp2
      refine ⟨⟨_, _, _, _, _, _, _, _, _, _, _, _, _, _, _, _, _, _, _, _, _, _, _, _, _, _, _, _, _, _, _, _, _, k + 1, out ++ [a1], D :: Ds, rfl, by omega, by have := hol.out; simp; omega, hlow2.out, hnext.out, hR2⟩, ?_⟩
      simp [intOf]
      omega
    case stop =>
      rintro D c pre W hD ⟨j, hj, rfl⟩ ⟨rfl, hst, hsr1⟩ hK
      rw [back_take _ _ hj] at hst
      have hR2 := hid (HR.out.trans (startsL_no (l := (l0.drop (k + 1)).map Node.kids) (by rw [hol]; exact stepK_take out _ _ _ hst)))
      gi_wp2
      refine leaves_marks (B := w.heap.size + 4) (D :: Ds) W (hsr1.mks.cons (by have := hsz.out; omega) (fun h => by have := hDs.out D h; omega) hK) fun W' hs => ⟨.tuple #[.slice none 0 0, .bool false], ?_, ?_⟩
      · have d1 := (hs.boxed hsr1.r0).cell
        have d2 := (hs.boxed hsr1.r1).cell
        simp [results, Try.results94, go_sem, d1, d2]
      · exact ⟨hsr1.hb.trans (hs.1.mono (by omega)), .slice none 0 0, by unfold startsLast; rw [hR2.out]; simp, fun s hs' => by rw [hR2.out] at hs'; cases hs'⟩
  · obtain rfl : k = l0.length := by omega
    have hR2 : Hid (starts (l0.map Node.kids) = some out) := hid (by rw [hrel.out, List.drop_of_length_le (Nat.le_refl _)]; rfl)
    have hown := hsr.fil.done (by rw [flat_len nat1 1 nat1_len, hol])
    have r0 := own_read hown (nat1_at (show l0.length - 1 < out.length by omega))
    have cst := hsr.st.cell
    have f0 := hsr.r0.frozen
    have f1 := hsr.r1.frozen
    have k0 := hsr.r0.cell
    have k1 := hsr.r1.cell
    obtain ⟨n', hn'⟩ : ∃ n', n' = l0.length - 1 := ⟨_, rfl⟩
    rw [← hn'] at r0
    generalize hval : out.getD n' 0 = val at r0
    replace hval := hid hval
    have hv : (l0.length : Int) - 1 = (n' : Int) := by omega
    have hi1 : (n' : Int) < (l0.length : Int) := by omega
    have hi2 : n' < l0.length := by omega
    replace hn' := hid hn'
    replace hol := hid hol
    replace hin := hid hin
    replace hsr := hid hsr
    replace hown := hid hown
    clear hlt hrel
    gi_wp2
    gi_region
    gi_wp2
    have hsr := hsr.out
    have hown := hown.out
    have hol := hol.out
    have g0 := hsr.r0.set (.slice (some ⟨w.heap.size + 1 + 1, 0, none⟩) l0.length l0.length)
    have g1 := hsr.r1.other (show w.heap.size + 1 ≠ w.heap.size by omega) (.slice (some ⟨w.heap.size + 1 + 1, 0, none⟩) l0.length l0.length)
    have m1 := (hsr.mks.set hsr.r0 0 (.slice (some ⟨w.heap.size + 1 + 1, 0, none⟩) l0.length l0.length)).set g1 0 (.bool ((val : Int) == 0))
    have b1 := (hsr.hb.setCell (p := ⟨w.heap.size, 0, none⟩) (Nat.le_refl _) (.slice (some ⟨w.heap.size + 1 + 1, 0, none⟩) l0.length l0.length)).setCell (p := ⟨w.heap.size + 1, 0, none⟩) (show w.heap.size ≤ w.heap.size + 1 by omega) (.bool ((val : Int) == 0))
    have o1 := (hown.kept (grown_set wr w.heap.size 0 (.slice (some ⟨w.heap.size + 1 + 1, 0, none⟩) l0.length l0.length)) (.inr (by simp [Value.ownBlock] <;> omega))).kept (grown_set _ (w.heap.size + 1) 0 (.bool ((val : Int) == 0))) (.inr (by simp [Value.ownBlock] <;> omega))
    have q0 := g0.other (show w.heap.size ≠ w.heap.size + 1 by omega) (.bool ((val : Int) == 0))
    have q1 := g1.set (.bool ((val : Int) == 0))
    refine leaves_marks (B := w.heap.size + 4) Ds _ ⟨m1.nodup, m1.held⟩ fun W' hs => ⟨.tuple #[.slice (some ⟨w.heap.size + 1 + 1, 0, none⟩) l0.length l0.length, .bool ((val : Int) == 0)], ?_, ?_⟩
    · have d1 := (hs.boxed (show Boxed (World.drew _) _ _ _ from q0)).cell
      have d2 := (hs.boxed (show Boxed (World.drew _) _ _ _ from q1)).cell
      simp [results, Try.results94, go_sem, d1, d2]
    · refine ⟨b1.drew.trans (hs.1.mono (by omega)), .slice (some ⟨w.heap.size + 1 + 1, 0, none⟩) l0.length l0.length, ?_, fun s hs' _ _ => ?_⟩
      · refine tup_bool ?_
        unfold startsLast
        rw [hR2.out, hin2.out, Bool.true_and, List.length_map, ← hn'.out]
        show ((val : Int) == 0) = (out.getD n' 0 == 0)
        rw [hval.out, Bool.eq_iff_iff]; simp
      · have he : s = out := by rw [hR2.out] at hs'; simpa using hs'.symm
        subst he
        rw [hol]
        exact hs.own (show (World.drew _).ownsRow _ _ _ _ _ _ from o1)

set_option maxRecDepth 100000 in
set_option maxHeartbeats 1600000 in
theorem implstartsOf_any (l0 : List Node) (v0 : Value) (w : World) (hx0 : ∀ x ∈ l0, x.Ok) (hs0 : bulk Node.sizes l0 ≤ 1048576) (hv0 : NodeSlc w v0 l0) :
    Calls Try.prog 94 #[v0] w fun e w' => ImplStartsPost w 400 (l0.map Node.kids) e w' := by
  have hn0 : l0.length ≤ 1048576 := Nat.le_trans (length_bulk Node.sizes l0) hs0
  by_cases hin : 1 ≤ l0.length ∧ l0.length ≤ 400
  · exact callsIn_wide.1 (implstartsOf_in l0 v0 w hn0 hx0 hs0 hv0 hin)
  obtain ⟨a, cap, rfl, hm, hc, hsl⟩ := hv0.shape
  have hd : decide ((1 : Int) ≤ (l0.length : Int) ∧ (l0.length : Int) ≤ 400) = false := by simp; omega
  have hin2 : decide (1 ≤ (l0.map Node.kids).length ∧ (l0.map Node.kids).length ≤ 400) = false := by simp; omega
  replace hin2 := hid hin2
  replace hin := hid hin
  refine callsIn_wide (n := 6).1 ?_
  refine callsIn_of_wp_marks Try.func94 rfl trivial ?_ rfl
  simp only [Try.ntmps94, List.size_toArray, List.length_cons, List.length_nil, Nat.reduceAdd, Nat.reduceSub, Array.replicate_succ, Array.replicate_zero, List.push_toArray, List.append_toArray, List.nil_append, List.cons_append]
  gi_wp2_with fail
  refine ⟨trivial, (implwithin_in Fence.wide _ trivial rfl _ _ _ _).mono ?_⟩
  rw [hd]
  rintro e w' ⟨rfl, rfl⟩
  clear hd
  gi_wp2
  have e1 := Boxed.new w 36 (.slice none 0 0)
  have e2 := Boxed.new (w.alloc (.cells #[.slice none 0 0] 36)) 4 (.bool false)
  have e1' := e1.alloc (.cells #[.bool false] 4)
  simp only [World.size_alloc] at e2
  refine leaves_marks (B := w.heap.size + 4) [] _ (Marks.nil _ _) fun W' hs => ⟨.tuple #[.slice none 0 0, .bool false], ?_, ?_⟩
  · have d1 := (hs.boxed e1').cell
    have d2 := (hs.boxed e2).cell
    simp [results, Try.results94, go_sem, d1, d2]
  · refine ⟨(((Below.refl w.heap.size w).alloc (Nat.le_refl _) _).alloc (by simp) _).trans (hs.1.mono (by omega)), .slice none 0 0, ?_, fun s _ h1 h2 => ?_⟩
    · rw [hin2.out, Bool.false_and]
    · rw [List.length_map] at h1 h2; exact absurd ⟨h1, h2⟩ hin.out

end Go.Proofs.Ytagoeiegdlnalaa
