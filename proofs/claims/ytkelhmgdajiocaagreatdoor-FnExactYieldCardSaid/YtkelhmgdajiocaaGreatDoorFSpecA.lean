/- Walks and lemmas of this seat (FSpecA): what each theorem says of the functions that it names. Conditions: those that each theorem states. -/
import Derived.Test.YtkelhmgdajiocaaGreatDoorFTokApp
import Derived.Test.YtkelhmgdajiocaaGreatDoorGSP
import Derived.Deep.RegionHeld3
import Derived.Deep.RegionLaw
namespace Go.Proofs.YtkelhmgdajiocaaGreatDoor
set_option linter.unusedVariables false
set_option linter.unusedSimpArgs false
open Go.RowKit

/-! The reference's writer of tokens: its small parts. -/
def SNodeC (w0 : World) (l0 : List Node) (a0 : Option Addr) (cap : Nat) (full : Bool) (i : Nat) : Prop := ∀ (p : Pos) (W : World), posOkB p = true → Below w0.heap.size w0 W →
  Calls Tryz.prog 77 #[.agg #[.slice a0 l0.length cap, .bool full], .int .i64 (i : Nat), .agg #[.int .i64 p.level, .bool p.dollar, .bool p.noIn, .bool p.noGt, .bool p.noSign]] W fun e w' => TokPost W ((treeIx l0 i).tkb full p) e w'
def SAtC (w0 : World) (l0 : List Node) (a0 : Option Addr) (cap : Nat) (full : Bool) (i : Nat) : Prop := ∀ (p : Pos) (W : World), posOkB p = true → Below w0.heap.size w0 W →
  Calls Tryz.prog 55 #[.agg #[.slice a0 l0.length cap, .bool full], .int .i64 (i : Nat), .agg #[.int .i64 p.level, .bool p.dollar, .bool p.noIn, .bool p.noGt, .bool p.noSign]] W fun e w' => TokPost W ((treeIx l0 i).tks full p) e w'
theorem own_box_ne {w : World} {B b s n : Nat} {T U : TypeId} {v : Value} {xs : List Value} {c : Array Value} {k : Nat × Nat} (h : w.ownsRow B T s v n xs) (hb : w.heap[b]? = some (.cells c U k)) (hne : T ≠ U) : some b ≠ v.ownBlock := by
  intro e
  rcases h.2 with ⟨rfl, _⟩ | ⟨g, cap, cur, rfl, _, hgg, _⟩
  · cases e
  · have : b = g := Option.some.inj e
    subst this
    rw [hgg] at hb
    injection hb with e1
    injection e1 with _ e2 _
    exact hne e2
theorem own_low_ne {w : World} {B b s n : Nat} {T : TypeId} {v : Value} {xs : List Value} (h : w.ownsRow B T s v n xs) (hb : b < B) : some b ≠ v.ownBlock := fun e => by have := (h.lt b e.symm).1; omega
theorem cell_heap {w w' : World} {b o : Nat} (h : w'.heap[b]? = w.heap[b]?) : w'.cell? ⟨b, o, none⟩ = w.cell? ⟨b, o, none⟩ := World.cell?_of_block (a := ⟨b, o, none⟩) h
theorem leafTok_at (k : Int) (a : ByteArray) : (leafTok k a).at_ = 0 := by
  unfold leafTok
  repeat' split
  all_goals rfl
set_option maxRecDepth 100000 in
theorem specl10Leaf_any (k o : Int) (a b : ByteArray) (ka : Option Addr) (kn kc : Nat) (w : World) :
    Calls Tryz.prog 58 #[.agg #[.int .i64 k, .int .i64 o, .string a, .string b, .slice ka kn kc]] w fun e w' => e = .returned (.agg #[.int .i64 (leafTok k a).kind, .string (leafTok k a).text, .int .i64 0]) ∧ Below w.heap.size w w' := by
  have e1 : (leafTok k a).kind = if (k == 1) = true then 6 else if (k == 2) = true then 3 else if (k == 3) = true then 4 else if (k == 4) = true then 5 else 0 := by
    simp only [beq_iff_eq]
    unfold leafTok
    by_cases h1 : k = 1
    · rw [if_pos h1, if_pos h1]
    by_cases h2 : k = 2
    · rw [if_neg h1, if_neg h1, if_pos h2, if_pos h2]
    by_cases h3 : k = 3
    · rw [if_neg h1, if_neg h1, if_neg h2, if_neg h2, if_pos h3, if_pos h3]
    by_cases h4 : k = 4
    · rw [if_neg h1, if_neg h1, if_neg h2, if_neg h2, if_neg h3, if_neg h3, if_pos h4, if_pos h4]
    · rw [if_neg h1, if_neg h1, if_neg h2, if_neg h2, if_neg h3, if_neg h3, if_neg h4, if_neg h4]
  have e2 : (leafTok k a).text = if (k == 1) = true then a else if (k == 2) = true then a else if (k == 3) = true then a else if (k == 4) = true then a else ⟨#[]⟩ := by
    simp only [beq_iff_eq]
    unfold leafTok
    by_cases h1 : k = 1
    · rw [if_pos h1, if_pos h1]
    by_cases h2 : k = 2
    · rw [if_neg h1, if_neg h1, if_pos h2, if_pos h2]
    by_cases h3 : k = 3
    · rw [if_neg h1, if_neg h1, if_neg h2, if_neg h2, if_pos h3, if_pos h3]
    by_cases h4 : k = 4
    · rw [if_neg h1, if_neg h1, if_neg h2, if_neg h2, if_neg h3, if_neg h3, if_pos h4, if_pos h4]
    · rw [if_neg h1, if_neg h1, if_neg h2, if_neg h2, if_neg h3, if_neg h3, if_neg h4, if_neg h4]; rfl
  generalize (leafTok k a).kind = tk at *
  generalize (leafTok k a).text = tt at *
  replace e1 := hid e1
  replace e2 := hid e2
  go_enter Tryz.func58, Tryz.ntmps58
  go_wp2
  all_goals exact bodyPost_ret (v := .agg #[.int .i64 tk, .string tt, .int .i64 0]) (by rw [e1.out, e2.out]; simp [results, Tryz.results58, go_sem, *]) rfl ⟨rfl, by repeat (first | exact Below.refl _ _ | refine Below.alloc ?_ (by first | omega | (simp; done) | (simp; omega)) _ | refine Below.drew ?_)⟩
theorem specl10Lvalue_any {w0 : World} {l0 : List Node} {a0 : Option Addr} {cap : Nat} {full : Bool} {i : Nat} (h : SNodeC w0 l0 a0 cap full i) (W : World) (hb : Below w0.heap.size w0 W) :
    Calls Tryz.prog 102 #[.agg #[.slice a0 l0.length cap, .bool full], .int .i64 (i : Nat)] W fun e w' => TokPost W ((treeIx l0 i).tkb full posLv) e w' := by
  have h1 := hid (h posLv (W.alloc (.cells #[.slice a0 l0.length cap, .bool full] 80)) posOk_lv (hb.alloc hb.size _))
  go_enter Tryz.func102, Tryz.ntmps102
  go_wp2_with fail
  refine h1.out.mono ?_; rintro e w' ⟨v, rfl, hT⟩
  have hT2 := hid (hT.elder ((Below.refl W.heap.size W).alloc (Nat.le_refl _) _))
  obtain ⟨va, vc, rfl, _⟩ := hT.shape
  clear hT
  go_wp2
  go_ret
  exact ⟨_, rfl, hT2.out⟩
set_option maxRecDepth 100000 in
set_option maxHeartbeats 3200000 in
theorem specl10List_any {w0 : World} {l0 : List Node} {a0 : Option Addr} {cap : Nat} {full : Bool} (ks : List Int) (ka : Option Addr) (kc : Nat) (hks : ∀ k ∈ ks, 0 ≤ k ∧ SAtC w0 l0 a0 cap full k.toNat ∧ ((treeIx l0 k.toNat).tks full posTop).length ≤ 10000 ∧ (treeIx l0 k.toNat).tks full posTop ≠ []) (hn : ks.length ≤ 10) (W : World) (hb : Below w0.heap.size w0 W) (hk : Slc W (.slice ka ks.length kc) 1 ks.length (ks.flatMap int1)) :
    Calls Tryz.prog 104 #[.agg #[.slice a0 l0.length cap, .bool full], .slice ka ks.length kc] W fun e w' => TokPost W (commas (ks.map fun k => (treeIx l0 k.toNat).tks full posTop)) e w' := by
  obtain ⟨_, ka', kc', he, hc, hm, hrow⟩ := hk
  injection he with e1 _ e3
  subst e1; subst e3
  unfold maxLen at hm
  have hT0 := TokAt.lit (w := W) (wr := W.alloc (.cells #[.slice a0 l0.length cap, .bool full] 80)) ((Below.refl W.heap.size W).alloc (Nat.le_refl _) _) [] (by simp) #[] rfl
  go_enter Tryz.func104, Tryz.ntmps104
  go_wp2
  go_loopw [5, 6] (fun v i wr => ∃ (k : Nat) (vv : Value), vv = v ∧ i = .int .i64 k ∧ k ≤ ks.length ∧ Hid (TokAt W wr vv (commas ((ks.map fun k => (treeIx l0 k.toNat).tks full posTop).take k))) ∧ Hid (wr.heap[W.heap.size]? = some (.cells #[.slice a0 l0.length cap, .bool full] 80 (0, 0)))) (fun _ i _ => ks.length - (intOf i).toNat)
  case atStart => exact ⟨0, _, rfl, rfl, by omega, hid (by simpa [commas] using hT0), hid ((Below.heap_alloc _ _ _ (by simp)).trans (heap_alloc_new W _))⟩
  clear hT0
  obtain ⟨k, vv, rfl, rfl, hk, hT, hbw⟩ := hrel
  have hbs := hT.out.hb.size
  by_cases hlt : k < ks.length
  · obtain ⟨kid, hkid⟩ := get_of_lt hlt
    obtain ⟨b, off, rfl, hro⟩ := slc_some hrow (by omega)
    have c0 := (hro.mono hT.out.hb (Nat.le_refl _)).one int1_len hkid rfl
    obtain ⟨hk0, hat, htl, htn⟩ := hks kid (List.mem_of_getElem? hkid)
    obtain ⟨i, rfl⟩ : ∃ i : Nat, kid = (i : Int) := ⟨kid.toNat, by omega⟩
    have hix : (((i : Nat) : Int)).toNat = i := by simp
    rw [hix] at hat htl htn
    have hat' := hid (show ∀ W', Below w0.heap.size w0 W' → Calls Tryz.prog 55 #[.agg #[.slice a0 l0.length cap, .bool full], .int .i64 (i : Nat), posTop.val] W' fun e w' => TokPost W' ((treeIx l0 i).tks full posTop) e w' from fun W' hW => hat posTop W' posOk_top hW)
    have hnx := hid (commas_take (ks := ks.map fun k => (treeIx l0 k.toNat).tks full posTop) (j := k) (x := (treeIx l0 i).tks full posTop) (by rw [List.getElem?_map, hkid]; simp))
    have hlx : Hid ((commas ((ks.map fun k => (treeIx l0 k.toNat).tks full posTop).take k)).length ≤ 200000) := hid (by
      have h1 := commas_len ((ks.map fun k => (treeIx l0 k.toNat).tks full posTop).take k)
      have h2 : ∀ (l : List Int), (∀ x ∈ l, ((treeIx l0 x.toNat).tks full posTop).length ≤ 10000) → sumLen (l.map fun k => (treeIx l0 k.toNat).tks full posTop) ≤ 10000 * l.length := by
        intro l
        induction l with
        | nil => intro _; simp [sumLen]
        | cons x l ih =>
          intro h
          have h3 := ih fun y hy => h y (by simp [hy])
          have h4 := h x (by simp)
          rw [List.map_cons, sumLen_cons, List.length_cons]
          omega
      rw [← List.map_take] at h1 ⊢
      have h3 := h2 (ks.take k) fun x hx => (hks x (List.mem_of_mem_take hx)).2.2.1
      rw [List.length_map, List.length_take, Nat.min_eq_left hk] at h1
      rw [List.length_take, Nat.min_eq_left hk] at h3
      omega)
    have hki : (k : Int) < (ks.length : Int) := by omega
    have hbl : b < W.heap.size := World.block_lt_of_cell? W _ (hro.one int1_len hkid rfl)
    have hb0 := hid hb
    generalize commas ((ks.map fun k => (treeIx l0 k.toNat).tks full posTop).take k) = A at *
    generalize (treeIx l0 i).tks full posTop = R at *
    replace htn := hid htn
    have hRl : 0 < R.length := by cases R with | nil => exact absurd rfl htn.out | cons x l => simp
    clear hks hrow hro hkid hat hb hix
    by_cases hk0' : 0 < k
    · rw [if_pos hk0'] at hnx
      have hk1 : (0 : Int) < (k : Int) := by omega
      go_wp2_with fail
      refine (specl10Tok_any 36 wr).mono ?_; rintro e w1 ⟨rfl, hb1⟩
      have hT1 := hid (hT.out.below hb1)
      have hbw1 := hid ((hb1.block _ (heap_lt hbw.out)).trans hbw.out)
      have hlit := hid (TokAt.lit1 (w := W) hT1.out.hb 36 (spellB 36))
      have hTo := hid (hT1.out.alloc (.cells #[.int .i64 36, .string (spellB 36), .int .i64 0] 50))
      have c1 := (hb1.cell (p := ⟨b, off + k, none⟩) (by show b < wr.heap.size; omega)).trans c0
      have hn3 := hid (own_box_ne hT1.out.own hbw1.out (by decide))
      have hn4 := hid (own_low_ne hT1.out.own hbl)
      have hbs1 : W.heap.size ≤ w1.heap.size := hT1.out.hb.size
      clear hT c0
      go_wp2_with (at_builtin; refine wpList_append_tok (w := W) (by rfl) _ _ (by rfl) vv _ A [⟨36, spellB 36, 0⟩] (by rfl) (by rfl) hTo.out hlit.out (by simp) (by have := hlx.out; simp; omega) ?_; intro vq wq hT2 hfr0)
      have hT := hid hT2
      have hbw : Hid (wq.heap[W.heap.size]? = some (.cells #[.slice a0 l0.length cap, .bool full] 80 (0, 0))) := hid ((hfr0 _ (by have := heap_lt hbw1.out; simp; omega) hn3.out).trans ((Below.heap_alloc _ _ _ (heap_lt hbw1.out)).trans hbw1.out))
      have c0 : wq.cell? ⟨b, off + k, none⟩ = some (.int .i64 (i : Nat)) := (cell_heap (hfr0 _ (by simp; omega) hn4.out)).trans ((cell_heap (Below.heap_alloc _ _ _ (by omega))).trans c1)
      clear hT2 hfr0 hn3 hn4 hbw1 hlit hTo hT1 hb1 c1
      have u0 : wq.cell? ⟨W.heap.size, 0, none⟩ = some (.slice a0 l0.length cap) := box_cell hbw.out rfl
      have u1 : wq.cell? ⟨W.heap.size, 1, none⟩ = some (.bool full) := box_cell hbw.out rfl
      have hbwl := heap_lt hbw.out
      have hblq : b < wq.heap.size := by have := hT.out.hb.size; omega
      have hC := hid (show ∀ W', Below wq.heap.size wq W' → W'.cell? ⟨W.heap.size, 0, none⟩ = some (.slice a0 l0.length cap) ∧ W'.cell? ⟨W.heap.size, 1, none⟩ = some (.bool full) ∧ W'.cell? ⟨b, off + k, none⟩ = some (.int .i64 (i : Nat)) from fun W' hW => ⟨(hW.cell (p := ⟨W.heap.size, 0, none⟩) hbwl).trans u0, (hW.cell (p := ⟨W.heap.size, 1, none⟩) hbwl).trans u1, (hW.cell (p := ⟨b, off + k, none⟩) hblq).trans c0⟩)
      have hn1 := hid (own_box_ne hT.out.own hbw.out (by decide))
      have hn2 := hid (own_low_ne hT.out.own hbl)
      have hC2 := hid (show ∀ wa w2 : World, Below wq.heap.size wq wa → (∀ b, b < wa.heap.size → some b ≠ vq.ownBlock → w2.heap[b]? = wa.heap[b]?) → (w2.cell? ⟨W.heap.size, 0, none⟩ = some (.slice a0 l0.length cap) ∧ w2.cell? ⟨W.heap.size, 1, none⟩ = some (.bool full) ∧ w2.cell? ⟨b, off + k, none⟩ = some (.int .i64 (i : Nat))) from fun wa w2 hW hfr => by
        obtain ⟨z0, z1, z2⟩ := hC.out wa hW
        have hs := hW.size
        exact ⟨(cell_heap (hfr _ (by omega) hn1.out)).trans z0, (cell_heap (hfr _ (by omega) hn1.out)).trans z1, (cell_heap (hfr _ (by omega) hn2.out)).trans z2⟩)
      go_wp2_with fail
      go_region_held3 (fun W' => W'.cell? ⟨W.heap.size, 0, none⟩ = some (.slice a0 l0.length cap) ∧ W'.cell? ⟨W.heap.size, 1, none⟩ = some (.bool full) ∧ W'.cell? ⟨b, off + k, none⟩ = some (.int .i64 (i : Nat)))
        (first
          | exact hC.out _ ((Below.refl _ _).drew)
          | exact hC.out _ hbt
          | exact hC.out _ hba
          | exact hC2.out _ _ hba hfr)
        (first
          | (go_at_call 56; refine (specTop_any _).mono ?_; rintro e wt ⟨rfl, hbt0⟩; have hbt : Below wq.heap.size wq wt := ((Below.refl wq.heap.size wq).drew).trans (hbt0.mono (Nat.le_refl _)); clear hbt0)
          | (go_at_call 55; refine (hat'.out _ (hb0.out.trans ((hT.out.hb.trans (hbt.mono hT.out.hb.size)).mono hb0.out.size))).mono ?_; rintro e wa ⟨va, rfl, hTa⟩; have hba : Below wq.heap.size wq wa := hbt.trans (hTa.hb.mono hbt.size))
          | (refine step_append_tok (w := W) (by rfl) _ _ (by rfl) vq va (A ++ [⟨36, spellB 36, 0⟩]) R (by rfl) (by rfl) (hT.out.below hba) hTa (by have := hlx.out; simp; omega) ?_; intro v2 w2 hT2 hfr))
      all_goals go_wp2
      all_goals go_roundw
      all_goals first
        | (simp [intOf]; omega)
        | exact ⟨k + 1, v2, rfl, by go_num, by omega, hid (by rw [hnx.out]; simpa [sgn] using hT2), hid ((hfr _ (by have := hba.size; omega) hn1.out).trans ((hba.block _ hbwl).trans hbw.out))⟩
    · rw [if_neg hk0'] at hnx
      have hk1 : ¬ (0 : Int) < (k : Int) := by omega
      have u0 : wr.cell? ⟨W.heap.size, 0, none⟩ = some (.slice a0 l0.length cap) := box_cell hbw.out rfl
      have u1 : wr.cell? ⟨W.heap.size, 1, none⟩ = some (.bool full) := box_cell hbw.out rfl
      have hbwl := heap_lt hbw.out
      have hblq : b < wr.heap.size := by have := hT.out.hb.size; omega
      have hC := hid (show ∀ W', Below wr.heap.size wr W' → W'.cell? ⟨W.heap.size, 0, none⟩ = some (.slice a0 l0.length cap) ∧ W'.cell? ⟨W.heap.size, 1, none⟩ = some (.bool full) ∧ W'.cell? ⟨b, off + k, none⟩ = some (.int .i64 (i : Nat)) from fun W' hW => ⟨(hW.cell (p := ⟨W.heap.size, 0, none⟩) hbwl).trans u0, (hW.cell (p := ⟨W.heap.size, 1, none⟩) hbwl).trans u1, (hW.cell (p := ⟨b, off + k, none⟩) hblq).trans c0⟩)
      have hn1 := hid (own_box_ne hT.out.own hbw.out (by decide))
      have hn2 := hid (own_low_ne hT.out.own hbl)
      have hC2 := hid (show ∀ wa w2 : World, Below wr.heap.size wr wa → (∀ b, b < wa.heap.size → some b ≠ vv.ownBlock → w2.heap[b]? = wa.heap[b]?) → (w2.cell? ⟨W.heap.size, 0, none⟩ = some (.slice a0 l0.length cap) ∧ w2.cell? ⟨W.heap.size, 1, none⟩ = some (.bool full) ∧ w2.cell? ⟨b, off + k, none⟩ = some (.int .i64 (i : Nat))) from fun wa w2 hW hfr => by
        obtain ⟨z0, z1, z2⟩ := hC.out wa hW
        have hs := hW.size
        exact ⟨(cell_heap (hfr _ (by omega) hn1.out)).trans z0, (cell_heap (hfr _ (by omega) hn1.out)).trans z1, (cell_heap (hfr _ (by omega) hn2.out)).trans z2⟩)
      go_wp2_with fail
      go_region_held3 (fun W' => W'.cell? ⟨W.heap.size, 0, none⟩ = some (.slice a0 l0.length cap) ∧ W'.cell? ⟨W.heap.size, 1, none⟩ = some (.bool full) ∧ W'.cell? ⟨b, off + k, none⟩ = some (.int .i64 (i : Nat)))
        (first
          | exact hC.out _ ((Below.refl _ _).drew)
          | exact hC.out _ hbt
          | exact hC.out _ hba
          | exact hC2.out _ _ hba hfr)
        (first
          | (go_at_call 56; refine (specTop_any _).mono ?_; rintro e wt ⟨rfl, hbt0⟩; have hbt : Below wr.heap.size wr wt := ((Below.refl wr.heap.size wr).drew).trans (hbt0.mono (Nat.le_refl _)); clear hbt0)
          | (go_at_call 55; refine (hat'.out _ (hb0.out.trans ((hT.out.hb.trans (hbt.mono hT.out.hb.size)).mono hb0.out.size))).mono ?_; rintro e wa ⟨va, rfl, hTa⟩; have hba : Below wr.heap.size wr wa := hbt.trans (hTa.hb.mono hbt.size))
          | (refine step_append_tok (w := W) (by rfl) _ _ (by rfl) vv va A R (by rfl) (by rfl) (hT.out.below hba) hTa (by have := hlx.out; omega) ?_; intro v2 w2 hT2 hfr))
      all_goals go_wp2
      all_goals go_roundw
      all_goals first
        | (simp [intOf]; omega)
        | exact ⟨k + 1, v2, rfl, by go_num, by omega, hid (by rw [hnx.out]; simpa [sgn] using hT2), hid ((hfr _ (by have := hba.size; omega) hn1.out).trans ((hba.block _ hbwl).trans hbw.out))⟩
  · obtain rfl : k = ks.length := by omega
    rw [List.take_of_length_le (by simp)] at hT
    obtain ⟨va, vc, rfl, _⟩ := hT.out.shape
    clear hks
    go_wp2
    go_ret
    exact ⟨_, rfl, hT.out⟩
end Go.Proofs.YtkelhmgdajiocaaGreatDoor
