/- Walks and lemmas of this seat (LFnRename): what each theorem says of the functions that it names. Conditions: those that each theorem states. -/
import Derived.Test.YtgmciglaapnahaaGreatDoorGBD
import Derived.Test.YtgmciglaapnahaaGreatDoorGRW
import Derived.Test.YtgmciglaapnahaaGreatDoorFRenM
import Derived.Test.YtgmciglaapnahaaGreatDoorFRenS
import Derived.Test.YtgmciglaapnahaaGreatDoorGSM
import Derived.Test.YtgmciglaapnahaaGreatDoorFHasText
import Derived.Test.YtgmciglaapnahaaGreatDoorGV
import Derived.Test.YtgmciglaapnahaaGreatDoorGHB
namespace Go.Proofs.YtgmciglaapnahaaGreatDoor
set_option linter.unusedVariables false
set_option linter.unusedSimpArgs false
open Go.RowKit Go.Lib

/-! What FnRename draws. -/
theorem words_ok : ∀ t ∈ words2, nameOkB t = true ∧ t.size ≤ 16 := by decide +kernel
def freshW (t : ByteArray) : List ByteArray := [⟨#[102, 114, 101, 115, 104]⟩, ⟨#[122, 122]⟩, t, ⟨#[102]⟩, ⟨#[105, 102]⟩, ⟨#[108, 101, 110, 103, 116, 104]⟩, ⟨#[110, 101, 119, 95, 49]⟩]
theorem fresh_small {t : ByteArray} (h : t.size ≤ 16) : ∀ u ∈ freshW t, u.size ≤ 16 := by
  intro u hu
  simp only [freshW, List.mem_cons, List.not_mem_nil, or_false] at hu
  rcases hu with rfl | rfl | rfl | rfl | rfl | rfl | rfl
  · decide
  · decide
  · exact h
  · decide
  · decide
  · decide
  · decide
set_option maxRecDepth 100000 in
set_option maxHeartbeats 6400000 in
theorem specl2Word_any (w0 w : World) (p : Nat) (bv : Value) (bs : List UInt8) (hc : Cur w0 w p bv bs) :
    Calls Tryz.prog 131 #[.pointer (some ⟨p, 0, none⟩)] w fun e w' => ∃ t ∈ words2, e = .returned (.string t) ∧ w.grownBy w' (some p) ∧ Cur w0 w' p bv bs := by
  have hpw := hc.box.lt
  have hcall := hid (fun o => specl1Pick_any w0 (w.alloc (.cells (words2.flatMap str1).toArray o)) p bv bs words2 w.heap.size 11 (by decide) (by decide) (by decide) (by omega) (rowAt_lit _ _ _) (hc.below ((Below.refl _ _).alloc (Nat.le_refl _) _)))
  clear hc
  go_enter Tryz.func131, Tryz.ntmps131
  go_wp2_with fail
  refine (hcall.out _).mono ?_; rintro e w1 ⟨t, ht, rfl, hg, hc1⟩
  have hfin := hid (show w.grownBy w1 (some p) ∧ Cur w0 w1 p bv bs from ⟨grown_trans (World.grownBy_alloc _ _ _) hg, hc1⟩)
  have ht2 := hid ht
  clear hg hc1 hcall ht
  go_wp2
  go_ret
  exact ⟨t, ht2.out, rfl, hfin.out.1, hfin.out.2⟩
/-- What DrawRename hands back. -/
def RenDraw (w : World) (e : Ending) (w' : World) : Prop := ∃ (v : Value) (l : List Node) (a b : ByteArray), e = .returned (.tuple #[v, .string a, .string b]) ∧ Below w.heap.size w w' ∧ NodeSlc w' v l ∧ FineN l ∧ nameOkB a = true ∧ a.size ≤ 16 ∧ b.size ≤ 16
set_option maxRecDepth 100000 in
set_option maxHeartbeats 6400000 in
theorem specDrawRename_any (w : World) (bv : Value) (bs : List UInt8) (hc : Slc w bv 1 bs.length (bs.flatMap byte1)) (hs : bs.length ≤ 1048576) :
    Calls Tryz.prog 48 #[bv] w fun e w' => RenDraw w e w' := by
  have hcall := hid (specl1New_any w bv bs hc hs)
  obtain ⟨_, a, cap, rfl, hcap, hm, hrow⟩ := hc
  clear hrow
  go_enter Tryz.func48, Tryz.ntmps48
  go_wp2_with fail
  refine hcall.out.mono ?_; rintro e w1 ⟨p, rfl, hb1, hc1⟩
  have hpw := hc1.box.lt
  have hcall2 := hid (any_drawn _ _ _ _ _ hc1)
  clear hc1 hcall hb1
  go_wp2_with fail
  refine hcall2.out.mono ?_; rintro e w2 ⟨v, l, rfl, hg2, hc2, ho2, hs2, hn2⟩
  have hf2 := hid (hs2.fineN hn2)
  have hx2 := hid (NodeSlcX.of_own ho2)
  obtain ⟨va, vc, rfl⟩ := hx2.out.vshape
  have hcall3 := hid (specl1Once_any _ w2 p _ bs 8 (by unfold I64; omega) hc2)
  replace hg2 := hid hg2
  clear hcall2 hc2 ho2 hs2 hn2
  go_wp2_with fail
  refine hcall3.out.mono ?_; rintro e w3 ⟨sp, rfl, hg3, hc3⟩
  have hx3 := hid (hx2.out.grown hg3 hpw)
  have hg3 := hid (grown_trans hg2.out hg3)
  clear hcall3 hx2 hg2
  cases sp with
  | true =>
    have hcall := hid (specl7Spoilt_any _ w3 p _ bs hc3)
    clear hc3 hx3 hf2
    go_wp2_with fail
    refine hcall.out.mono ?_; rintro e w4 h
    have h := h.up hg3.out
    obtain ⟨v', l, rfl, h1, h2, h3, h4⟩ := h
    have hx4 := hid h3
    have hf4 := hid h4
    obtain ⟨a4, c4, rfl⟩ := h3.vshape
    have hw1 := hid (specl2Word_any _ w4 p _ bs h2)
    clear hcall h1 h2 h3 h4 hg3
    go_wp2_with fail
    refine hw1.out.mono ?_; rintro e w5 ⟨t1, ht1, rfl, hg5, hc5⟩
    have hx5 := hid (hx4.out.grown hg5 hpw)
    have hw2 := hid (specl2Word_any _ w5 p _ bs hc5)
    have hto := hid (words_ok t1 ht1)
    clear hw1 hx4 hg5 hc5 ht1
    go_wp2_with fail
    refine hw2.out.mono ?_; rintro e w6 ⟨t2, ht2, rfl, hg6, hc6⟩
    have hx6 := hid (hx5.out.grown hg6 hpw)
    have ht16 := (words_ok t2 ht2).2
    have hpb := hc6.box.lt
    have hpk := hid (fun o => specl1Pick_any _ (w6.alloc (.cells ((freshW t2).flatMap str1).toArray o)) p _ bs (freshW t2) w6.heap.size 7 (by simp [freshW]) (by simp [freshW]) (by simp [freshW]) (by omega) (rowAt_lit _ _ _) (hc6.below ((Below.refl _ _).alloc (Nat.le_refl _) _)))
    clear hw2 hx5 hg6 hc6 ht2
    go_wp2_with fail
    refine (hpk.out _).mono ?_; rintro e w7 ⟨t3, ht3, rfl, hg7, hc7⟩
    have hx7 := hid ((hx6.out.keep (w' := w6.alloc _) fun b hS hl => ⟨Below.heap_alloc _ _ _ hl, hS⟩).grown hg7 hpw)
    have ht36 := hid (fresh_small ht16 t3 ht3)
    have hold := hid hc7.old
    clear hpk hx6 hg7 hc7 ht3
    go_wp2
    go_ret3
    exact ⟨_, _, t1, t3, rfl, hold.out, hx7.out.slc, hf4.out, hto.out.1, hto.out.2, ht36.out⟩
  | false =>
    have hx4 := hx3
    have hf4 := hf2
    have hw1 := hid (specl2Word_any _ w3 p _ bs hc3)
    clear hc3 hx3 hf2 hg3
    obtain ⟨w4, hw4⟩ : ∃ w4, w4 = w3 := ⟨_, rfl⟩
    rw [← hw4] at hx4 hw1 ⊢
    clear hw4
    obtain ⟨a4, ha4⟩ : ∃ a4, a4 = va := ⟨_, rfl⟩
    obtain ⟨c4, hc4⟩ : ∃ c4, c4 = vc := ⟨_, rfl⟩
    rw [← ha4, ← hc4] at hx4 ⊢
    clear ha4 hc4
    go_wp2_with fail
    refine hw1.out.mono ?_; rintro e w5 ⟨t1, ht1, rfl, hg5, hc5⟩
    have hx5 := hid (hx4.out.grown hg5 hpw)
    have hw2 := hid (specl2Word_any _ w5 p _ bs hc5)
    have hto := hid (words_ok t1 ht1)
    clear hw1 hx4 hg5 hc5 ht1
    go_wp2_with fail
    refine hw2.out.mono ?_; rintro e w6 ⟨t2, ht2, rfl, hg6, hc6⟩
    have hx6 := hid (hx5.out.grown hg6 hpw)
    have ht16 := (words_ok t2 ht2).2
    have hpb := hc6.box.lt
    have hpk := hid (fun o => specl1Pick_any _ (w6.alloc (.cells ((freshW t2).flatMap str1).toArray o)) p _ bs (freshW t2) w6.heap.size 7 (by simp [freshW]) (by simp [freshW]) (by simp [freshW]) (by omega) (rowAt_lit _ _ _) (hc6.below ((Below.refl _ _).alloc (Nat.le_refl _) _)))
    clear hw2 hx5 hg6 hc6 ht2
    go_wp2_with fail
    refine (hpk.out _).mono ?_; rintro e w7 ⟨t3, ht3, rfl, hg7, hc7⟩
    have hx7 := hid ((hx6.out.keep (w' := w6.alloc _) fun b hS hl => ⟨Below.heap_alloc _ _ _ hl, hS⟩).grown hg7 hpw)
    have ht36 := hid (fresh_small ht16 t3 ht3)
    have hold := hid hc7.old
    clear hpk hx6 hg7 hc7 ht3
    go_wp2
    go_ret3
    exact ⟨_, _, t1, t3, rfl, hold.out, hx7.out.slc, hf4.out, hto.out.1, hto.out.2, ht36.out⟩
theorem ren_node_ok {f t : ByteArray} {x : Node} (h : x.Ok ∧ x.sizes ≤ 100) (ht : t.size ≤ 16) : (renameN f t x).Ok ∧ (renameN f t x).sizes ≤ 132 := by
  obtain ⟨⟨h1, h2, h3, h4, h5, h6⟩, h7⟩ := h
  have hr : ∀ s : ByteArray, (ren f t s).size ≤ s.size + 16 := fun s => by unfold ren; split <;> omega
  have e1 : (renameN f t x).text.size ≤ x.text.size + 16 := by
    unfold renameN; simp only; split
    · exact hr _
    · omega
  have e2 : (renameN f t x).other.size ≤ x.other.size + 16 := by
    unfold renameN; simp only; split
    · exact hr _
    · omega
  unfold Node.sizes at h7 ⊢
  have e3 : (renameN f t x).kids = x.kids := rfl
  refine ⟨⟨by unfold maxLen; omega, by unfold maxLen; omega, h3, h4, h5, h6⟩, by rw [e3]; omega⟩
theorem bulk_of {M N : Nat} {l : List Node} (hl : l.length ≤ N) (h : ∀ x ∈ l, x.sizes ≤ M) : bulk Node.sizes l ≤ N * (M + 1) := by
  have : ∀ (L : List Node), (∀ x ∈ L, x.sizes ≤ M) → bulk Node.sizes L ≤ L.length * (M + 1) := fun L => by
    induction L with
    | nil => intro _; simp [bulk]
    | cons x L ih =>
      intro hL
      have h1 := hL x (by simp)
      have h2 := ih fun y hy => hL y (by simp [hy])
      simp only [bulk, List.map_cons, List.sum_cons, List.length_cons] at *
      rw [Nat.add_mul]
      omega
  exact Nat.le_trans (this l h) (Nat.mul_le_mul_right _ hl)
theorem renamed_fine {l : List Node} (h : FineN l) {a b : ByteArray} (hb : b.size ≤ 16) : (∀ x ∈ renamed l a b, x.Ok) ∧ bulk Node.sizes (renamed l a b) ≤ 1048576 := by
  unfold renamed
  split
  · refine ⟨fun x hx => ?_, ?_⟩
    · obtain ⟨y, hy, rfl⟩ := List.mem_map.1 hx
      exact (ren_node_ok (h.2 y hy) hb).1
    · refine Nat.le_trans (bulk_of (M := 132) (N := 2700) (by rw [List.length_map]; exact h.1) fun x hx => ?_) (by omega)
      obtain ⟨y, hy, rfl⟩ := List.mem_map.1 hx
      exact (ren_node_ok (h.2 y hy) hb).2
  · exact ⟨h.fine.1, by have := h.fine.2; omega⟩
theorem eqNodes_refl (l : List Node) : eqList eqNode l l = true := (eqList_iff eqNode eqNode_iff l l).2 rfl

set_option maxRecDepth 100000 in
set_option maxHeartbeats 6400000 in
theorem lawFnRename {w : World} (bs : List UInt8) (v0 : Value) (hv0 : Slc w v0 1 bs.length (bs.flatMap byte1)) (hE0 : WordEnv w) :
    Calls Tryz.prog 6 #[v0] w fun e w' => e = .returned (.bool true) ∧ Below w.heap.size w w' := by
  have hbig := hid (lawsbig_any v0 bs w hv0)
  by_cases hs : 1048576 < bs.length
  · have hd : decide (1048576 < bs.length) = true := by simpa using hs
    rw [hd] at hbig
    obtain ⟨_, a, cap, rfl, hcap, hm, hrow⟩ := hv0
    go_enter Tryz.func6, Tryz.ntmps6
    go_wp2_with (go_at_call 14; refine hbig.out.mono ?_; rintro e w' ⟨rfl, rfl⟩)
    go_ret
    exact ⟨rfl, Below.refl _ _⟩
  have hd : decide (1048576 < bs.length) = false := by simpa using hs
  rw [hd] at hbig
  have hdraw := hid (specDrawRename_any w v0 bs hv0 (by omega))
  obtain ⟨_, a0, cap, rfl, hcap, hm, _⟩ := hv0
  clear hd hs
  go_enter Tryz.func6, Tryz.ntmps6
  go_wp2_with (go_at_call 14; refine hbig.out.mono ?_; rintro e w' ⟨rfl, hw'⟩; subst w')
  refine hdraw.out.mono ?_; rintro e w1 ⟨v, l, a, b, rfl, hbw, hD, hfn, hna, ha16, hb16⟩
  have hf := hfn.fine
  have hlen := hfn.1
  have hn0 : bulk Node.sizes l ≤ 1048576 := by omega
  obtain ⟨va, vc, rfl, hvm, hvc, _⟩ := hD.shape
  have hE : WordEnv w1 := hE0.below hbw
  have hws := hbw.size
  have hB := hid (fun (W : World) (hb : Below w1.heap.size w1 W) => hbw.trans (hb.mono hws))
  have hb1 := hid (Below.refl w1.heap.size w1)
  have hl := hid (fun (W : World) (hb : Below w1.heap.size w1 W) => hD.mono hb (Nat.le_refl _))
  have hrx := renamed_fine (a := a) (b := b) hfn hb16
  have crenI := hid (fun (W : World) (hb : Below w1.heap.size w1 W) => implRename_any l _ a b W hf.1 hn0 (hl.out W hb) (by omega) (by omega) (hE.below hb))
  have crenS := hid (fun (W : World) (hb : Below w1.heap.size w1 W) => specRename_any l _ a b W hf.1 hn0 (hl.out W hb) (by omega) (by omega))
  have cren2 := hid (fun (u : Value) (W : World) (hb : Below w1.heap.size w1 W) (hu : NodeSlc W u (renamed l a b)) => implRename_any (renamed l a b) u b a W hrx.1 hrx.2 hu (by omega) (by omega) (hE.below hb))
  have ctreeX := hid (fun (u : Value) (W : World) (hu : NodeSlc W u (renamed l a b)) => specTreeOk_any (renamed l a b) u W hrx.1 hrx.2 hu)
  have cuseX := hid (fun (s : ByteArray) (h16 : s.size ≤ 16) (u : Value) (W : World) (hu : NodeSlc W u (renamed l a b)) => implUsesOf_any (renamed l a b) u s W hrx.1 hrx.2 hu (by omega))
  have cuseL := hid (fun (W : World) (hb : Below w1.heap.size w1 W) => implUsesOf_any l _ b W hf.1 hn0 (hl.out W hb) (by omega))
  have cuseS := hid (fun (W : World) (hb : Below w1.heap.size w1 W) => specUsesOf_any l _ a W hf.1 hn0 (hl.out W hb) (by omega))
  have cname := hid (fun (W : World) => specNameOk_any a W (by omega))
  have cfuncs := hid (fun (W : World) (hb : Below w1.heap.size w1 W) => specFuncNames_any l _ W hf.1 hn0 (hl.out W hb))
  have csame := hid (fun (P : List Node) (hP : (∀ x ∈ P, x.Ok) ∧ bulk Node.sizes P ≤ 1048576) (u : Value) (W : World) (hb : Below w1.heap.size w1 W) (hu : NodeSlc W u P) => specSameTree_any P u l _ W hP.1 hP.2 hu hf.1 hn0 (hl.out W hb))
  rw [hna] at cname
  have hcopyOk := hid (show (∀ x ∈ renamed l a b, x.Ok) ∧ bulk Node.sizes (renamed l a b) ≤ 1048576 from hrx)
  cases hok : renameOkB l b with
  | false =>
    have hre := renamed_no (f := a) hok
    unfold RenPost at crenI crenS
    rw [hok] at crenI crenS
    rw [hre] at crenI crenS hcopyOk
    clear hok hre cren2 ctreeX cuseX cuseL cuseS cname cfuncs hrx hdraw hbig
    go_wp2_with fail
    refine (crenI.out w1 hb1.out).mono ?_; rintro e w2 ⟨v2, rfl, hbx, ho2⟩
    have hb2 := hid (hb1.out.trans (hbx.mono hb1.out.size))
    have hx2 := hid (fun (W : World) (h : Below w2.heap.size w2 W) => ho2.slc.mono h (Nat.le_refl _))
    obtain ⟨a2, c2, rfl, _⟩ := ho2.slc.shape
    clear hbx ho2
    go_wp2_with fail
    refine (crenS.out w2 hb2.out).mono ?_; rintro e w3 ⟨v3, rfl, hbx, ho3⟩
    have hb3 := hid (hb2.out.trans (hbx.mono hb2.out.size))
    have hx3 := hid (hx2.out _ hbx)
    obtain ⟨a3, c3, rfl, _⟩ := ho3.slc.shape
    have hsame := csame.out l hcopyOk.out _ w3 hb3.out hx3.out
    rw [eqNodes_refl] at hsame
    replace hsame := hid hsame
    clear hbx ho3
    go_wp2_with fail
    refine hsame.out.mono ?_; rintro e w4 ⟨rfl, hbx⟩
    have hb4 := hid (hb3.out.trans (hbx.mono hb3.out.size))
    clear hbx
    go_wp2
    go_ret
    exact ⟨rfl, hB.out _ hb4.out⟩
  | true =>
    obtain ⟨k1, k2, k3, k4, k5⟩ := rename_law hok hna
    unfold RenPost at crenI crenS cren2
    rw [hok] at crenI crenS
    rw [k4] at cuseL
    have cuse1 := hid (fun (u : Value) (W : World) (hu : NodeSlc W u (renamed l a b)) => cuseX.out b hb16 u W hu)
    have cuse2 := hid (fun (u : Value) (W : World) (hu : NodeSlc W u (renamed l a b)) => cuseX.out a ha16 u W hu)
    rw [k2] at cuse1
    rw [k3] at cuse2
    rw [k1] at ctreeX
    have hno := hid (fun h => renamed_no (l := renamed l a b) (f := b) (t := a) h)
    have hYok : Hid ((∀ x ∈ renamed (renamed l a b) b a, x.Ok) ∧ bulk Node.sizes (renamed (renamed l a b) b a) ≤ 1048576) := hid (by
      rcases k5 with k5 | ⟨k5, _⟩
      · rw [k5]; exact ⟨hf.1, hn0⟩
      · rw [renamed_no k5]; exact hrx)
    have k6 : Hid (renamed (renamed l a b) b a = l ∨ (renameOkB (renamed l a b) a = false ∧ hasT (funcNames l) a = true)) := hid k5
    clear hok k1 k2 k3 k4 k5 cuseX hdraw hbig hno
    generalize renamed (renamed l a b) b a = Y at *
    generalize renameOkB (renamed l a b) a = bk at *
    generalize renamed l a b = X at *
    generalize usesOf a l = ua at *
    go_wp2_with fail
    refine (crenI.out w1 hb1.out).mono ?_; rintro e w2 ⟨v2, rfl, hbx, ho2⟩
    have hb2 := hid (hb1.out.trans (hbx.mono hb1.out.size))
    have hx2 := hid (fun (W : World) (h : Below w2.heap.size w2 W) => ho2.slc.mono h (Nat.le_refl _))
    obtain ⟨a2, c2, rfl, _⟩ := ho2.slc.shape
    clear hbx ho2
    go_wp2_with fail
    refine (crenS.out w2 hb2.out).mono ?_; rintro e w3 ⟨v3, rfl, hbx, ho3⟩
    have hb3 := hid (hb2.out.trans (hbx.mono hb2.out.size))
    have hx3 := hid (hx2.out _ hbx)
    obtain ⟨a3, c3, rfl, _⟩ := ho3.slc.shape
    clear hbx ho3 hx2
    go_wp2_with fail
    refine (cren2.out _ w3 hb3.out hx3.out).mono ?_; rintro e w4 ⟨v4, rfl, hbx, ho4⟩
    have hb4 := hid (hb3.out.trans (hbx.mono hb3.out.size))
    have hx4 := hid (hx3.out.mono hbx (Nat.le_refl _))
    have hy4 := hid ho4.slc
    obtain ⟨a4, c4, rfl, _⟩ := hy4.out.shape
    clear hbx ho4 hx3
    go_wp2_with fail
    refine (ctreeX.out _ w4 hx4.out).mono ?_; rintro e w5 ⟨rfl, hbx⟩
    have hb5 := hid (hb4.out.trans (hbx.mono hb4.out.size))
    have hx5 := hid (hx4.out.mono hbx (Nat.le_refl _))
    have hy5 := hid (hy4.out.mono hbx (Nat.le_refl _))
    clear hbx hx4 hy4
    go_wp2_with fail
    refine (cuse1.out _ w5 hx5.out).mono ?_; rintro e w6 ⟨rfl, hbx⟩
    have hb6 := hid (hb5.out.trans (hbx.mono hb5.out.size))
    have hx6 := hid (hx5.out.mono hbx (Nat.le_refl _))
    have hy6 := hid (hy5.out.mono hbx (Nat.le_refl _))
    clear hbx hx5 hy5
    go_wp2_with fail
    refine (cuseS.out w6 hb6.out).mono ?_; rintro e w7 ⟨rfl, hbx⟩
    have hb7 := hid (hb6.out.trans (hbx.mono hb6.out.size))
    have hx7 := hid (hx6.out.mono hbx (Nat.le_refl _))
    have hy7 := hid (hy6.out.mono hbx (Nat.le_refl _))
    clear hbx hx6 hy6
    go_wp2_with fail
    refine (cuse2.out _ w7 hx7.out).mono ?_; rintro e w8 ⟨rfl, hbx⟩
    have hb8 := hid (hb7.out.trans (hbx.mono hb7.out.size))
    have hy8 := hid (hy7.out.mono hbx (Nat.le_refl _))
    clear hbx hx7 hy7
    go_wp2_with fail
    refine (cuseL.out w8 hb8.out).mono ?_; rintro e w9 ⟨rfl, hbx⟩
    have hb9 := hid (hb8.out.trans (hbx.mono hb8.out.size))
    have hy9 := hid (hy8.out.mono hbx (Nat.le_refl _))
    clear hbx hy8
    cases bk with
    | true =>
      have hYl : Y = l := by
        rcases k6.out with h | ⟨h, _⟩
        · exact h
        · cases h
      have hsame := csame.out Y hYok.out _ w9 hb9.out hy9.out
      rw [hYl, eqNodes_refl] at hsame
      rw [hYl]
      replace hsame := hid hsame
      clear k6 hYl
      go_wp2_with fail
      refine hsame.out.mono ?_; rintro e w10 ⟨rfl, hbx⟩
      have hb10 := hid (hb9.out.trans (hbx.mono hb9.out.size))
      clear hbx
      go_wp2
      go_ret
      exact ⟨rfl, hB.out _ hb10.out⟩
    | false =>
      go_wp2_with fail
      refine (cname.out w9).mono ?_; rintro e w10 ⟨rfl, hbx⟩
      have hb10 := hid (hb9.out.trans (hbx.mono hb9.out.size))
      have hy10 := hid (hy9.out.mono hbx (Nat.le_refl _))
      have hsame := csame.out Y hYok.out _ w10 hb10.out hy10.out
      have hk : Hid (eqList eqNode Y l = true ∨ hasT (funcNames l) a = true) := hid (by
        rcases k6.out with h | ⟨_, h⟩
        · left; rw [h]; exact eqNodes_refl l
        · exact .inr h)
      generalize eqList eqNode Y l = eq at *
      replace hsame := hid hsame
      clear hbx k6
      cases eq with
      | true =>
        go_wp2_with fail
        refine hsame.out.mono ?_; rintro e w11 ⟨rfl, hbx⟩
        have hb11 := hid (hb10.out.trans (hbx.mono hb10.out.size))
        clear hbx
        go_wp2
        go_ret
        exact ⟨rfl, hB.out _ hb11.out⟩
      | false =>
        have hk2 : hasT (funcNames l) a = true := by
          rcases hk.out with h | h
          · cases h
          · exact h
        go_wp2_with fail
        refine hsame.out.mono ?_; rintro e w11 ⟨rfl, hbx⟩
        have hb11 := hid (hb10.out.trans (hbx.mono hb10.out.size))
        clear hbx
        go_wp2_with fail
        refine (cfuncs.out w11 hb11.out).mono ?_; rintro e w12 ⟨v12, rfl, hbx, ho12⟩
        have hb12 := hid (hb11.out.trans (hbx.mono hb11.out.size))
        have hht := lawshasText_any (funcNames l) _ a w12 (Slc.of_own ho12)
        rw [hk2] at hht
        obtain ⟨a12, c12, rfl, _⟩ := own_slice ho12
        replace hht := hid hht
        clear hbx ho12 hk2 hk
        go_wp2_with fail
        refine hht.out.mono ?_; rintro e w13 ⟨rfl, hbx⟩
        have hb13 := hid (hb12.out.trans (hbx.mono hb12.out.size))
        clear hbx
        go_wp2
        go_ret
        exact ⟨rfl, hB.out _ hb13.out⟩
end Go.Proofs.YtgmciglaapnahaaGreatDoor
