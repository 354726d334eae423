/- Walks and lemmas of this seat (FDrawLay): what each theorem says of the functions that it names. Conditions: those that each theorem states. -/
import Derived.Test.YtfabfkaolnidiaaGMK
import Derived.Test.YtfabfkaolnidiaaFLayR
import Derived.Test.YtfabfkaolnidiaaFGroupsIn
namespace Go.Proofs.Ytfabfkaolnidiaa
set_option linter.unusedVariables false
set_option linter.unusedSimpArgs false
open Go.RowKit

theorem layRun_bd (dec : Nat → List LIt → LIt → Bool) : ∀ (f c : Nat) (s : LSt), LayB c s → c + f ≤ 5000 → (layRun dec f s).1.length ≤ 10000000000 := by
  intro f
  induction f with
  | zero => intro c s h hc; have := h.out; show s.out.length ≤ _; omega
  | succ f ih =>
    intro c s h hc
    obtain ⟨out, col, ok, st⟩ := s
    cases st with
    | nil => rw [layRun_nil]; have := h.out; simp only at this ⊢; omega
    | cons x st => rw [layRun_cons]; exact ih (c + 1) _ (h.next (by omega) dec) (by omega)
theorem run_bd {l : List DNode} (h : docOk l = true) (hn : bulk DNode.sizes l ≤ 1048576) (dec : Nat → List LIt → LIt → Bool) : (layRun dec l.length ⟨[], 0, true, [root0 l]⟩).1.length ≤ 10000000000 := by
  obtain ⟨h1, h2, hd, s, hs, _⟩ := docOk_starts h
  refine layRun_bd dec _ 0 _ ⟨by simp, by simp, fun x hx => ?_⟩ (by omega)
  simp at hx; subst hx
  exact ⟨by simp [root0], fine_ix (aheadD_of hs) hd hn _ (by omega)⟩
theorem render_bd (l : List DNode) (hn : bulk DNode.sizes l ≤ 1048576) (wd : Int) : (flatStr (renderL l wd)).size ≤ 10000000000 := by
  unfold renderL
  split
  · rename_i h
    have := run_bd h.1 hn (fitDec wd)
    show (List.toArray _).size ≤ _
    simpa using this
  · show 0 ≤ _; omega
theorem AnyD.fin {w w1 w' : World} {p : Nat} {bv v : Value} {bs : List UInt8} {l : List DNode} (hb : Below w.heap.size w w1) (hg : w1.grownBy w' (some p)) (hc : Cur w w' p bv bs) (hv : DNodeSlcS (fun b => w1.heap.size ≤ b) w' v l) : Below w.heap.size w w' ∧ DNodeSlc w' v l := ⟨hc.old, hv.slc⟩
set_option maxRecDepth 100000 in
theorem specDrawFlatText_any (w : World) (bv : Value) (bs : List UInt8) (hc : Slc w bv 1 bs.length (bs.flatMap byte1)) (hs : bs.length ≤ 1048576) :
    Calls Try.prog 26 #[bv] w fun e w' => ∃ (v : Value) (l : List DNode), e = .returned v ∧ Below w.heap.size w w' ∧ DNodeSlc w' v l ∧ FineD l := by
  have hcall := hid (specl1New_any w bv bs hc hs)
  obtain ⟨_, a, cap, rfl, hcap, hm, hrow⟩ := hc
  go_enter Try.func26, Try.ntmps26
  go_wp2_with fail
  refine hcall.out.mono ?_; rintro e w1 ⟨p, rfl, hb1, hc1⟩
  have hcall2 := hid (specl15Any_any _ _ _ _ _ hc1)
  clear hc1 hcall hrow
  go_wp2_with fail
  refine hcall2.out.mono ?_; rintro e w2 ⟨v, l, rfl, hg2, hc2, hv2, hf⟩
  have hfin := hid (AnyD.fin hb1 hg2 hc2 hv2)
  clear hc2 hcall2 hg2 hv2
  go_wp2
  go_ret
  exact ⟨v, l, rfl, hfin.out.1, hfin.out.2, hf⟩

set_option maxRecDepth 100000 in
set_option maxHeartbeats 3200000 in
theorem specl17Small_any (w0 w : World) (p : Nat) (bv : Value) (bs : List UInt8) (hc : Cur w0 w p bv bs) :
    Calls Try.prog 54 #[.pointer (some ⟨p, 0, none⟩)] w fun e w' => ∃ (v : Value) (l : List DNode), e = .returned v ∧ w.grownBy w' (some p) ∧ Cur w0 w' p bv bs ∧ DNodeSlcS (fun b => w.heap.size ≤ b) w' v l ∧ FineD l ∧ l.countP isGroupB ≤ 6 := by
  have hpw := hc.box.lt
  replace hc := hid hc
  go_enter Try.func54, Try.ntmps54
  go_wp2
  go_loopw [3] (fun i wr => ∃ (k : Nat), i = .int .i64 k ∧ k ≤ 6 ∧ Hid (w.grownBy wr (some p)) ∧ Hid (Cur w0 wr p bv bs)) (fun i _ => 6 - (intOf i).toNat)
  case atStart => exact ⟨0, rfl, by omega, hid (grown_below (Below.refl _ _)), hc⟩
  clear hc
  obtain ⟨k, rfl, hk, hg, hc⟩ := hrel
  rename World => wo
  have hsw := hg.out.size
  by_cases hlt : k < 6
  · go_wp2_with fail
    refine (specl15Any_any _ _ _ _ _ hc.out).mono ?_; rintro e w2 ⟨v, l, rfl, hg2, hc2, hv2, hf⟩
    obtain ⟨va, vc, rfl, _, _, _⟩ := hv2.slc.shape
    have hgi := hid (specGroupsIn_any l _ w2 hf.fine.1 (by have := hf.fine.2; omega) hv2.slc)
    have hv3 := hid (hv2.keep (S' := fun b => w.heap.size ≤ b) (w' := w2) fun b hS _ => ⟨rfl, by have hS : wo.heap.size ≤ b := hS; omega⟩)
    have hg3 := hid (grown_trans hg.out hg2)
    replace hc2 := hid hc2
    clear hg hc hg2 hv2
    go_wp2_with fail
    refine hgi.out.mono ?_; rintro e w3 ⟨rfl, hb3⟩
    have hg4 := hid (grown_blw hg3.out hb3)
    have hc4 := hid (hc2.out.below hb3)
    have hv4 := hid (hv3.out.keep (S' := fun b => w.heap.size ≤ b) (w' := w3) fun b hS hl => ⟨hb3.block b hl, hS⟩)
    clear hb3 hgi hg3 hc2 hv3
    generalize hn : l.countP isGroupB = n at *
    by_cases hn6 : n ≤ 6
    · replace hn := hid hn
      go_wp2
      go_ret
      exact ⟨_, l, rfl, hg4.out, hc4.out, hv4.out, hf, by rw [hn.out]; exact hn6⟩
    · replace hn := hid hn
      go_wp2
      all_goals go_roundw
      all_goals first
        | (simp [intOf]; omega)
        | exact ⟨k + 1, by go_num, by omega, hg4, hc4⟩
  · have hcall := specl15Draw_any 1 (by omega) w0 wo p bv bs hc.out
    rw [show ((1 : Nat) : Int) = 1 from rfl] at hcall
    replace hcall := hid hcall
    go_wp2_with fail
    refine hcall.out.mono ?_; rintro e w1 ⟨v, l, rfl, hg1, hc1, ho1, hs1, hn1⟩
    go_wp2
    go_ret
    have hn1 : l.length ≤ 6 := hn1
    have h2 := List.countP_le_length (p := isGroupB) (l := l)
    exact ⟨v, l, rfl, grown_trans hg.out hg1, hc1, (DNodeSlcS.of_own ho1).keep fun b hS _ => ⟨rfl, by have hS : wo.heap.size ≤ b := hS; omega⟩, hs1.fineD (by omega), by omega⟩

set_option maxRecDepth 100000 in
set_option maxHeartbeats 3200000 in
theorem specDrawIsLayout_any (w : World) (bv : Value) (bs : List UInt8) (hc : Slc w bv 1 bs.length (bs.flatMap byte1)) (hs : bs.length ≤ 1048576) :
    Calls Try.prog 22 #[bv] w fun e w' => ∃ (v : Value) (l : List DNode) (t : ByteArray), e = .returned (.tuple #[v, .string t]) ∧ Below w.heap.size w w' ∧ DNodeSlc w' v l ∧ FineD l ∧ l.countP isGroupB ≤ 6 := by
  have hcall := hid (specl1New_any w bv bs hc hs)
  obtain ⟨_, a, cap, rfl, hcap, hm, hrow⟩ := hc
  go_enter Try.func22, Try.ntmps22
  go_wp2_with fail
  refine hcall.out.mono ?_; rintro e w1 ⟨p, rfl, hb1, hc1⟩
  have hpl := hc1.box.lt
  have hcall2 := hid (specl17Small_any _ _ _ _ _ hc1)
  clear hc1 hcall hrow
  go_wp2_with fail
  refine hcall2.out.mono ?_; rintro e w2 ⟨v, l, rfl, hg2, hc2, hv2, hf, hn⟩
  obtain ⟨va, vc, rfl, _, _, _⟩ := hv2.slc.shape
  have hs2 := hg2.size
  have hcall3 := hid (specl1Below_any _ _ _ _ _ 30 (by unfold I64; omega) hc2)
  clear hcall2 hc2
  go_wp2_with fail
  refine hcall3.out.mono ?_; rintro e w3 ⟨x, rfl, hx0, hx1, _, hg3, hc3⟩
  have hv3 := hv2.keep (S' := fun b => w1.heap.size ≤ b) (w' := w3) fun b hS hl => ⟨hg3.block b hl (fun e => by have := Option.some.inj e; have hS : w1.heap.size ≤ b := hS; omega), hS⟩
  have hrd := hid (specRender_any l _ x w3 hf.fine.1 (by have := hf.fine.2; omega) hv3.slc)
  clear hcall3 hv2 hg3
  go_wp2_with fail
  refine hrd.out.mono ?_; rintro e w4 ⟨he, hb4⟩
  unfold tup at he
  subst he
  have hc4 := hc3.below hb4
  have hv4 := hid (hv3.keep (S' := fun b => w1.heap.size ≤ b) (w' := w4) fun b hS hl => ⟨hb4.block b hl, hS⟩)
  have hcall4 := hid (specl1Once_any _ _ _ _ _ 4 (by unfold I64; omega) hc4)
  have htz := render_bd l (by have := hf.fine.2; omega) x
  generalize flatStr (renderL l x) = t at *
  generalize (renderL l x).isSome = is
  clear hrd hv3 hc3 hc4 hb4
  go_wp2_with fail
  refine hcall4.out.mono ?_; rintro e w5 ⟨z, rfl, hg5, hc5⟩
  have hv5 := hid (hv4.out.keep (S' := fun b => w1.heap.size ≤ b) (w' := w5) fun b hS hl => ⟨hg5.block b hl (fun e => by have := Option.some.inj e; have hS : w1.heap.size ≤ b := hS; omega), hS⟩)
  have hB := hid hc5.old
  clear hcall4 hg5 hc5 hv4
  cases z
  · go_wp2
    go_ret2
    exact ⟨_, l, _, rfl, hB.out, hv5.out.slc, hf, hn⟩
  · go_wp2
    go_ret2
    exact ⟨_, l, _, rfl, hB.out, hv5.out.slc, hf, hn⟩
end Go.Proofs.Ytfabfkaolnidiaa
