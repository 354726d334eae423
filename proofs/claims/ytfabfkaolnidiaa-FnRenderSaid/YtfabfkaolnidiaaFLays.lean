/- Walks and lemmas of this seat (FLays): what each theorem says of the functions that it names. Conditions: those that each theorem states. -/
import Derived.Test.YtfabfkaolnidiaaFLayM
import Derived.Test.YtfabfkaolnidiaaFGroupsIn
import Derived.Test.YtfabfkaolnidiaaGA
import Derived.Test.YtfabfkaolnidiaaShelf
namespace Go.Proofs.Ytfabfkaolnidiaa
set_option linter.unusedVariables false
set_option linter.unusedSimpArgs false
open Go.RowKit

/-! All layouts of a document, each once, in the order of the masks. -/
def layoutsTo (l : List DNode) : Nat → List ByteArray
  | 0 => []
  | m + 1 => if (layMask l m).2 = true ∧ findS ⟨(layMask l m).1.toArray⟩ (layoutsTo l m) 0 < 0 then layoutsTo l m ++ [⟨(layMask l m).1.toArray⟩] else layoutsTo l m
def layoutsOf (l : List DNode) : List ByteArray := if docOk l = true ∧ l.countP isGroupB ≤ 8 then layoutsTo l (2 ^ l.countP isGroupB) else []
theorem layoutsTo_len (l : List DNode) (m : Nat) : (layoutsTo l m).length ≤ m := by
  induction m with
  | zero => simp [layoutsTo]
  | succ m ih => rw [layoutsTo]; split
                 · rw [List.length_append, List.length_singleton]; omega
                 · omega
theorem pow_le {k : Nat} (h : k ≤ 8) : 1 ≤ 2 ^ k ∧ 2 ^ k ≤ 256 := by
  constructor
  · exact Nat.one_le_two_pow
  · exact (Nat.pow_le_pow_right (by omega) h : 2 ^ k ≤ 2 ^ 8)
theorem layoutsOf_len (l : List DNode) : (layoutsOf l).length ≤ 256 := by
  unfold layoutsOf; split
  · rename_i h; have := layoutsTo_len l (2 ^ l.countP isGroupB); have := (pow_le h.2).2; omega
  · simp

set_option maxRecDepth 100000 in
set_option maxHeartbeats 3200000 in
theorem specLayouts_any (l0 : List DNode) (v0 : Value) (w : World) (hx0 : ∀ x ∈ l0, x.Ok) (hn0 : bulk DNode.sizes l0 ≤ 1048576) (hv0 : DNodeSlc w v0 l0) :
    Calls Try.prog 15 #[v0] w fun e w' => ∃ v', e = .returned v' ∧ Below w.heap.size w w' ∧ w'.ownsRow w.heap.size 9 1 v' (layoutsOf l0).length ((layoutsOf l0).flatMap str1) := by
  obtain ⟨i0, hi, hz0, hz1, hz2⟩ := info_parts Try.info9
  have hB0 : Below w.heap.size w (w.alloc (.cells #[] 9)) := (Below.refl _ _).alloc (Nat.le_refl _) _
  have ho0 := own_new0 w 9 1
  have hdk := specDocOk_any l0 v0 (w.alloc (.cells #[] 9)) hx0 hn0 (hv0.mono hB0 (Nat.le_refl _))
  have hv := hid hv0
  obtain ⟨a, cap, rfl, hm, hc, hsl⟩ := hv0.shape
  have hgc := hid fun (W : World) (hb : Below w.heap.size w W) => specGroupsIn_any l0 (.slice a l0.length cap) W hx0 hn0 (hv.out.mono hb (Nat.le_refl _))
  by_cases hok : docOk l0 = true
  case neg =>
    have hR : Hid (layoutsOf l0 = []) := hid (by unfold layoutsOf; rw [if_neg (fun h => hok h.1)])
    have hok : docOk l0 = false := by simpa using hok
    rw [hok] at hdk
    clear hok
    go_enter Try.func15, Try.ntmps15
    go_wp2_with fail
    refine hdk.mono ?_; rintro e w1 ⟨rfl, hb1⟩
    clear hdk
    have hB1 := hid (hB0.trans (hb1.mono (by simp)))
    have hO1 := hid (own_below ho0 hb1 (Nat.le_refl _))
    go_wp2
    go_ret
    exact ⟨_, rfl, hB1.out, by rw [hR.out]; exact hO1.out⟩
  rw [hok] at hdk
  obtain ⟨cg, hcg⟩ : ∃ cg, cg = l0.countP isGroupB := ⟨_, rfl⟩
  have hcl : cg ≤ 1048576 := by
    have h1 := length_bulk DNode.sizes l0
    have h2 := List.countP_le_length (p := isGroupB) (l := l0)
    omega
  rw [← hcg] at hgc
  by_cases h8 : cg ≤ 8
  case neg =>
    have hR : Hid (layoutsOf l0 = []) := hid (by unfold layoutsOf; rw [← hcg, if_neg (fun h => h8 h.2)])
    clear hok hcg
    go_enter Try.func15, Try.ntmps15
    go_wp2_with fail
    refine hdk.mono ?_; rintro e w1 ⟨rfl, hb1⟩
    clear hdk
    have hB1 := hid (hB0.trans (hb1.mono (by simp)))
    have hO1 := hid (own_below ho0 hb1 (Nat.le_refl _))
    go_wp2_with fail
    refine (hgc.out _ hB1.out).mono ?_; rintro e w2 ⟨rfl, hb2⟩
    have hB2 := hid (hB1.out.trans (hb2.mono hB1.out.size))
    have hO2 := hid (own_below hO1.out hb2 (Nat.le_refl _))
    go_wp2
    go_ret
    exact ⟨_, rfl, hB2.out, by rw [hR.out]; exact hO2.out⟩
  have hR : Hid (layoutsOf l0 = layoutsTo l0 (2 ^ cg)) := hid (by unfold layoutsOf; rw [← hcg, if_pos ⟨hok, h8⟩])
  obtain ⟨hp1, hp2⟩ := pow_le h8
  obtain ⟨pw, hpw⟩ : ∃ pw : Nat, pw = 2 ^ cg := ⟨_, rfl⟩
  rw [← hpw] at hp1 hp2 hR
  have hsh : IntKind.wrap .i64 (2 ^ cg) = (pw : Int) := by rw [hpw, show ((2 : Int) ^ cg) = ((2 ^ cg : Nat) : Int) by push_cast; rfl, wrap_nat _ (by omega)]
  obtain ⟨hl1, hl2, hd, s, hs, _⟩ := docOk_starts hok
  have hah := aheadD_of hs
  have hhard := hid fun W (h : Below w.heap.size w W) => specl16Hards_any l0 (.slice a l0.length cap) W hx0 hn0 (hv.out.mono h (Nat.le_refl _)) hah hd
  have hlay := hid fun (W : World) (hvv : Value) (m : Nat) (hb : Below w.heap.size w W) (hH : Slc W hvv 1 l0.length ((hardL l0 l0.length).flatMap bool1)) (hm : m ≤ 1000) => specl17Lay_any l0 (.slice a l0.length cap) hvv m W hx0 hn0 (hv.out.mono hb (Nat.le_refl _)) hok hH hm (by omega)
  have hcg0 : (0 : Int) ≤ (cg : Int) := by omega
  have hcg64 : (cg : Int) ≤ 64 := by omega
  clear hok hcg hs hd hah hpw
  go_enter Try.func15, Try.ntmps15
  go_wp2_with fail
  refine hdk.mono ?_; rintro e w1 ⟨rfl, hb1⟩
  clear hdk
  have hB1 := hid (hB0.trans (hb1.mono (by simp)))
  have hO1 := hid (own_below ho0 hb1 (Nat.le_refl _))
  clear ho0 hB0 hb1
  go_wp2_with fail
  refine (hgc.out _ hB1.out).mono ?_; rintro e w2 ⟨rfl, hb2⟩
  have hB2 := hid (hB1.out.trans (hb2.mono hB1.out.size))
  have hO2 := hid (own_below hO1.out hb2 (Nat.le_refl _))
  clear hO1 hB1 hb2
  go_wp2_with fail
  refine (hhard.out _ hB2.out).mono ?_; rintro e w3 ⟨hdv, rfl, hb3, hh3⟩
  have hB3 := hid (hB2.out.trans (hb3.mono hB2.out.size))
  have hO3 := hid (own_below hO2.out hb3 (Nat.le_refl _))
  have hH3 := hid (own_base hh3 hB2.out.size)
  clear hO2 hB2 hb3 hh3 hhard
  go_wp2
  go_loopw [3, 5] (fun ov mv wr => ∃ (k : Nat) (on : Value), on = ov ∧ mv = .int .i64 k ∧ k ≤ pw ∧ Below w.heap.size w wr ∧ wr.ownsRow w.heap.size 4 1 hdv l0.length ((hardL l0 l0.length).flatMap bool1) ∧ wr.ownsRow w.heap.size 9 1 on (layoutsTo l0 k).length ((layoutsTo l0 k).flatMap str1)) (fun _ mv _ => pw - (intOf mv).toNat)
  case atStart => exact ⟨0, _, rfl, rfl, by omega, hB3.out, hH3.out, hO3.out⟩
  clear hO3 hB3 hH3
  rename World => wr
  obtain ⟨k, ov, rfl, rfl, hk, hb, hH, ho⟩ := hrel
  have hbs := hb.size
  by_cases hlt : k < pw
  case neg =>
    obtain rfl : k = pw := by omega
    go_wp2_with (go_at_call 30; refine (hgc.out _ hb).mono ?_; rintro e w4 ⟨rfl, hb4⟩)
    have hB4 := hb.trans (hb4.mono hbs)
    have hO4 := own_below ho hb4 (Nat.le_refl _)
    go_ret
    exact ⟨_, rfl, hB4, by rw [hR.out]; exact hO4⟩
  have hki : (k : Int) < (pw : Int) := by omega
  have hT := hid (layoutsTo_len l0 k)
  have hstep : Hid (layoutsTo l0 (k + 1) = if (layMask l0 k).2 = true ∧ findS ⟨(layMask l0 k).1.toArray⟩ (layoutsTo l0 k) 0 < 0 then layoutsTo l0 k ++ [⟨(layMask l0 k).1.toArray⟩] else layoutsTo l0 k) := hid rfl
  have hlk := hid fun W h1 h2 => hlay.out W hdv k h1 h2 (by omega)
  generalize hE : layMask l0 k = E at hstep hlk
  obtain ⟨eo, eb⟩ := E
  replace hE := hid hE
  have hns := hid fun (s : ByteArray) (W : World) (hO : W.ownsRow w.heap.size 9 1 ov (layoutsTo l0 k).length ((layoutsTo l0 k).flatMap str1)) => specl3Find_any (layoutsTo l0 k) ov s W (by have := hT.out; omega) (Slc.of_own hO)
  have hTl : (layoutsTo l0 k).length ≤ 256 := by have := hT.out; omega
  generalize layoutsTo l0 k = T at ho hstep hns hTl
  replace hH := hid hH
  replace ho := hid ho
  cases eb with
  | false =>
    have hst : Hid (layoutsTo l0 (k + 1) = T) := hid (by rw [hstep.out, if_neg (fun h => by cases h.1)])
    clear hstep hns
    have hme := maskTup_no (p := (eo, false)) rfl
    rw [hme] at hlk
    clear hme
    go_wp2_with (first
      | (go_at_call 30; refine (hgc.out _ hb).mono ?_; rintro e w4 ⟨rfl, hb4⟩; have hB4 := hb.trans (hb4.mono hbs); have hO4 := own_below ho.out hb4 (Nat.le_refl _); have hH4 := own_below hH.out hb4 (Nat.le_refl _))
      | (go_at_call 49; refine (hlk.out _ hB4 (Slc.of_own hH4)).mono ?_; rintro e w5 ⟨rfl, hb5⟩; have hB5 := hB4.trans (hb5.mono hB4.size); have hO5 := own_below hO4 hb5 (Nat.le_refl _); have hH5 := own_below hH4 hb5 (Nat.le_refl _)))
    all_goals go_roundw
    all_goals first
      | (simp [intOf]; omega)
      | exact ⟨k + 1, _, rfl, by go_num, by omega, hB5, hH5, by rw [hst.out]; exact hO5⟩
  | true =>
    have hme := maskTup_yes (p := (eo, true)) (o := eo) rfl
    rw [hme] at hlk
    clear hme
    simp only [true_and] at hstep
    have hfl := findS_lo (⟨eo.toArray⟩ : ByteArray) T 0
    have hns1 := hid (hns.out ⟨eo.toArray⟩)
    clear hns
    generalize (⟨eo.toArray⟩ : ByteArray) = sb at hlk hstep hns1 hfl
    generalize hfd : findS sb T 0 = fd at hstep hns1 hfl
    by_cases hneg : fd < 0
    · have hst : Hid (layoutsTo l0 (k + 1) = T ++ [sb]) := hid (by rw [hstep.out, if_pos hneg])
      clear hstep
      go_wp2_with (first
        | (go_at_call 30; refine (hgc.out _ hb).mono ?_; rintro e w4 ⟨rfl, hb4⟩; have hB4 := hb.trans (hb4.mono hbs); have hO4 := own_below ho.out hb4 (Nat.le_refl _); have hH4 := own_below hH.out hb4 (Nat.le_refl _))
        | (go_at_call 49; refine (hlk.out _ hB4 (Slc.of_own hH4)).mono ?_; rintro e w5 ⟨rfl, hb5⟩; have hB5 := hB4.trans (hb5.mono hB4.size); have hO5 := own_below hO4 hb5 (Nat.le_refl _); have hH5 := own_below hH4 hb5 (Nat.le_refl _); have hs5 := hB5.size)
        | (go_at_call 47; refine (hns1.out _ hO5).mono ?_; rintro e w6 ⟨rfl, rfl⟩)
        | (at_builtin; refine wpList_append_own _ rfl _ _ 32 rfl w.heap.size 9 i0 _ 1 16 Try.underlying32 hi hz0 hz1 hz2 rfl (by decide) ov T.length (T.flatMap str1) rfl (hO5.alloc _) _ _ _ (str1 sb) rfl rfl (new_cells_at _ _ _ _ _ rfl (by first | rfl | simp)) (by intro u hu; simp [str1] at hu; subst hu; rfl) (by unfold maxLen; omega) (by omega) (by simp; omega) ?_; intro v7 w7 hown7 hgr7 hiff7))
      all_goals go_roundw
      all_goals first
        | (simp [intOf]; omega)
        | exact ⟨k + 1, _, rfl, by go_num, by omega, (hB5.alloc hs5 _).grown hgr7 (by simp; omega) (fun r e => (hO5.lt r e).1), (((Keeps.refl 9 w.heap.size _).alloc _).trans (Keeps.app (hO5.alloc _) hgr7)).own hH5 (by decide), by rw [hst.out, List.length_append, List.flatMap_append, List.flatMap_singleton]; exact hown7⟩
    · have hst : Hid (layoutsTo l0 (k + 1) = T) := hid (by rw [hstep.out, if_neg hneg])
      clear hstep
      go_wp2_with (first
        | (go_at_call 30; refine (hgc.out _ hb).mono ?_; rintro e w4 ⟨rfl, hb4⟩; have hB4 := hb.trans (hb4.mono hbs); have hO4 := own_below ho.out hb4 (Nat.le_refl _); have hH4 := own_below hH.out hb4 (Nat.le_refl _))
        | (go_at_call 49; refine (hlk.out _ hB4 (Slc.of_own hH4)).mono ?_; rintro e w5 ⟨rfl, hb5⟩; have hB5 := hB4.trans (hb5.mono hB4.size); have hO5 := own_below hO4 hb5 (Nat.le_refl _); have hH5 := own_below hH4 hb5 (Nat.le_refl _); have hs5 := hB5.size)
        | (go_at_call 47; refine (hns1.out _ hO5).mono ?_; rintro e w6 ⟨rfl, rfl⟩))
      all_goals go_roundw
      all_goals first
        | (simp [intOf]; omega)
        | exact ⟨k + 1, _, rfl, by go_num, by omega, hB5, hH5, by rw [hst.out]; exact hO5⟩
end Go.Proofs.Ytfabfkaolnidiaa
