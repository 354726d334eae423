/- Walks and lemmas of this seat (FNodeStarts): what each theorem says of the functions that it names. Conditions: those that each theorem states. -/
import Derived.Test.YtagoeiegdlnalaaFStarts
import Derived.Test.YtagoeiegdlnalaaDataNode
namespace Go.Proofs.Ytagoeiegdlnalaa
set_option linter.unusedVariables false
set_option linter.unusedSimpArgs false
open Go.RowKit

set_option maxRecDepth 100000 in
set_option maxHeartbeats 1600000 in
theorem specl6Starts_any (l0 : List Node) (v0 : Value) (w : World) (hn0 : l0.length ≤ 1048576) (hx0 : ∀ x ∈ l0, x.Ok) (hv0 : NodeSlc w v0 l0) :
    Calls Try.prog 93 #[v0] w fun e w' => StartsPost w (l0.map Node.kids) e w' := by
  obtain ⟨a, cap, rfl, hm, hc, hsl⟩ := hv0.shape
  obtain ⟨i0, hi, hz0, hz1, hz2⟩ := info_parts Try.info3
  go_enter Try.func93, Try.ntmps93
  go_wp2
  go_loopw [4, 5] (fun v i wr => ∃ (k : Nat) (out : List Nat), i = .int .i64 k ∧ k ≤ l0.length ∧ out.length = k ∧ Low out ∧ Below w.heap.size w wr ∧ wr.ownsRow w.heap.size 3 1 v out.length (out.flatMap nat1) ∧ Hid (starts (l0.map Node.kids) = startsL out ((l0.drop k).map Node.kids))) (fun _ i _ => l0.length - (intOf i).toNat)
  case atStart => exact ⟨0, [], rfl, by omega, rfl, Low.nil, by repeat (first | exact Below.refl _ _ | refine Below.alloc ?_ (by first | omega | (simp; done) | (simp; omega)) _ | refine Below.drew ?_), own_new0 _ _ _, hid rfl⟩
  obtain ⟨k, out, rfl, hk, hol, hlow, hb, hown, hrel⟩ := hrel
  have hbs := hb.size
  by_cases hlt : k < l0.length
  · obtain ⟨x, ka, kc, b, off, hx, rfl, c0, c1, c2, c3, c4, hkd⟩ := hsl.at hb (Nat.le_refl _) hlt
    have hxo := hx0 x (List.mem_of_getElem? hx)
    rw [drop_cons hx, List.map_cons] at hrel
    have HR := hrel
    clear hx hrel
    obtain ⟨_, _, _, hkv, hkc, hkm, hkrow⟩ := hkd
    simp at hkv
    obtain ⟨rfl, rfl⟩ := hkv
    unfold Node.Ok at hxo
    obtain ⟨_, _, _, _, hki, hkl⟩ := hxo
    unfold maxLen at hkm hkl
    replace hlow := hid hlow
    replace hki := hid hki
    go_wp2
    go_loop [6, 7] (fun at_ j => ∃ (a q : Nat) (z : Int), at_ = .int .i64 a ∧ j = .int .i64 z ∧ z = (q : Int) - 1 ∧ q ≤ x.kids.length ∧ a ≤ k ∧ Hid (stepK out x.kids.reverse k = stepK out (x.kids.take q).reverse a)) (fun _ j => (intOf j + 1).toNat)
    case atStart => exact ⟨k, x.kids.length, _, rfl, rfl, by omega, by omega, by omega, hid (by rw [List.take_length])⟩
    obtain ⟨a, q, z, rfl, rfl, hz, hq, ha, hst⟩ := hrel
    by_cases hq0 : q = 0
    · subst hq0
      have hzn : z < 0 := by omega
      have hzd : decide (z ≥ 0) = false := by simp; omega
      have hst2 : Hid (stepK out x.kids.reverse k = some a) := hid (hst.out.trans rfl)
      clear hst hz
      have hol2 : out.length ≤ 1048576 := by omega
      replace hol := hid hol
      go_wp2_with (at_builtin; refine wpList_append_own _ rfl _ _ 36 rfl w.heap.size 3 i0 _ 1 8 Try.underlying36 hi hz0 hz1 hz2 rfl (by decide) _ out.length (out.flatMap nat1) rfl (hown.alloc _) _ _ _ (nat1 a) rfl rfl (new_cells_at _ _ _ _ _ rfl (by first | rfl | simp)) (by intro u hu; simp [nat1] at hu; rcases hu with rfl | rfl | rfl | rfl | rfl <;> rfl) (by unfold maxLen; omega) (by omega) (by first | omega | (simp; done) | (simp; omega)) ?_; intro v2 w2 hown2 hgr2 hiff; clear hiff; have hb2 := app_below (hb.alloc (by first | omega | (simp; done) | (simp; omega)) _) (hown.alloc _) hgr2)
      all_goals go_roundw
      all_goals first
        | (simp [intOf]; omega)
        | exact ⟨k + 1, out ++ [a], by go_num, by omega, by have := hol.out; simp; omega, hlow.out.snoc (by have := hol.out; omega), hb2, by simpa using hown2, hid (HR.out.trans (startsL_go (by rw [hol.out]; exact hst2.out)))⟩
    · obtain ⟨q', rfl⟩ : ∃ q', q = q' + 1 := ⟨q - 1, by omega⟩
      obtain rfl : z = (q' : Int) := by omega
      clear hz hq0
      obtain ⟨kid, hkid⟩ := get_of_lt (show q' < x.kids.length by omega)
      obtain ⟨kb, koff, rfl, hkro⟩ := slc_some hkrow (by omega)
      have d0 := hkro.one int1_len hkid rfl
      have hk64 := hki.out kid (List.mem_of_getElem? hkid)
      unfold I64 at hk64
      have hno := fun h => stepK_no (out := out) (a := a) hkid h
      have hgo := fun a' h => stepK_go (out := out) (a := a') hkid h
      clear hkid hkro
      by_cases hbad : kid = (a : Int) - 1 ∧ 0 < a
      · obtain ⟨a', rfl⟩ : ∃ a', a = a' + 1 := ⟨a - 1, by omega⟩
        obtain rfl : kid = (a' : Int) := by omega
        have hst2 := hid (hst.out.trans (hgo a' rfl))
        clear hst hno hgo hbad
        obtain ⟨g, cp, rfl, hcp⟩ := own_slice' hown (by omega)
        have r0 := own_read hown (nat1_at (show a' < out.length by omega))
        have hlt2 : a' < out.length := by omega
        have hle := hlow.out.getD a'
        generalize out.getD a' 0 = a2 at r0 hle hst2
        go_wp2
        all_goals go_round
        all_goals first
          | (simp [intOf]; done)
          | (simp [intOf]; omega)
          | (show ((q' : Int) - 1 + 1).toNat < ((q' : Int) + 1).toNat; omega)
          | exact ⟨a2, q', _, rfl, rfl, by omega, by omega, by omega, hst2⟩
      · have hst2 := hid (startsL_no (l := (l0.drop (k + 1)).map Node.kids) ((show _ = none from hol ▸ hst.out.trans (hno (by omega)))))
        have hR2 := hid (HR.out.trans hst2.out)
        clear hst hno hgo HR hst2
        go_wp2
        all_goals first
          | (go_ret2; exact ⟨by repeat (first | exact hb | refine Below.alloc ?_ (by first | omega | (simp; done) | (simp; omega)) _ | refine Below.drew ?_), .inl ⟨hR2.out, _, rfl⟩⟩)
          | (go_ways; sorry)
  · go_wp2
    go_ret2
    exact ⟨hb, .inr ⟨out, _, by rw [hrel.out, List.drop_of_length_le (by omega)]; rfl, rfl, hown⟩⟩

theorem specl1In_any (a b c : Int) (w : World) : Calls Try.prog 77 #[.int .i64 a, .int .i64 b, .int .i64 c] w fun e w' => e = .returned (.bool (decide (b ≤ a ∧ a ≤ c))) ∧ w = w' := by
  by_cases h : b ≤ a
  · go_enter Try.func77, Try.ntmps77
    go_wp2
    go_ret
    exact ⟨ret_bool (by simp [h]), rfl⟩
  · go_enter Try.func77, Try.ntmps77
    go_wp2
    go_ret
    exact ⟨ret_bool (by simp; omega), rfl⟩


def shapeOk (l : List (List Int)) : Bool := decide (1 ≤ l.length ∧ l.length ≤ 400) && startsLast l
set_option maxRecDepth 100000 in
set_option maxHeartbeats 1600000 in
theorem specShapeOk_any (l0 : List Node) (v0 : Value) (w : World) (hx0 : ∀ x ∈ l0, x.Ok) (hn0 : bulk Node.sizes l0 ≤ 1048576) (hv0 : NodeSlc w v0 l0) :
    Calls Try.prog 73 #[v0] w fun e w' => e = .returned (.bool (shapeOk (l0.map Node.kids))) ∧ Below w.heap.size w w' := by
  have hv := hv0
  obtain ⟨a, cap, rfl, hm, hc, hsl⟩ := hv0.shape
  have hlen := length_bulk Node.sizes l0
  by_cases hin : 1 ≤ l0.length ∧ l0.length ≤ 400
  · have hd : decide ((1 : Int) ≤ (l0.length : Int) ∧ (l0.length : Int) ≤ 400) = true := by simp; omega
    have hw1 := specl1In_any (l0.length : Int) 1 400 w
    rw [hd] at hw1
    have hR : Hid (shapeOk (l0.map Node.kids) = startsLast (l0.map Node.kids)) := hid (by unfold shapeOk; rw [List.length_map, show decide (1 ≤ l0.length ∧ l0.length ≤ 400) = true from by simpa using hin, Bool.true_and])
    have hcall := specl6Starts_any l0 _ w (by omega) hx0 hv
    clear hd
    go_enter Try.func73, Try.ntmps73
    go_wp2_with fail
    refine hw1.mono ?_; rintro e w1 ⟨rfl, rfl⟩
    clear hw1
    go_wp2_with fail
    refine hcall.mono ?_; rintro e w2 ⟨hb2, ⟨hno, v', rfl⟩ | ⟨s, v', hs, rfl, hown⟩⟩
    · have hR3 : Hid (shapeOk (l0.map Node.kids) = false) := hid (by rw [hR.out]; unfold startsLast; rw [hno])
      clear hno hcall
      go_wp2
      go_ret
      exact ⟨ret_bool hR3.out.symm, hb2⟩
    · have hsl2 : s.length = l0.length := by have := (starts_len hs).2; simpa using this
      have hlt0 : l0.length - 1 < s.length := by omega
      have hR3 : Hid (shapeOk (l0.map Node.kids) = (s.getD (l0.length - 1) 0 == 0)) := hid (by rw [hR.out]; unfold startsLast; rw [hs]; simp)
      obtain ⟨g, cp, rfl, hcp⟩ := own_slice' hown (by omega)
      have r0 := own_read hown (nat1_at hlt0)
      generalize s.getD (l0.length - 1) 0 = val at r0 hR3
      unfold maxLen at hcp
      obtain ⟨n', hn'⟩ : ∃ n', n' = l0.length - 1 := ⟨_, rfl⟩
      rw [← hn'] at r0
      have hv1 : (l0.length : Int) - 1 = (n' : Int) := by omega
      have hi1 : n' < s.length := by omega
      have hi2 : (n' : Int) < (s.length : Int) := by omega
      replace hn' := hid hn'
      replace hsl2 := hid hsl2
      clear hs hcall hown hlt0
      go_wp2
      go_ret
      exact ⟨ret_bool (by rw [hR3.out, Bool.eq_iff_iff]; simp), hb2⟩
  · have hd : decide ((1 : Int) ≤ (l0.length : Int) ∧ (l0.length : Int) ≤ 400) = false := by simp; omega
    have hw1 := specl1In_any (l0.length : Int) 1 400 w
    rw [hd] at hw1
    have hR : Hid (shapeOk (l0.map Node.kids) = false) := hid (by unfold shapeOk; rw [List.length_map, show decide (1 ≤ l0.length ∧ l0.length ≤ 400) = false from by simpa using hin]; simp)
    clear hd hin
    go_enter Try.func73, Try.ntmps73
    go_wp2_with fail
    refine hw1.mono ?_; rintro e w1 ⟨rfl, rfl⟩
    clear hw1
    go_wp2
    go_ret
    exact ⟨ret_bool hR.out.symm, Below.refl _ _⟩

end Go.Proofs.Ytagoeiegdlnalaa
