/- Walks and lemmas of this seat (FDocStarts): what each theorem says of the functions that it names. Conditions: those that each theorem states. -/
import Derived.Test.YtfabfkaolnidiaaGD
import Derived.Test.YtfabfkaolnidiaaDataDNode
import Derived.Test.YtfabfkaolnidiaaGA
namespace Go.Proofs.Ytfabfkaolnidiaa
set_option linter.unusedVariables false
set_option linter.unusedSimpArgs false
open Go.RowKit

theorem implwithin_an (a b c : Int) (w : World) : Calls Try.prog 40 #[.int .i64 a, .int .i64 b, .int .i64 c] w fun e w' => e = .returned (.bool (decide (b ≤ a ∧ a ≤ c))) ∧ w = w' := by
  rw [show decide (b ≤ a ∧ a ≤ c) = inB a b c from by unfold inB; rw [Bool.decide_and]]
  exact implwithin_any a b c w
theorem specl1In_an (a b c : Int) (w : World) : Calls Try.prog 33 #[.int .i64 a, .int .i64 b, .int .i64 c] w fun e w' => e = .returned (.bool (decide (b ≤ a ∧ a ≤ c))) ∧ w = w' := by
  rw [show decide (b ≤ a ∧ a ≤ c) = inB a b c from by unfold inB; rw [Bool.decide_and]]
  exact specl1In_any a b c w
theorem own_drewN {w : World} {B : Nat} {e : TypeId} {s n : Nat} {v : Value} {xs : List Value} (h : w.ownsRow B e s v n xs) (k : Nat) : (w.drewN k).ownsRow B e s v n xs := h
theorem cell_drewN {w : World} {a : Addr} {u : Value} (h : w.cell? a = some u) (k : Nat) : (w.drewN k).cell? a = some u := h

set_option maxRecDepth 100000 in
set_option maxHeartbeats 1600000 in
theorem specl15Starts_any (l0 : List DNode) (v0 : Value) (w : World) (hn0 : l0.length ≤ 1048576) (hx0 : ∀ x ∈ l0, x.Ok) (hv0 : DNodeSlc w v0 l0) :
    Calls Try.prog 58 #[v0] w fun e w' => StartsPost w (l0.map DNode.kids) e w' := by
  obtain ⟨a, cap, rfl, hm, hc, hsl⟩ := hv0.shape
  obtain ⟨i0, hi, hz0, hz1, hz2⟩ := info_parts Try.info3
  go_enter Try.func58, Try.ntmps58
  go_wp2
  go_loopw [4, 5] (fun v i wr => ∃ (k : Nat) (out : List Nat), i = .int .i64 k ∧ k ≤ l0.length ∧ out.length = k ∧ Low out ∧ Below w.heap.size w wr ∧ wr.ownsRow w.heap.size 3 1 v out.length (out.flatMap nat1) ∧ Hid (starts (l0.map DNode.kids) = startsL out ((l0.drop k).map DNode.kids))) (fun _ i _ => l0.length - (intOf i).toNat)
  case atStart => exact ⟨0, [], rfl, by omega, rfl, Low.nil, by repeat (first | exact Below.refl _ _ | refine Below.alloc ?_ (by first | omega | (simp; done) | (simp; omega)) _ | refine Below.drew ?_), own_new0 _ _ _, hid rfl⟩
  obtain ⟨k, out, rfl, hk, hol, hlow, hb, hown, hrel⟩ := hrel
  have hbs := hb.size
  by_cases hlt : k < l0.length
  · obtain ⟨x, ka, kc, b, off, hx, rfl, c0, c1, c2, c3, hkd⟩ := hsl.at hb (Nat.le_refl _) hlt
    have hxo := hx0 x (List.mem_of_getElem? hx)
    rw [drop_cons hx, List.map_cons] at hrel
    have HR := hrel
    clear hx hrel
    obtain ⟨_, _, _, hkv, hkc, hkm, hkrow⟩ := hkd
    simp at hkv
    obtain ⟨rfl, rfl⟩ := hkv
    unfold DNode.Ok at hxo
    obtain ⟨_, _, _, hki, hkl⟩ := hxo
    unfold maxLen at hkm hkl
    replace hlow := hid hlow
    replace hki := hid hki
    go_wp2
    go_loop [6, 7] (fun at_ j => ∃ (a q : Nat) (z : Int), at_ = .int .i64 a ∧ j = .int .i64 z ∧ z = (q : Int) - 1 ∧ q ≤ x.kids.length ∧ a ≤ k ∧ Hid (stepK out x.kids.reverse k = stepK out (x.kids.take q).reverse a)) (fun _ j => (intOf j + 1).toNat)
    case atStart => exact ⟨k, x.kids.length, _, rfl, rfl, by omega, by omega, by omega, hid (by rw [List.take_length])⟩
    obtain ⟨a, q, z, rfl, rfl, hz, hq, ha, hst⟩ := hrel
    by_cases hq0 : q = 0
    · subst hq0
      have hzn : z < 0 := by omega
      have hzd : decide (z ≥ 0) = false := by simp; omega
      have hst2 : Hid (stepK out x.kids.reverse k = some a) := hid (hst.out.trans rfl)
      clear hst hz
      have hol2 : out.length ≤ 1048576 := by omega
      replace hol := hid hol
      go_wp2_with (at_builtin; refine wpList_append_own _ rfl _ _ 47 rfl w.heap.size 3 i0 _ 1 8 Try.underlying47 hi hz0 hz1 hz2 rfl (by decide) _ out.length (out.flatMap nat1) rfl (hown.alloc _) _ _ _ (nat1 a) rfl rfl (new_cells_at _ _ _ _ _ rfl (by first | rfl | simp)) (by intro u hu; simp [nat1] at hu; rcases hu with rfl | rfl | rfl | rfl | rfl <;> rfl) (by unfold maxLen; omega) (by omega) (by first | omega | (simp; done) | (simp; omega)) ?_; intro v2 w2 hown2 hgr2 hiff; clear hiff; have hb2 := app_below (hb.alloc (by first | omega | (simp; done) | (simp; omega)) _) (hown.alloc _) hgr2)
      all_goals go_roundw
      all_goals first
        | (simp [intOf]; omega)
        | exact ⟨k + 1, out ++ [a], by go_num, by omega, by have := hol.out; simp; omega, hlow.out.snoc (by have := hol.out; omega), hb2, by simpa using hown2, hid (HR.out.trans (startsL_go (by rw [hol.out]; exact hst2.out)))⟩
    · obtain ⟨q', rfl⟩ : ∃ q', q = q' + 1 := ⟨q - 1, by omega⟩
      obtain rfl : z = (q' : Int) := by omega
      clear hz hq0
      obtain ⟨kid, hkid⟩ := get_of_lt (show q' < x.kids.length by omega)
      obtain ⟨kb, koff, rfl, hkro⟩ := slc_some hkrow (by omega)
      have d0 := hkro.one int1_len hkid rfl
      have hk64 := hki.out kid (List.mem_of_getElem? hkid)
      unfold I64 at hk64
      have hno := fun h => stepK_no (out := out) (a := a) hkid h
      have hgo := fun a' h => stepK_go (out := out) (a := a') hkid h
      clear hkid hkro
      by_cases hbad : kid = (a : Int) - 1 ∧ 0 < a
      · obtain ⟨a', rfl⟩ : ∃ a', a = a' + 1 := ⟨a - 1, by omega⟩
        obtain rfl : kid = (a' : Int) := by omega
        have hst2 := hid (hst.out.trans (hgo a' rfl))
        clear hst hno hgo hbad
        obtain ⟨g, cp, rfl, hcp⟩ := own_slice' hown (by omega)
        have r0 := own_read hown (nat1_at (show a' < out.length by omega))
        have hlt2 : a' < out.length := by omega
        have hle := hlow.out.getD a'
        generalize out.getD a' 0 = a2 at r0 hle hst2
        go_wp2
        all_goals go_round
        all_goals first
          | (simp [intOf]; done)
          | (simp [intOf]; omega)
          | (show ((q' : Int) - 1 + 1).toNat < ((q' : Int) + 1).toNat; omega)
          | exact ⟨a2, q', _, rfl, rfl, by omega, by omega, by omega, hst2⟩
      · have hst2 := hid (startsL_no (l := (l0.drop (k + 1)).map DNode.kids) ((show _ = none from hol ▸ hst.out.trans (hno (by omega)))))
        have hR2 := hid (HR.out.trans hst2.out)
        clear hst hno hgo HR hst2
        go_wp2
        all_goals first
          | (go_ret2; exact ⟨by repeat (first | exact hb | refine Below.alloc ?_ (by first | omega | (simp; done) | (simp; omega)) _ | refine Below.drew ?_), .inl ⟨hR2.out, _, rfl⟩⟩)
          | (go_ways; sorry)
  · go_wp2
    go_ret2
    exact ⟨hb, .inr ⟨out, _, by rw [hrel.out, List.drop_of_length_le (by omega)]; rfl, rfl, hown⟩⟩

set_option maxRecDepth 100000 in
set_option maxHeartbeats 1600000 in
theorem impldocStarts_any (l0 : List DNode) (v0 : Value) (w : World) (hn0 : l0.length ≤ 1048576) (hx0 : ∀ x ∈ l0, x.Ok) (hv0 : DNodeSlc w v0 l0) :
    Calls Try.prog 63 #[v0] w fun e w' => ImplStartsPost w 4000 (l0.map DNode.kids) e w' := by
  obtain ⟨a, cap, rfl, hm, hc, hsl⟩ := hv0.shape
  by_cases hin : 1 ≤ l0.length ∧ l0.length ≤ 4000
  · have hd : decide ((1 : Int) ≤ (l0.length : Int) ∧ (l0.length : Int) ≤ 4000) = true := by simp; omega
    have hin2 : decide (1 ≤ (l0.map DNode.kids).length ∧ (l0.map DNode.kids).length ≤ 4000) = true := by simp; omega
    have hw1 := implwithin_an (l0.length : Int) 1 4000 w
    rw [hd] at hw1
    obtain ⟨i0, hi, hz0, hz1, hz2⟩ := info_parts Try.info3
    replace hin2 := hid hin2
    clear hd
    go_enter Try.func63, Try.ntmps63
    go_wp2_with fail
    refine hw1.mono ?_; rintro e w1 ⟨rfl, rfl⟩
    clear hw1
    go_wp2_with (at_make; refine wpList_make_full _ rfl _ _ 47 rfl w.heap.size 3 i0 _ 1 Try.underlying47 hi hz0 hz1 .i64 .i64 l0.length l0.length l0.length rfl rfl rfl rfl ?c1 ?c2 ?c3 ?c4)
    case c1 => rw [hz2]; omega
    case c2 => unfold maxLen; omega
    case c3 => exact Nat.le_refl _
    case c4 =>
    intro w1 hown hgr
    have hb1 : Below w.heap.size w w1 := (Below.refl _ _).grown hgr (Nat.le_refl _) (by simp)
    have hfill := Filling.made hown
    clear hi hz0 hz1 hz2 hown hgr
    go_wp2
    go_loopw [18] (fun i wr => ∃ (k : Nat) (out : List Nat), i = .int .i64 k ∧ k ≤ l0.length ∧ out.length = k ∧ Low out ∧ Below w.heap.size w wr ∧ Filling wr w.heap.size 3 1 w.heap.size l0.length (out.flatMap nat1) ∧ Hid (starts (l0.map DNode.kids) = startsL out ((l0.drop k).map DNode.kids))) (fun i _ => l0.length - (intOf i).toNat)
    case atStart => exact ⟨0, [], rfl, by omega, rfl, Low.nil, hb1, hfill, hid rfl⟩
    clear hb1 hfill
    obtain ⟨k, out, rfl, hk, hol, hlow, hb, hfil, hrel⟩ := hrel
    have hbs := hb.size
    by_cases hlt : k < l0.length
    · obtain ⟨x, ka, kc, b, off, hx, rfl, c0, c1, c2, c3, hkd⟩ := hsl.at hb (Nat.le_refl _) hlt
      have hxo := hx0 x (List.mem_of_getElem? hx)
      rw [drop_cons hx, List.map_cons] at hrel
      have HR := hrel
      clear hx hrel
      obtain ⟨_, _, _, hkv, hkc, hkm, hkrow⟩ := hkd
      simp at hkv
      obtain ⟨rfl, rfl⟩ := hkv
      unfold DNode.Ok at hxo
      obtain ⟨_, _, _, hki, hkl⟩ := hxo
      unfold maxLen at hkm hkl
      have hbA : Below w.heap.size w (wr.alloc (.cells #[.int .i64 x.kind, .int .i64 x.n, .string x.text, .slice ka x.kids.length kc] 49)) := by repeat (first | exact hb | refine Below.alloc ?_ (by first | omega | (simp; done) | (simp; omega)) _ | refine Below.drew ?_)
      replace hlow := hid hlow
      replace hki := hid hki
      have hAl : ∀ o, Below wr.heap.size wr (wr.alloc o) := fun o => (Below.refl _ _).alloc (Nat.le_refl _) o
      have HA := hid hAl
      clear hAl
      obtain ⟨⟨u0, s0⟩, s1⟩ := (hfil.below (HA.out (.cells #[.int .i64 x.kind, .int .i64 x.n, .string x.text, .slice ka x.kids.length kc] 49)) (Nat.le_refl _)).cell k (by omega)
      go_wp2
      go_loop [7, 8] (fun at_ j => ∃ (a q : Nat) (z y : Int), at_ = .int .i64 y ∧ y = (a : Int) - 1 ∧ j = .int .i64 z ∧ z = (q : Int) - 1 ∧ q ≤ x.kids.length ∧ a ≤ k ∧ Hid (stepK out x.kids.reverse k = stepK out (x.kids.take q).reverse a)) (fun _ j => (intOf j + 1).toNat)
      case atStart => exact ⟨k, x.kids.length, _, _, rfl, by omega, rfl, by omega, by omega, by omega, hid (by rw [List.take_length])⟩
      obtain ⟨a, q, z, y, rfl, hy, rfl, hz, hq, ha, hst⟩ := hrel
      by_cases hq0 : q = 0
      · subst hq0
        have hzn : z < 0 := by omega
        have hzd : decide (z ≥ 0) = false := by simp; omega
        have hst2 : Hid (stepK out x.kids.reverse k = some a) := hid (hst.out.trans rfl)
        have hya : y + 1 = (a : Int) := by omega
        have hy1 : -1 ≤ y := by omega
        have hy2 : y ≤ 4000 := by omega
        clear hy
        have hF := hid (Filling.put (hfil.below (HA.out (.cells #[.int .i64 x.kind, .int .i64 x.n, .string x.text, .slice ka x.kids.length kc] 49)) (Nat.le_refl _)) (show out.length < l0.length by omega) a)
        replace hol := hid hol
        clear hst hz hfil
        go_wp2
        all_goals go_roundw
        all_goals first
          | (simp [intOf]; omega)
          | exact ⟨k + 1, out ++ [a], by go_num, by omega, by have := hol.out; simp; omega, hlow.out.snoc (by have := hol.out; omega), hbA.setCell (show w.heap.size ≤ w.heap.size from Nat.le_refl _) _, by have := hF.out; rw [hol.out] at this; exact this, hid (HR.out.trans (startsL_go (by rw [hol.out]; exact hst2.out)))⟩
      · obtain ⟨q', rfl⟩ : ∃ q', q = q' + 1 := ⟨q - 1, by omega⟩
        obtain rfl : z = (q' : Int) := by omega
        clear hz hq0
        obtain ⟨kid, hkid⟩ := get_of_lt (show q' < x.kids.length by omega)
        obtain ⟨kb, koff, rfl, hkro⟩ := slc_some hkrow (by omega)
        have d0 : ∀ o, (wr.alloc o).cell? ⟨kb, koff + q', none⟩ = some (.int .i64 kid) := fun o => (hkro.mono (HA.out o) (Nat.le_refl _)).one int1_len hkid rfl
        have hk64 := hki.out kid (List.mem_of_getElem? hkid)
        unfold I64 at hk64
        have hno := fun h => stepK_no (out := out) (a := a) hkid h
        have hgo := fun a' h => stepK_go (out := out) (a := a') hkid h
        clear hkid hkro
        by_cases hbad : kid = (a : Int) - 1 ∧ 0 < a
        · obtain ⟨a', rfl⟩ : ∃ a', a = a' + 1 := ⟨a - 1, by omega⟩
          obtain rfl : kid = (a' : Int) := by omega
          obtain rfl : y = (a' : Int) := by omega
          have hst2 := hid (hst.out.trans (hgo a' rfl))
          clear hst hno hgo hbad hy
          have r0 : ∀ o, (wr.alloc o).cell? ⟨w.heap.size, a', none⟩ = some (.int .i64 (out.getD a' 0 : Nat)) := fun o => (hfil.below (HA.out o) (Nat.le_refl _)).read (nat1_at (show a' < out.length by omega))
          have hlt2 : a' < l0.length := by omega
          have hle := hlow.out.getD a'
          generalize out.getD a' 0 = a2 at r0 hle hst2
          go_wp2
          all_goals go_round
          all_goals first
            | (simp [intOf]; done)
            | (simp [intOf]; omega)
            | (show ((q' : Int) - 1 + 1).toNat < ((q' : Int) + 1).toNat; omega)
            | exact ⟨a2, q', _, _, rfl, rfl, rfl, rfl, by omega, by omega, hst2⟩
        · have hst2 := hid (startsL_no (l := (l0.drop (k + 1)).map DNode.kids) ((show _ = none from hol ▸ hst.out.trans (hno (by omega)))))
          have hR2 := hid (HR.out.trans hst2.out)
          clear hst hno hgo HR hst2
          have hbad2 : y < 0 ∨ kid ≠ y := by omega
          have hy1 : -1 ≤ y := by omega
          have hy2 : y ≤ 4000 := by omega
          clear hbad hy
          by_cases hy0 : y < 0
          · clear hbad2
            go_wp2
            go_ret2
            exact ⟨hbA, .slice none 0 0, by unfold startsLast; rw [hR2.out]; simp, fun s hs => by rw [hR2.out] at hs; cases hs⟩
          · have hne : ¬ kid = y := by omega
            have hne2 : (kid == y) = false := by simpa using hne
            clear hbad2
            go_wp2
            go_ret2
            exact ⟨hbA, .slice none 0 0, by unfold startsLast; rw [hR2.out]; simp, fun s hs => by rw [hR2.out] at hs; cases hs⟩
    · obtain rfl : k = l0.length := by omega
      have hR2 : Hid (starts (l0.map DNode.kids) = some out) := hid (by rw [hrel.out, List.drop_of_length_le (Nat.le_refl _)]; rfl)
      have hown := hfil.done (by rw [flat_len nat1 1 nat1_len, hol])
      have r0 := own_read hown (nat1_at (show l0.length - 1 < out.length by omega))
      clear hrel hfil
      obtain ⟨n', hn'⟩ : ∃ n', n' = l0.length - 1 := ⟨_, rfl⟩
      rw [← hn'] at r0
      generalize hval : out.getD n' 0 = val at r0
      replace hval := hid hval
      have hR3 : Hid ((s : List Nat) → starts (l0.map DNode.kids) = some s → s = out) := hid (fun s hs => by rw [hR2.out] at hs; simpa using hs.symm)
      have hv : (n' : Int) = (l0.length : Int) - 1 := by omega
      have hwv : IntKind.wrap .i64 ((l0.length : Int) - 1) = (n' : Int) := by rw [← hv]; exact wrap_nat n' (by omega)
      have hi1 : (n' : Int) < (l0.length : Int) := by omega
      have hi2 : n' < l0.length := by omega
      clear hlt
      replace hn' := hid hn'
      clear hv
      go_wp2_with fail
      go_quiet (fail)
      go_wp2
      go_ret2
      refine ⟨below_drewN hb nq, .slice (some ⟨w.heap.size, 0, none⟩) l0.length l0.length, ?_, fun s hs _ _ => ?_⟩
      · refine tup_bool ?_
        unfold startsLast
        rw [hR2.out, hin2.out, Bool.true_and, List.length_map, ← hn'.out]
        show ((val : Int) == 0) = (out.getD n' 0 == 0)
        rw [hval.out, Bool.eq_iff_iff]; simp
      · obtain rfl := hR3.out s hs
        rw [hol]
        exact own_drewN hown nq
  · have hd : decide ((1 : Int) ≤ (l0.length : Int) ∧ (l0.length : Int) ≤ 4000) = false := by simp; omega
    have hin2 : decide (1 ≤ (l0.map DNode.kids).length ∧ (l0.map DNode.kids).length ≤ 4000) = false := by simp; omega
    have hw1 := implwithin_an (l0.length : Int) 1 4000 w
    rw [hd] at hw1
    replace hin2 := hid hin2
    replace hin := hid hin
    clear hd
    go_enter Try.func63, Try.ntmps63
    go_wp2_with fail
    refine hw1.mono ?_; rintro e w1 ⟨rfl, rfl⟩
    clear hw1
    go_wp2
    go_ret2
    exact ⟨Below.refl _ _, _, by rw [hin2.out]; rfl, fun s _ h1 h2 => by rw [List.length_map] at h1 h2; exact absurd ⟨h1, h2⟩ hin.out⟩

end Go.Proofs.Ytfabfkaolnidiaa
