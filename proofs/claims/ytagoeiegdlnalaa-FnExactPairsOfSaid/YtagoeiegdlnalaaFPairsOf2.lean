/- Walks and lemmas of this seat (FPairsOf2): what each theorem says of the functions that it names. Conditions: those that each theorem states. -/
import Derived.Test.YtagoeiegdlnalaaFPairsOf
namespace Go.Proofs.Ytagoeiegdlnalaa
set_option linter.unusedVariables false
set_option linter.unusedSimpArgs false
open Go.RowKit

set_option maxRecDepth 100000 in
theorem implafterCall_any (l0 : List Token) (v0 : Value) (k : Nat) (hk : k < l0.length) {w : World} (hn0 : bulk Token.sizes l0 ≤ 1048576) (hv0 : Slc w v0 3 l0.length (l0.flatMap Token.cells)) :
    Calls Try.prog 70 #[v0, .int .i64 k] w fun e w' => e = .returned (.bool (afterCallP l0 k)) ∧ ∃ m, w' = w.drewN m := by
  obtain ⟨_, a, cap, rfl, hc, hm, hrow⟩ := hv0
  unfold maxLen at hm
  obtain ⟨b, off, rfl, hro⟩ := slc_some hrow (by omega)
  have hn := length_bulk Token.sizes l0
  cases k with
  | zero =>
    go_enter Try.func70, Try.ntmps70
    go_wp2
    go_ret
    exact ⟨rfl, 0, rfl⟩
  | succ k =>
    obtain ⟨y, hy⟩ := get_of_lt (show k < l0.length by omega)
    have hrw := hro
    have d0 := hrw.flat0 3 Token.len hy rfl
    have hac : afterCallP l0 (k + 1) = (y.kind == 7 || y.kind == 8) := by simp [afterCallP, hy]
    rw [hac]
    clear hy hac
    by_cases h7 : y.kind = 7
    · have h7' : (y.kind == 7) = true := by simp [h7]
      go_enter Try.func70, Try.ntmps70
      go_wp2
      go_ret
      exact ⟨by rw [h7']; rfl, 0, rfl⟩
    · have h7' : (y.kind == 7) = false := by simp [h7]
      go_enter Try.func70, Try.ntmps70
      go_wp2
      go_ret
      exact ⟨by rw [h7']; rfl, 0, rfl⟩

set_option maxRecDepth 100000 in
set_option maxHeartbeats 1600000 in
theorem implPairsOf_any (l0 : List Token) (v0 : Value) (w : World) (hx0 : ∀ x ∈ l0, x.Ok) (hn0 : bulk Token.sizes l0 ≤ 1048576) (hv0 : Slc w v0 3 l0.length (l0.flatMap Token.cells)) :
    Calls Try.prog 36 #[v0] w fun e w' => ∃ v', e = .returned v' ∧ Below w.heap.size w w' ∧ w'.ownsRow w.heap.size 84 2 v' (pairsOf l0 0 l0).length ((pairsOf l0 0 l0).flatMap Span.cells) := by
  have hv0' := hv0
  obtain ⟨_, a, cap, rfl, hc, hm, hrow⟩ := hv0
  unfold maxLen at hm
  have hn := length_bulk Token.sizes l0
  obtain ⟨i0, hi, hz0, hz1, hz2⟩ := info_parts Try.info84
  go_enter Try.func36, Try.ntmps36
  go_wp2
  go_loopw [3, 11] (fun v i wr => ∃ (k : Nat) (acc : List Span), i = .int .i64 k ∧ k ≤ l0.length ∧ acc.length ≤ k ∧ Below w.heap.size w wr ∧ wr.ownsRow w.heap.size 84 2 v acc.length (acc.flatMap Span.cells) ∧ Hid (pairsOf l0 0 l0 = acc ++ pairsOf l0 k (l0.drop k))) (fun _ i _ => l0.length - (intOf i).toNat)
  case atStart => exact ⟨0, [], rfl, by omega, by simp, by repeat (first | exact Below.refl _ _ | refine Below.alloc ?_ (by first | omega | (simp; done) | (simp; omega)) _ | refine Below.drew ?_), own_new0 _ _ _, hid rfl⟩
  obtain ⟨k, acc, rfl, hk, hacc, hb, hown, hrel⟩ := hrel
  obtain ⟨wo, rfl⟩ : ∃ wo : World, wo = wr := ⟨_, rfl⟩
  have hbs := hb.size
  by_cases hlt : k < l0.length
  · obtain ⟨x, hx⟩ := get_of_lt hlt
    obtain ⟨b, off, rfl, hro⟩ := slc_some hrow (by omega)
    have hrw := hro.mono hb (Nat.le_refl _)
    have c0 := hrw.flat0 3 Token.len hx rfl
    have c1 := hrw.flat 3 Token.len hx 1 rfl
    have c2 := hrw.flat 3 Token.len hx 2 rfl
    have hmem := List.mem_of_getElem? hx
    rw [drop_cons hx] at hrel
    have HX := hid hx
    clear hx
    have hno : afterCallP l0 k = true ∨ x.kind ≠ 32 → Hid (pairsOf l0 0 l0 = acc ++ pairsOf l0 (k + 1) (l0.drop (k + 1))) := by
      intro h; refine hid ?_; rw [hrel.out, pairsOf, pairAt, if_neg (by rintro ⟨h1, h2⟩; rcases h with h | h <;> simp_all)]; rfl
    by_cases hk32 : x.kind = 32
    · have hk' : (x.kind != 32) = false := by simp [hk32]
      have hbx : Below wo.heap.size wo (wo.alloc (.cells #[.int .i64 32, .string x.text, .int .i64 x.at_] 82)) := by repeat (first | exact Below.refl _ _ | refine Below.alloc ?_ (by first | omega | (simp; done) | (simp; omega)) _ | refine Below.drew ?_)
      have hbX := hid hbx
      have hsl := hid (hv0'.mono (hb.trans (hbx.mono hbs)) (Nat.le_refl _))
      clear hbx
      by_cases hac : afterCallP l0 k = true
      · replace hno := hno (.inl hac)
        go_wp2_with fail
        refine (implafterCall_any l0 _ k hlt hn0 hsl.out).mono ?_; rintro e w1 ⟨rfl, hm1⟩
        have hb1 : Below wo.heap.size wo w1 := by obtain ⟨m, rfl⟩ := hm1; exact below_drewN hbX.out m
        have hb' := hid (hb.trans (hb1.mono hbs))
        have hown' := hid (own_below hown hb1 (Nat.le_refl _))
        rw [hac]
        clear hown hm1 hb1 hbX hsl
        go_wp2
        all_goals go_roundw
        all_goals first
          | (simp [intOf]; omega)
          | exact ⟨k + 1, acc, by go_num, by omega, by omega, by repeat (first | exact hb'.out | refine Below.alloc ?_ (by first | omega | (simp; done) | (simp; omega)) _ | refine Below.drew ?_), hown'.out, hno⟩
      · have hac : afterCallP l0 k = false := by simpa using hac
        have hyes := hid hac
        clear hno
        go_wp2_with fail
        refine (implafterCall_any l0 _ k hlt hn0 hsl.out).mono ?_; rintro e w1 ⟨rfl, hm1⟩
        have hb1 : Below wo.heap.size wo w1 := by obtain ⟨m, rfl⟩ := hm1; exact below_drewN hbX.out m
        have hb' := hb.trans (hb1.mono hbs)
        have hown' := own_below hown hb1 (Nat.le_refl _)
        have hbs1 := hb1.size
        rw [hac]
        clear hown hm1 hb1 hbX hsl hb hac hrw c0 c1 c2
        have hb := hb'
        replace hown := hown'
        clear hb' hown'
        have hbs := hb.size
        obtain ⟨wo, rfl⟩ : ∃ wo : World, wo = w1 := ⟨_, rfl⟩
        go_wp2
        go_loopw [3, 6, 7] (fun u3' d j w2 => ∃ (q : Nat) (e : Int), u3' = u3 ∧ j = .int .i64 q ∧ k ≤ q ∧ q ≤ l0.length ∧ d = .int .i64 e ∧ -(q : Int) ≤ e ∧ e ≤ q ∧ Below wo.heap.size wo w2 ∧ Hid (pairEnd (x :: l0.drop (k + 1)) (k) 0 = pairEnd (l0.drop q) q e)) (fun _ _ j _ => l0.length - (intOf j).toNat)
        case atStart => exact ⟨k, 0, rfl, by go_num, by omega, by omega, rfl, by omega, by omega, by repeat (first | exact Below.refl _ _ | refine Below.alloc ?_ (by first | omega | (simp; done) | (simp; omega)) _ | refine Below.drew ?_), hid (by rw [drop_cons HX.out])⟩
        obtain ⟨q, e, rfl, rfl, hkq, hq, rfl, he0, he1, hbi, hre⟩ := hrel
        by_cases hlq : q < l0.length
        · obtain ⟨z, hz⟩ := get_of_lt hlq
          have hbw : Below w.heap.size w wr := hb.trans (hbi.mono hbs)
          have hrw2 := hro.mono hbw (Nat.le_refl _)
          have e0 := hrw2.flat0 3 Token.len hz rfl
          have hownI := own_below hown hbi (Nat.le_refl _)
          have hDR := hid (drop_cons hz)
          have hbis := hbi.size
          have hbws := hbw.size
          clear hz hown hb
          replace hown := hownI
          have hb := hbw
          clear hownI
          go_wp2_with (at_builtin; refine wpList_append_own _ rfl _ _ 43 rfl w.heap.size 84 i0 _ 2 16 Try.underlying43 hi hz0 hz1 hz2 rfl (by decide) _ acc.length (acc.flatMap Span.cells) rfl (hown.alloc _) _ _ _ (Span.cells ⟨((k : Nat) : Int), (q : Int)⟩) rfl rfl (new_cells_at _ _ _ _ _ rfl (by first | rfl | simp)) (by intro u hu; simp [Span.cells] at hu; rcases hu with rfl | rfl | rfl | rfl | rfl <;> rfl) (by unfold maxLen; omega) (by omega) (by first | omega | (simp; done) | (simp; omega)) ?_; intro v2 w2 hown2 hgr2 hiff; clear hiff; have hb2 := app_below (hb.alloc (by first | omega | (simp; done) | (simp; omega)) _) (hown.alloc _) hgr2)
          all_goals go_roundw
          all_goals first
            | (simp [intOf]; omega)
            | exact ⟨k + 1, acc ++ [⟨((k : Nat) : Int), (q : Int)⟩], by go_num, by omega, by simp only [List.length_append, List.length_singleton]; omega, hb2, by simpa using hown2, hid (by rw [hrel.out, pairsOf, pairAt, if_pos ⟨hk32, hyes.out⟩, hre.out, hDR.out, show pairEnd (z :: l0.drop (q + 1)) q e = some q from (by first | exact pairEnd_s1 (by assumption) (by assumption) | exact pairEnd_s2 (by assumption) (by assumption) (by assumption) | exact pairEnd_s3 (by assumption) (by assumption) (by assumption))]; simp)⟩
            | exact ⟨q + 1, _, rfl, by go_num, by omega, by omega, rfl, by omega, by omega, by repeat (first | exact hbi | refine Below.alloc ?_ (by first | omega | (simp; done) | (simp; omega)) _ | refine Below.drew ?_), hid ((hre.out.trans (by rw [hDR.out])).trans (by first | exact pairEnd_n1 (by assumption) (by assumption) | exact pairEnd_n2 (by assumption) (by assumption) (by assumption) | exact pairEnd_n3 (by assumption) (by assumption) (by assumption)))⟩
            | (exfalso; simp_all; done)
            | (exfalso; simp_all; omega)
        · go_wp2
          all_goals go_roundw
          all_goals first
            | (simp [intOf]; omega)
            | exact ⟨k + 1, acc, by go_num, by omega, by omega, by repeat (first | exact hb.trans (hbi.mono hbs) | refine Below.alloc ?_ (by first | omega | (simp; done) | (simp; omega)) _ | refine Below.drew ?_), by repeat (first | exact own_below hown hbi (Nat.le_refl _) | refine World.ownsRow.alloc ?_ _), hid (by rw [hrel.out, pairsOf, pairAt, if_pos ⟨hk32, hyes.out⟩, hre.out, List.drop_of_length_le (by omega), pairEnd]; simp)⟩
    · have hk' : (x.kind != 32) = true := by simp [hk32]
      replace hno := hno (.inr hk32)
      go_wp2
      all_goals go_roundw
      all_goals first
        | (simp [intOf]; omega)
        | exact ⟨k + 1, acc, by go_num, by omega, by omega, by repeat (first | exact hb | refine Below.alloc ?_ (by first | omega | (simp; done) | (simp; omega)) _ | refine Below.drew ?_), by repeat (first | exact hown | refine World.ownsRow.alloc ?_ _), hno⟩
  · go_wp2
    go_ret
    rw [hrel.out, List.drop_of_length_le (by omega)]
    simp only [pairsOf, List.append_nil]
    exact ⟨_, rfl, hb, hown⟩

end Go.Proofs.Ytagoeiegdlnalaa
