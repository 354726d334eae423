/- Walks and lemmas of this seat (FPairsOf): what each theorem says of the functions that it names. Conditions: those that each theorem states. -/
import Derived.Test.YtagoeiegdlnalaaRows
import Derived.Test.YtagoeiegdlnalaaHToken
namespace Go.Proofs.Ytagoeiegdlnalaa
set_option linter.unusedVariables false
set_option linter.unusedSimpArgs false
open Go.RowKit

theorem Try.info84 : (Try.prog.info? 84).map (fun i => (i.zero, i.size, i.bytes)) = some (some (.agg #[.int .i64 0, .int .i64 0]), 2, 16) := by kernel_rfl
/-- The place of the bracket that closes. -/
def pairEnd : List Token → Nat → Int → Option Nat
  | [], _, _ => none
  | x :: l, k, d => let e := if x.kind = 32 then d + 1 else if x.kind = 33 then d - 1 else d
      if e = 0 then some k else pairEnd l (k + 1) e
/-- Is the token ahead of place k one that a call's bracket follows? -/
def afterCallP (l : List Token) : Nat → Bool
  | 0 => false
  | k + 1 => match l[k]? with | some y => y.kind == 7 || y.kind == 8 | none => false
def pairAt (l0 : List Token) (k : Nat) (x : Token) (l : List Token) : List Span :=
  if x.kind = 32 ∧ afterCallP l0 k = false then (match pairEnd (x :: l) k 0 with | some e => [⟨(k : Int), (e : Int)⟩] | none => []) else []
def pairsOf (l0 : List Token) : Nat → List Token → List Span
  | _, [] => []
  | k, x :: l => pairAt l0 k x l ++ pairsOf l0 (k + 1) l
theorem pairAt_len (l0 : List Token) (k : Nat) (x : Token) (l : List Token) : (pairAt l0 k x l).length ≤ 1 := by
  unfold pairAt; repeat' split
  all_goals simp
theorem pairsOf_len (l0 l : List Token) : ∀ k, (pairsOf l0 k l).length ≤ l.length := by
  induction l with
  | nil => intro k; simp [pairsOf]
  | cons x l ih => intro k; have := ih (k + 1); have := pairAt_len l0 k x l; unfold pairsOf; simp; omega
theorem pairEnd_some {x : Token} {l : List Token} {k : Nat} {d e : Int} (he : (if x.kind = 32 then d + 1 else if x.kind = 33 then d - 1 else d) = e) (h : e = 0) : pairEnd (x :: l) k d = some k := by
  subst he; rw [pairEnd]; simp only [h, if_true]
theorem pairEnd_some' {x : Token} {l : List Token} {k : Nat} {d : Int} (he : (if x.kind = 32 then d + 1 else if x.kind = 33 then d - 1 else d) = 0) : pairEnd (x :: l) k d = some k := pairEnd_some rfl he
theorem pairEnd_next {x : Token} {l : List Token} {k : Nat} {d e : Int} (he : (if x.kind = 32 then d + 1 else if x.kind = 33 then d - 1 else d) = e) (h : e ≠ 0) : pairEnd (x :: l) k d = pairEnd l (k + 1) e := by
  subst he; rw [pairEnd]; simp only [h, if_false]

theorem pairEnd_n1 {x : Token} {l : List Token} {k : Nat} {d : Int} (h1 : (x.kind == 32) = true) (h3 : (d + 1 == 0) = false) : pairEnd (x :: l) k d = pairEnd l (k + 1) (d + 1) :=
  pairEnd_next (by rw [if_pos (by simpa using h1)]) (by simpa using h3)
theorem pairEnd_n2 {x : Token} {l : List Token} {k : Nat} {d : Int} (h1 : (x.kind == 32) = false) (h2 : (x.kind == 33) = true) (h3 : (d - 1 == 0) = false) : pairEnd (x :: l) k d = pairEnd l (k + 1) (d - 1) :=
  pairEnd_next (by rw [if_neg (by simpa using h1), if_pos (by simpa using h2)]) (by simpa using h3)
theorem pairEnd_n3 {x : Token} {l : List Token} {k : Nat} {d : Int} (h1 : (x.kind == 32) = false) (h2 : (x.kind == 33) = false) (h3 : (d == 0) = false) : pairEnd (x :: l) k d = pairEnd l (k + 1) d :=
  pairEnd_next (by rw [if_neg (by simpa using h1), if_neg (by simpa using h2)]) (by simpa using h3)
theorem pairEnd_s1 {x : Token} {l : List Token} {k : Nat} {d : Int} (h1 : (x.kind == 32) = true) (h3 : (d + 1 == 0) = true) : pairEnd (x :: l) k d = some k :=
  pairEnd_some' (by rw [if_pos (by simpa using h1)]; simpa using h3)
theorem pairEnd_s2 {x : Token} {l : List Token} {k : Nat} {d : Int} (h1 : (x.kind == 32) = false) (h2 : (x.kind == 33) = true) (h3 : (d - 1 == 0) = true) : pairEnd (x :: l) k d = some k :=
  pairEnd_some' (by rw [if_neg (by simpa using h1), if_pos (by simpa using h2)]; simpa using h3)
theorem pairEnd_s3 {x : Token} {l : List Token} {k : Nat} {d : Int} (h1 : (x.kind == 32) = false) (h2 : (x.kind == 33) = false) (h3 : (d == 0) = true) : pairEnd (x :: l) k d = some k :=
  pairEnd_some' (by rw [if_neg (by simpa using h1), if_neg (by simpa using h2)]; simpa using h3)

set_option maxRecDepth 100000 in
set_option maxHeartbeats 1600000 in
theorem specPairsOf_any (l0 : List Token) (v0 : Value) (w : World) (hx0 : ∀ x ∈ l0, x.Ok) (hn0 : bulk Token.sizes l0 ≤ 1048576) (hv0 : Slc w v0 3 l0.length (l0.flatMap Token.cells)) :
    Calls Try.prog 34 #[v0] w fun e w' => ∃ v', e = .returned v' ∧ Below w.heap.size w w' ∧ w'.ownsRow w.heap.size 84 2 v' (pairsOf l0 0 l0).length ((pairsOf l0 0 l0).flatMap Span.cells) := by
  obtain ⟨_, a, cap, rfl, hc, hm, hrow⟩ := hv0
  unfold maxLen at hm
  have hn := length_bulk Token.sizes l0
  obtain ⟨i0, hi, hz0, hz1, hz2⟩ := info_parts Try.info84
  go_enter Try.func34, Try.ntmps34
  go_wp2
  go_loopw [3, 4] (fun v i wr => ∃ (k : Nat) (acc : List Span), i = .int .i64 k ∧ k ≤ l0.length ∧ acc.length ≤ k ∧ Below w.heap.size w wr ∧ wr.ownsRow w.heap.size 84 2 v acc.length (acc.flatMap Span.cells) ∧ Hid (pairsOf l0 0 l0 = acc ++ pairsOf l0 k (l0.drop k))) (fun _ i _ => l0.length - (intOf i).toNat)
  case atStart => exact ⟨0, [], rfl, by omega, by simp, by repeat (first | exact Below.refl _ _ | refine Below.alloc ?_ (by first | omega | (simp; done) | (simp; omega)) _ | refine Below.drew ?_), own_new0 _ _ _, hid rfl⟩
  obtain ⟨k, acc, rfl, hk, hacc, hb, hown, hrel⟩ := hrel
  obtain ⟨wo, rfl⟩ : ∃ wo : World, wo = wr := ⟨_, rfl⟩
  have hbs := hb.size
  by_cases hlt : k < l0.length
  · obtain ⟨x, hx⟩ := get_of_lt hlt
    obtain ⟨b, off, rfl, hro⟩ := slc_some hrow (by omega)
    have hrw := hro.mono hb (Nat.le_refl _)
    have c0 := hrw.flat0 3 Token.len hx rfl
    have c1 := hrw.flat 3 Token.len hx 1 rfl
    have c2 := hrw.flat 3 Token.len hx 2 rfl
    have hmem := List.mem_of_getElem? hx
    rw [drop_cons hx] at hrel
    have HX := hid hx
    clear hx
    have hno : afterCallP l0 k = true ∨ x.kind ≠ 32 → Hid (pairsOf l0 0 l0 = acc ++ pairsOf l0 (k + 1) (l0.drop (k + 1))) := by
      intro h; refine hid ?_; rw [hrel.out, pairsOf, pairAt, if_neg (by rintro ⟨h1, h2⟩; rcases h with h | h <;> simp_all)]; rfl
    by_cases hk32 : x.kind = 32
    · have hk' : (x.kind != 32) = false := by simp [hk32]
      have key : afterCallP l0 k = false → ∀ u3, wo.ownsRow w.heap.size 84 2 u3 acc.length (acc.flatMap Span.cells) → True := fun _ _ _ => trivial
      clear key
      cases k with
      | zero =>
        have hyes : Hid (afterCallP l0 0 = false) := hid rfl
        simp only [Nat.zero_mul, Nat.add_zero] at c0 c1 c2
        clear hno
        go_wp2
        go_loopw [3, 5, 6] (fun u3' d j w2 => ∃ (q : Nat) (e : Int), u3' = u3 ∧ j = .int .i64 q ∧ 0 ≤ q ∧ q ≤ l0.length ∧ d = .int .i64 e ∧ -(q : Int) ≤ e ∧ e ≤ q ∧ Below wo.heap.size wo w2 ∧ Hid (pairEnd (x :: l0.drop (0 + 1)) (0) 0 = pairEnd (l0.drop q) q e)) (fun _ _ j _ => l0.length - (intOf j).toNat)
        case atStart => exact ⟨0, 0, rfl, by go_num, by omega, by omega, rfl, by omega, by omega, by repeat (first | exact Below.refl _ _ | refine Below.alloc ?_ (by first | omega | (simp; done) | (simp; omega)) _ | refine Below.drew ?_), hid (by rw [drop_cons HX.out])⟩
        obtain ⟨q, e, rfl, rfl, hkq, hq, rfl, he0, he1, hbi, hre⟩ := hrel
        by_cases hlq : q < l0.length
        · obtain ⟨z, hz⟩ := get_of_lt hlq
          have hbw : Below w.heap.size w wr := hb.trans (hbi.mono hbs)
          have hrw2 := hro.mono hbw (Nat.le_refl _)
          have e0 := hrw2.flat0 3 Token.len hz rfl
          have hownI := own_below hown hbi (Nat.le_refl _)
          have hDR := hid (drop_cons hz)
          have hbis := hbi.size
          have hbws := hbw.size
          clear hz hrw hown hb c0 c1 c2
          replace hown := hownI
          have hb := hbw
          clear hownI
          go_wp2_with (at_builtin; refine wpList_append_own _ rfl _ _ 43 rfl w.heap.size 84 i0 _ 2 16 Try.underlying43 hi hz0 hz1 hz2 rfl (by decide) _ acc.length (acc.flatMap Span.cells) rfl (hown.alloc _) _ _ _ (Span.cells ⟨((0 : Nat) : Int), (q : Int)⟩) rfl rfl (new_cells_at _ _ _ _ _ rfl (by first | rfl | simp)) (by intro u hu; simp [Span.cells] at hu; rcases hu with rfl | rfl | rfl | rfl | rfl <;> rfl) (by unfold maxLen; omega) (by omega) (by first | omega | (simp; done) | (simp; omega)) ?_; intro v2 w2 hown2 hgr2 hiff; clear hiff; have hb2 := app_below (hb.alloc (by first | omega | (simp; done) | (simp; omega)) _) (hown.alloc _) hgr2)
          all_goals go_roundw
          all_goals first
            | (simp [intOf]; omega)
            | exact ⟨0 + 1, acc ++ [⟨((0 : Nat) : Int), (q : Int)⟩], by go_num, by omega, by simp only [List.length_append, List.length_singleton]; omega, hb2, by simpa using hown2, hid (by rw [hrel.out, pairsOf, pairAt, if_pos ⟨hk32, hyes.out⟩, hre.out, hDR.out, show pairEnd (z :: l0.drop (q + 1)) q e = some q from (by first | exact pairEnd_s1 (by assumption) (by assumption) | exact pairEnd_s2 (by assumption) (by assumption) (by assumption) | exact pairEnd_s3 (by assumption) (by assumption) (by assumption))]; simp)⟩
            | exact ⟨q + 1, _, rfl, by go_num, by omega, by omega, rfl, by omega, by omega, by repeat (first | exact hbi | refine Below.alloc ?_ (by first | omega | (simp; done) | (simp; omega)) _ | refine Below.drew ?_), hid ((hre.out.trans (by rw [hDR.out])).trans (by first | exact pairEnd_n1 (by assumption) (by assumption) | exact pairEnd_n2 (by assumption) (by assumption) (by assumption) | exact pairEnd_n3 (by assumption) (by assumption) (by assumption)))⟩
            | (exfalso; simp_all; done)
            | (exfalso; simp_all; omega)
        · go_wp2
          all_goals go_roundw
          all_goals first
            | (simp [intOf]; omega)
            | exact ⟨0 + 1, acc, by go_num, by omega, by omega, by repeat (first | exact hb.trans (hbi.mono hbs) | refine Below.alloc ?_ (by first | omega | (simp; done) | (simp; omega)) _ | refine Below.drew ?_), by repeat (first | exact own_below hown hbi (Nat.le_refl _) | refine World.ownsRow.alloc ?_ _), hid (by rw [hrel.out, pairsOf, pairAt, if_pos ⟨hk32, hyes.out⟩, hre.out, List.drop_of_length_le (by omega), pairEnd]; simp)⟩
      | succ k' =>
        obtain ⟨y, hy⟩ := get_of_lt (show k' < l0.length by omega)
        have d0 := hrw.flat0 3 Token.len hy rfl
        have hpa : afterCallP l0 (k' + 1) = (y.kind == 7 || y.kind == 8) := by simp [afterCallP, hy]
        clear hy
        by_cases h7 : y.kind = 7
        · replace hno := hno (.inl (by simp [hpa, h7]))
          clear hpa
          go_wp2
          all_goals go_roundw
          all_goals first
            | (simp [intOf]; omega)
            | exact ⟨k' + 1 + 1, acc, by go_num, by omega, by omega, by repeat (first | exact hb | refine Below.alloc ?_ (by first | omega | (simp; done) | (simp; omega)) _ | refine Below.drew ?_), by repeat (first | exact hown | refine World.ownsRow.alloc ?_ _), hno⟩
        · have h7' : (y.kind == 7) = false := by simp [h7]
          by_cases h8 : y.kind = 8
          · replace hno := hno (.inl (by simp [hpa, h8]))
            clear hpa
            go_wp2
            all_goals go_roundw
            all_goals first
              | (simp [intOf]; omega)
              | exact ⟨k' + 1 + 1, acc, by go_num, by omega, by omega, by repeat (first | exact hb | refine Below.alloc ?_ (by first | omega | (simp; done) | (simp; omega)) _ | refine Below.drew ?_), by repeat (first | exact hown | refine World.ownsRow.alloc ?_ _), hno⟩
          · have h8' : (y.kind == 8) = false := by simp [h8]
            have hyes : Hid (afterCallP l0 (k' + 1) = false) := hid (by simp [hpa, h7, h8])
            clear hpa
            clear hno
            go_wp2
            go_loopw [3, 5, 6] (fun u3' d j w2 => ∃ (q : Nat) (e : Int), u3' = u3 ∧ j = .int .i64 q ∧ k' + 1 ≤ q ∧ q ≤ l0.length ∧ d = .int .i64 e ∧ -(q : Int) ≤ e ∧ e ≤ q ∧ Below wo.heap.size wo w2 ∧ Hid (pairEnd (x :: l0.drop (k' + 1 + 1)) (k' + 1) 0 = pairEnd (l0.drop q) q e)) (fun _ _ j _ => l0.length - (intOf j).toNat)
            case atStart => exact ⟨k' + 1, 0, rfl, by go_num, by omega, by omega, rfl, by omega, by omega, by repeat (first | exact Below.refl _ _ | refine Below.alloc ?_ (by first | omega | (simp; done) | (simp; omega)) _ | refine Below.drew ?_), hid (by rw [drop_cons HX.out])⟩
            obtain ⟨q, e, rfl, rfl, hkq, hq, rfl, he0, he1, hbi, hre⟩ := hrel
            by_cases hlq : q < l0.length
            · obtain ⟨z, hz⟩ := get_of_lt hlq
              have hbw : Below w.heap.size w wr := hb.trans (hbi.mono hbs)
              have hrw2 := hro.mono hbw (Nat.le_refl _)
              have e0 := hrw2.flat0 3 Token.len hz rfl
              have hownI := own_below hown hbi (Nat.le_refl _)
              have hDR := hid (drop_cons hz)
              have hbis := hbi.size
              have hbws := hbw.size
              clear hz hrw hown hb c0 c1 c2
              replace hown := hownI
              have hb := hbw
              clear hownI
              go_wp2_with (at_builtin; refine wpList_append_own _ rfl _ _ 43 rfl w.heap.size 84 i0 _ 2 16 Try.underlying43 hi hz0 hz1 hz2 rfl (by decide) _ acc.length (acc.flatMap Span.cells) rfl (hown.alloc _) _ _ _ (Span.cells ⟨((k' + 1 : Nat) : Int), (q : Int)⟩) rfl rfl (new_cells_at _ _ _ _ _ rfl (by first | rfl | simp)) (by intro u hu; simp [Span.cells] at hu; rcases hu with rfl | rfl | rfl | rfl | rfl <;> rfl) (by unfold maxLen; omega) (by omega) (by first | omega | (simp; done) | (simp; omega)) ?_; intro v2 w2 hown2 hgr2 hiff; clear hiff; have hb2 := app_below (hb.alloc (by first | omega | (simp; done) | (simp; omega)) _) (hown.alloc _) hgr2)
              all_goals go_roundw
              all_goals first
                | (simp [intOf]; omega)
                | exact ⟨(k' + 1) + 1, acc ++ [⟨(((k' + 1) : Nat) : Int), (q : Int)⟩], by go_num, by omega, by simp only [List.length_append, List.length_singleton]; omega, hb2, by simpa using hown2, hid (by rw [hrel.out, pairsOf, pairAt, if_pos ⟨hk32, hyes.out⟩, hre.out, hDR.out, show pairEnd (z :: l0.drop (q + 1)) q e = some q from (by first | exact pairEnd_s1 (by assumption) (by assumption) | exact pairEnd_s2 (by assumption) (by assumption) (by assumption) | exact pairEnd_s3 (by assumption) (by assumption) (by assumption))]; simp)⟩
                | exact ⟨q + 1, _, rfl, by go_num, by omega, by omega, rfl, by omega, by omega, by repeat (first | exact hbi | refine Below.alloc ?_ (by first | omega | (simp; done) | (simp; omega)) _ | refine Below.drew ?_), hid ((hre.out.trans (by rw [hDR.out])).trans (by first | exact pairEnd_n1 (by assumption) (by assumption) | exact pairEnd_n2 (by assumption) (by assumption) (by assumption) | exact pairEnd_n3 (by assumption) (by assumption) (by assumption)))⟩
                | (exfalso; simp_all; done)
                | (exfalso; simp_all; omega)
            · go_wp2
              all_goals go_roundw
              all_goals first
                | (simp [intOf]; omega)
                | exact ⟨(k' + 1) + 1, acc, by go_num, by omega, by omega, by repeat (first | exact hb.trans (hbi.mono hbs) | refine Below.alloc ?_ (by first | omega | (simp; done) | (simp; omega)) _ | refine Below.drew ?_), by repeat (first | exact own_below hown hbi (Nat.le_refl _) | refine World.ownsRow.alloc ?_ _), hid (by rw [hrel.out, pairsOf, pairAt, if_pos ⟨hk32, hyes.out⟩, hre.out, List.drop_of_length_le (by omega), pairEnd]; simp)⟩
    · have hk' : (x.kind != 32) = true := by simp [hk32]
      replace hno := hno (.inr hk32)
      go_wp2
      all_goals go_roundw
      all_goals first
        | (simp [intOf]; omega)
        | exact ⟨k + 1, acc, by go_num, by omega, by omega, by repeat (first | exact hb | refine Below.alloc ?_ (by first | omega | (simp; done) | (simp; omega)) _ | refine Below.drew ?_), by repeat (first | exact hown | refine World.ownsRow.alloc ?_ _), hno⟩
  · go_wp2
    go_ret
    rw [hrel.out, List.drop_of_length_le (by omega)]
    simp only [pairsOf, List.append_nil]
    exact ⟨_, rfl, hb, hown⟩

end Go.Proofs.Ytagoeiegdlnalaa
