/- Walks and lemmas of this seat (FWithout): what each theorem says of the functions that it names. Conditions: those that each theorem states. -/
import Derived.Test.YtbmaaeddkppbhaaRows
import Derived.Test.YtbmaaeddkppbhaaHToken
namespace Go.Proofs.Ytbmaaeddkppbhaa
set_option linter.unusedVariables false
set_option linter.unusedSimpArgs false
open Go.RowKit

def without (lo hi : Int) : Nat → List Token → List Token
  | _, [] => []
  | k, x :: l => if (k : Int) ≠ lo ∧ (k : Int) ≠ hi then x :: without lo hi (k + 1) l else without lo hi (k + 1) l
theorem without_len (lo hi : Int) (l : List Token) : ∀ k, (without lo hi k l).length ≤ l.length := by
  induction l with
  | nil => intro k; simp [without]
  | cons x l ih => intro k; have := ih (k + 1); unfold without; split <;> simp <;> omega

/-- The world behind the box of the pair. -/
def spanBox (w : World) (p : Span) : World := w.alloc (.cells #[.int .i64 p.lo, .int .i64 p.hi] 56)
theorem spanBox_size (w : World) (p : Span) : (spanBox w p).heap.size = w.heap.size + 1 := by simp [spanBox]
theorem spanBox_lo (w : World) (p : Span) : (spanBox w p).cell? ⟨w.heap.size, 0, none⟩ = some (.int .i64 p.lo) := by
  unfold spanBox; rw [World.cell?_alloc_at _ _ _ _ rfl]; rfl
theorem spanBox_hi (w : World) (p : Span) : (spanBox w p).cell? ⟨w.heap.size, 1, none⟩ = some (.int .i64 p.hi) := by
  unfold spanBox; rw [World.cell?_alloc_at _ _ _ _ rfl]; rfl
theorem spanBox_below (w : World) (p : Span) : Below w.heap.size w (spanBox w p) := (Below.refl _ _).alloc (Nat.le_refl _) _
theorem spanBox_new (w : World) (p : Span) (T : TypeId) (s : Nat) : ((w.alloc (.cells #[.int .i64 p.lo, .int .i64 p.hi] 56)).alloc (.cells #[] T)).ownsRow (spanBox w p).heap.size T s (.slice (some ⟨w.heap.size + 1, 0, none⟩) 0 0) 0 [] := by
  have := own_new0 (spanBox w p) T s
  rw [spanBox_size] at this ⊢
  exact this

set_option maxRecDepth 100000 in
theorem specWithout_any (l0 : List Token) (v0 : Value) (a1 : Span) (w : World) (hx0 : ∀ x ∈ l0, x.Ok) (hn0 : bulk Token.sizes l0 ≤ 1048576) (hv0 : Slc w v0 3 l0.length (l0.flatMap Token.cells)) (ha1 : a1.Ok) :
    Calls Try.prog 45 #[v0, .agg #[.int .i64 a1.lo, .int .i64 a1.hi]] w fun e w' => ∃ v', e = .returned v' ∧ Below w.heap.size w w' ∧ w'.ownsRow w.heap.size 82 3 v' (without a1.lo a1.hi 0 l0).length ((without a1.lo a1.hi 0 l0).flatMap Token.cells) := by
  obtain ⟨_, a, cap, rfl, hc, hm, hrow⟩ := hv0
  unfold maxLen at hm
  have hn := length_bulk Token.sizes l0
  obtain ⟨i0, hi, hz0, hz1, hz2⟩ := info_parts Try.info82
  go_enter Try.func45, Try.ntmps45
  go_wp2
  go_loopw [5, 6] (fun v i wr => ∃ (k : Nat) (acc : List Token), i = .int .i64 k ∧ k ≤ l0.length ∧ acc.length ≤ k ∧ Below (spanBox w a1).heap.size (spanBox w a1) wr ∧ wr.ownsRow (spanBox w a1).heap.size 82 3 v acc.length (acc.flatMap Token.cells) ∧ Hid (without a1.lo a1.hi 0 l0 = acc ++ without a1.lo a1.hi k (l0.drop k))) (fun _ i _ => l0.length - (intOf i).toNat)
  case atStart => exact ⟨0, [], rfl, by omega, by simp, (Below.refl _ _).alloc (Nat.le_refl _) _, spanBox_new _ _ _ _, hid rfl⟩
  obtain ⟨k, acc, rfl, hk, hacc, hb, hown, hrel⟩ := hrel
  by_cases hlt : k < l0.length
  · have hbw := (spanBox_below w a1).trans (hb.mono (by rw [spanBox_size]; omega))
    obtain ⟨x, hx⟩ := get_of_lt hlt
    obtain ⟨b, off, rfl, hro⟩ := slc_some hrow (by omega)
    have hrw := hro.mono hbw (Nat.le_refl _)
    have c0 := hrw.flat0 3 Token.len hx rfl
    have c1 := hrw.flat 3 Token.len hx 1 rfl
    have c2 := hrw.flat 3 Token.len hx 2 rfl
    have hmem := List.mem_of_getElem? hx
    rw [drop_cons hx] at hrel
    have HX := hid hx
    clear hx
    have hbs := hb.size
    have hss := spanBox_size w a1
    have p0 := (hb.cell (p := ⟨w.heap.size, 0, none⟩) (by show w.heap.size < _; omega)).trans (spanBox_lo w a1)
    have p1 := (hb.cell (p := ⟨w.heap.size, 1, none⟩) (by show w.heap.size < _; omega)).trans (spanBox_hi w a1)
    have hsl : w.heap.size + 1 ≤ (spanBox w a1).heap.size := by omega
    have hlw : w.heap.size < wr.heap.size := by omega
    clear hss
    go_wp2_with (at_builtin; refine wpList_append_own _ rfl _ _ 40 rfl (spanBox w a1).heap.size 82 i0 _ 3 32 Try.underlying40 hi hz0 hz1 hz2 rfl (by decide) _ acc.length (acc.flatMap Token.cells) rfl (hown.alloc _) _ _ _ (Token.cells x) rfl rfl (new_cells_at _ _ _ _ _ rfl (by first | rfl | simp)) (by intro u hu; simp [Token.cells] at hu; rcases hu with rfl | rfl | rfl | rfl | rfl <;> rfl) (by unfold maxLen; omega) (by omega) (by first | omega | (simp; done) | (simp; omega)) ?_; intro v2 w2 hown2 hgr2 hiff; clear hiff; have hb2 := app_below (hb.alloc (by first | omega | (simp; done) | (simp; omega)) _) (hown.alloc _) hgr2)
    all_goals go_roundw
    all_goals first
      | (simp [intOf]; omega)
      | exact ⟨k + 1, acc ++ [x], by go_num, by omega, by simp; omega, hb2, by simpa using hown2, hid (by rw [hrel.out, without, if_pos (by simp_all)]; simp)⟩
      | exact ⟨k + 1, acc, by go_num, by omega, by omega, by repeat (first | exact hb | refine Below.alloc ?_ (by first | omega | (simp; done) | (simp; omega)) _ | refine Below.drew ?_), by repeat (first | exact hown | refine World.ownsRow.alloc ?_ _), hid (by rw [hrel.out, without, if_neg (by simp_all)])⟩
  · go_wp2
    go_ret
    rw [hrel.out, List.drop_of_length_le (by omega)]
    simp only [without, List.append_nil]
    exact ⟨_, rfl, (spanBox_below w a1).trans (hb.mono (by rw [spanBox_size]; omega)), own_base hown (by rw [spanBox_size]; omega)⟩

set_option maxRecDepth 100000 in
theorem implWithout_any (l0 : List Token) (v0 : Value) (a1 : Span) (w : World) (hx0 : ∀ x ∈ l0, x.Ok) (hn0 : bulk Token.sizes l0 ≤ 1048576) (hv0 : Slc w v0 3 l0.length (l0.flatMap Token.cells)) (ha1 : a1.Ok) :
    Calls Try.prog 47 #[v0, .agg #[.int .i64 a1.lo, .int .i64 a1.hi]] w fun e w' => ∃ v', e = .returned v' ∧ Below w.heap.size w w' ∧ w'.ownsRow w.heap.size 82 3 v' (without a1.lo a1.hi 0 l0).length ((without a1.lo a1.hi 0 l0).flatMap Token.cells) := by
  obtain ⟨_, a, cap, rfl, hc, hm, hrow⟩ := hv0
  unfold maxLen at hm
  have hn := length_bulk Token.sizes l0
  obtain ⟨i0, hi, hz0, hz1, hz2⟩ := info_parts Try.info82
  go_enter Try.func47, Try.ntmps47
  go_wp2
  go_loopw [5, 11] (fun v i wr => ∃ (k : Nat) (acc : List Token), i = .int .i64 k ∧ k ≤ l0.length ∧ acc.length ≤ k ∧ Below (spanBox w a1).heap.size (spanBox w a1) wr ∧ wr.ownsRow (spanBox w a1).heap.size 82 3 v acc.length (acc.flatMap Token.cells) ∧ Hid (without a1.lo a1.hi 0 l0 = acc ++ without a1.lo a1.hi k (l0.drop k))) (fun _ i _ => l0.length - (intOf i).toNat)
  case atStart => exact ⟨0, [], rfl, by omega, by simp, (Below.refl _ _).alloc (Nat.le_refl _) _, spanBox_new _ _ _ _, hid rfl⟩
  obtain ⟨k, acc, rfl, hk, hacc, hb, hown, hrel⟩ := hrel
  by_cases hlt : k < l0.length
  · have hbw := (spanBox_below w a1).trans (hb.mono (by rw [spanBox_size]; omega))
    obtain ⟨x, hx⟩ := get_of_lt hlt
    obtain ⟨b, off, rfl, hro⟩ := slc_some hrow (by omega)
    have hrw := hro.mono hbw (Nat.le_refl _)
    have c0 := hrw.flat0 3 Token.len hx rfl
    have c1 := hrw.flat 3 Token.len hx 1 rfl
    have c2 := hrw.flat 3 Token.len hx 2 rfl
    have hmem := List.mem_of_getElem? hx
    rw [drop_cons hx] at hrel
    have HX := hid hx
    clear hx
    have hbs := hb.size
    have hss := spanBox_size w a1
    have p0 := (hb.cell (p := ⟨w.heap.size, 0, none⟩) (by show w.heap.size < _; omega)).trans (spanBox_lo w a1)
    have p1 := (hb.cell (p := ⟨w.heap.size, 1, none⟩) (by show w.heap.size < _; omega)).trans (spanBox_hi w a1)
    have hsl : w.heap.size + 1 ≤ (spanBox w a1).heap.size := by omega
    have hlw : w.heap.size < wr.heap.size := by omega
    clear hss
    go_wp2_with (at_builtin; refine wpList_append_own _ rfl _ _ 40 rfl (spanBox w a1).heap.size 82 i0 _ 3 32 Try.underlying40 hi hz0 hz1 hz2 rfl (by decide) _ acc.length (acc.flatMap Token.cells) rfl ((hown.alloc _).alloc _) _ _ _ (Token.cells x) rfl rfl (new_cells_at _ _ _ _ _ rfl (by first | rfl | simp)) (by intro u hu; simp [Token.cells] at hu; rcases hu with rfl | rfl | rfl | rfl | rfl <;> rfl) (by unfold maxLen; omega) (by omega) (by first | omega | (simp; done) | (simp; omega)) ?_; intro v2 w2 hown2 hgr2 hiff; clear hiff; have hb2 := app_below ((hb.alloc (by first | omega | (simp; done) | (simp; omega)) _).alloc (by first | omega | (simp; done) | (simp; omega)) _) ((hown.alloc _).alloc _) hgr2)
    all_goals go_roundw
    all_goals first
      | (simp [intOf]; omega)
      | exact ⟨k + 1, acc ++ [x], by go_num, by omega, by simp; omega, hb2, by simpa using hown2, hid (by rw [hrel.out, without, if_pos (by simp_all)]; simp)⟩
      | exact ⟨k + 1, acc, by go_num, by omega, by omega, by repeat (first | exact hb | refine Below.alloc ?_ (by first | omega | (simp; done) | (simp; omega)) _ | refine Below.drew ?_), by repeat (first | exact hown | refine World.ownsRow.alloc ?_ _), hid (by rw [hrel.out, without, if_neg (by simp_all)])⟩
  · go_wp2
    go_ret
    rw [hrel.out, List.drop_of_length_le (by omega)]
    simp only [without, List.append_nil]
    exact ⟨_, rfl, (spanBox_below w a1).trans (hb.mono (by rw [spanBox_size]; omega)), own_base hown (by rw [spanBox_size]; omega)⟩

end Go.Proofs.Ytbmaaeddkppbhaa
