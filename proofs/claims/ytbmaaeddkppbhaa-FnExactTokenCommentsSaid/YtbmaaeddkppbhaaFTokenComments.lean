/- Walks and lemmas of this seat (FTokenComments): what each theorem says of the functions that it names. Conditions: those that each theorem states. -/
import Derived.Test.YtbmaaeddkppbhaaRows
import Derived.Test.YtbmaaeddkppbhaaHString
namespace Go.Proofs.Ytbmaaeddkppbhaa
set_option linter.unusedVariables false
set_option linter.unusedSimpArgs false
open Go.RowKit

def tokenComments : List Token → List ByteArray
  | [] => []
  | x :: l => if x.kind = 2 then x.text :: tokenComments l else tokenComments l
theorem tokenComments_len (l : List Token) : (tokenComments l).length ≤ l.length := by
  induction l with
  | nil => simp [tokenComments]
  | cons x l ih => unfold tokenComments; split <;> simp <;> omega

set_option maxRecDepth 100000 in
theorem specTokenComments_any (l0 : List Token) (v0 : Value) (w : World) (hx0 : ∀ x ∈ l0, x.Ok) (hn0 : bulk Token.sizes l0 ≤ 1048576) (hv0 : Slc w v0 3 l0.length (l0.flatMap Token.cells)) :
    Calls Try.prog 55 #[v0] w fun e w' => ∃ v', e = .returned v' ∧ Below w.heap.size w w' ∧ w'.ownsRow w.heap.size 9 1 v' (tokenComments l0).length ((tokenComments l0).flatMap str1) := by
  obtain ⟨_, a, cap, rfl, hc, hm, hrow⟩ := hv0
  unfold maxLen at hm
  have hn := length_bulk Token.sizes l0
  obtain ⟨i0, hi, hz0, hz1, hz2⟩ := info_parts Try.info9
  go_enter Try.func55, Try.ntmps55
  go_wp2
  go_loopw [3, 4] (fun v i wr => ∃ (k : Nat) (acc : List ByteArray), i = .int .i64 k ∧ k ≤ l0.length ∧ acc.length ≤ k ∧ Below w.heap.size w wr ∧ wr.ownsRow w.heap.size 9 1 v acc.length (acc.flatMap str1) ∧ Hid (tokenComments l0 = acc ++ tokenComments (l0.drop k))) (fun _ i _ => l0.length - (intOf i).toNat)
  case atStart => exact ⟨0, [], rfl, by omega, by simp, by repeat (first | exact Below.refl _ _ | refine Below.alloc ?_ (by first | omega | (simp; done) | (simp; omega)) _ | refine Below.drew ?_), own_new0 _ _ _, hid rfl⟩
  obtain ⟨k, acc, rfl, hk, hacc, hb, hown, hrel⟩ := hrel
  by_cases hlt : k < l0.length
  · obtain ⟨x, hx⟩ := get_of_lt hlt
    obtain ⟨b, off, rfl, hro⟩ := slc_some hrow (by omega)
    have hrw := hro.mono hb (Nat.le_refl _)
    have c0 := hrw.flat0 3 Token.len hx rfl
    have c1 := hrw.flat 3 Token.len hx 1 rfl
    have c2 := hrw.flat 3 Token.len hx 2 rfl
    have hmem := List.mem_of_getElem? hx
    rw [drop_cons hx] at hrel
    have HX := hid hx
    clear hx
    have hbs := hb.size
    go_wp2_with (at_builtin; refine wpList_append_own _ rfl _ _ 30 rfl w.heap.size 9 i0 _ 1 16 Try.underlying30 hi hz0 hz1 hz2 rfl (by decide) _ acc.length (acc.flatMap str1) rfl (hown.alloc _) _ _ _ (str1 x.text) rfl rfl (new_cells_at _ _ _ _ _ rfl (by first | rfl | simp)) (by intro u hu; simp [str1] at hu; rcases hu with rfl | rfl | rfl | rfl | rfl <;> rfl) (by unfold maxLen; omega) (by omega) (by first | omega | (simp; done) | (simp; omega)) ?_; intro v2 w2 hown2 hgr2 hiff; clear hiff; have hb2 := app_below (hb.alloc (by first | omega | (simp; done) | (simp; omega)) _) (hown.alloc _) hgr2)
    all_goals go_roundw
    all_goals first
      | (simp [intOf]; omega)
      | exact ⟨k + 1, acc ++ [x.text], by go_num, by omega, by simp; omega, hb2, by simpa using hown2, hid (by rw [hrel.out, tokenComments, if_pos (by simp_all)]; simp)⟩
      | exact ⟨k + 1, acc, by go_num, by omega, by omega, by repeat (first | exact hb | refine Below.alloc ?_ (by first | omega | (simp; done) | (simp; omega)) _ | refine Below.drew ?_), by repeat (first | exact hown | refine World.ownsRow.alloc ?_ _), hid (by rw [hrel.out, tokenComments, if_neg (by simp_all)])⟩
  · go_wp2
    go_ret
    rw [hrel.out, List.drop_of_length_le (by omega)]
    simp only [tokenComments, List.append_nil]
    exact ⟨_, rfl, hb, hown⟩

set_option maxRecDepth 100000 in
theorem implTokenComments_any (l0 : List Token) (v0 : Value) (w : World) (hx0 : ∀ x ∈ l0, x.Ok) (hn0 : bulk Token.sizes l0 ≤ 1048576) (hv0 : Slc w v0 3 l0.length (l0.flatMap Token.cells)) :
    Calls Try.prog 56 #[v0] w fun e w' => ∃ v', e = .returned v' ∧ Below w.heap.size w w' ∧ w'.ownsRow w.heap.size 9 1 v' (tokenComments l0).length ((tokenComments l0).flatMap str1) := by
  obtain ⟨_, a, cap, rfl, hc, hm, hrow⟩ := hv0
  unfold maxLen at hm
  have hn := length_bulk Token.sizes l0
  obtain ⟨i0, hi, hz0, hz1, hz2⟩ := info_parts Try.info9
  go_enter Try.func56, Try.ntmps56
  go_wp2
  go_loopw [3, 9] (fun v i wr => ∃ (k : Nat) (acc : List ByteArray), i = .int .i64 k ∧ k ≤ l0.length ∧ acc.length ≤ k ∧ Below w.heap.size w wr ∧ wr.ownsRow w.heap.size 9 1 v acc.length (acc.flatMap str1) ∧ Hid (tokenComments l0 = acc ++ tokenComments (l0.drop k))) (fun _ i _ => l0.length - (intOf i).toNat)
  case atStart => exact ⟨0, [], rfl, by omega, by simp, by repeat (first | exact Below.refl _ _ | refine Below.alloc ?_ (by first | omega | (simp; done) | (simp; omega)) _ | refine Below.drew ?_), own_new0 _ _ _, hid rfl⟩
  obtain ⟨k, acc, rfl, hk, hacc, hb, hown, hrel⟩ := hrel
  by_cases hlt : k < l0.length
  · obtain ⟨x, hx⟩ := get_of_lt hlt
    obtain ⟨b, off, rfl, hro⟩ := slc_some hrow (by omega)
    have hrw := hro.mono hb (Nat.le_refl _)
    have c0 := hrw.flat0 3 Token.len hx rfl
    have c1 := hrw.flat 3 Token.len hx 1 rfl
    have c2 := hrw.flat 3 Token.len hx 2 rfl
    have hmem := List.mem_of_getElem? hx
    rw [drop_cons hx] at hrel
    have HX := hid hx
    clear hx
    have hbs := hb.size
    go_wp2_with (at_builtin; refine wpList_append_own _ rfl _ _ 30 rfl w.heap.size 9 i0 _ 1 16 Try.underlying30 hi hz0 hz1 hz2 rfl (by decide) _ acc.length (acc.flatMap str1) rfl ((hown.alloc _).alloc _) _ _ _ (str1 x.text) rfl rfl (new_cells_at _ _ _ _ _ rfl (by first | rfl | simp)) (by intro u hu; simp [str1] at hu; rcases hu with rfl | rfl | rfl | rfl | rfl <;> rfl) (by unfold maxLen; omega) (by omega) (by first | omega | (simp; done) | (simp; omega)) ?_; intro v2 w2 hown2 hgr2 hiff; clear hiff; have hb2 := app_below ((hb.alloc (by first | omega | (simp; done) | (simp; omega)) _).alloc (by first | omega | (simp; done) | (simp; omega)) _) ((hown.alloc _).alloc _) hgr2)
    all_goals go_roundw
    all_goals first
      | (simp [intOf]; omega)
      | exact ⟨k + 1, acc ++ [x.text], by go_num, by omega, by simp; omega, hb2, by simpa using hown2, hid (by rw [hrel.out, tokenComments, if_pos (by simp_all)]; simp)⟩
      | exact ⟨k + 1, acc, by go_num, by omega, by omega, by repeat (first | exact hb | refine Below.alloc ?_ (by first | omega | (simp; done) | (simp; omega)) _ | refine Below.drew ?_), by repeat (first | exact hown | refine World.ownsRow.alloc ?_ _), hid (by rw [hrel.out, tokenComments, if_neg (by simp_all)])⟩
  · go_wp2
    go_ret
    rw [hrel.out, List.drop_of_length_le (by omega)]
    simp only [tokenComments, List.append_nil]
    exact ⟨_, rfl, hb, hown⟩

end Go.Proofs.Ytbmaaeddkppbhaa
