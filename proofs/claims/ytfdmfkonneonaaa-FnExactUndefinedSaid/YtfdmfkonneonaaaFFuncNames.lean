/- Walks and lemmas of this seat (FFuncNames): what each theorem says of the functions that it names. Conditions: those that each theorem states. -/
import Derived.Test.YtfdmfkonneonaaaFOnce
import Derived.Test.YtfdmfkonneonaaaDataNode
namespace Go.Proofs.Ytfdmfkonneonaaa
set_option linter.unusedVariables false
set_option linter.unusedSimpArgs false
open Go.RowKit

/-- The names of functions as they come. -/
def fnames : List Node → List ByteArray
  | [] => []
  | x :: l => if x.kind = 7 ∨ x.kind = 44 then x.text :: fnames l else fnames l
theorem fnames_len (l : List Node) : (fnames l).length ≤ l.length := by
  induction l with
  | nil => simp [fnames]
  | cons x l ih => unfold fnames; split <;> simp <;> omega
def funcNames (l : List Node) : List ByteArray := namesT (fnames l)
theorem putT_mem {P : ByteArray → Prop} {s : ByteArray} {l : List ByteArray} (hs : P s) (hl : ∀ x ∈ l, P x) : ∀ x ∈ putT s l, P x := by
  intro x hx
  have h1 : dat x ∈ (putT s l).map dat := List.mem_map_of_mem hx
  rw [putT_dat, putN_mem] at h1
  rcases h1 with h | h
  · rw [dat_inj h]; exact hs
  · obtain ⟨y, hy, e⟩ := List.mem_map.1 h
    rw [← dat_inj e]; exact hl y hy

set_option maxRecDepth 100000 in
set_option maxHeartbeats 1600000 in
theorem specFuncNames_any (l0 : List Node) (v0 : Value) (w : World) (hx0 : ∀ x ∈ l0, x.Ok) (hn0 : bulk Node.sizes l0 ≤ 1048576) (hv0 : NodeSlc w v0 l0) :
    Calls Try.prog 7 #[v0] w fun e w' => ∃ v', e = .returned v' ∧ Below w.heap.size w w' ∧ w'.ownsRow w.heap.size 9 1 v' (funcNames l0).length ((funcNames l0).flatMap str1) := by
  obtain ⟨a, cap, rfl, hm, hc, hsl⟩ := hv0.shape
  have hn := length_bulk Node.sizes l0
  go_enter Try.func7, Try.ntmps7
  go_wp2
  go_loopw [3, 4] (fun v i wr => ∃ (k : Nat) (acc : List ByteArray), i = .int .i64 k ∧ k ≤ l0.length ∧ acc.length ≤ k ∧ (∀ x ∈ acc, x.size ≤ maxLen) ∧ Below w.heap.size w wr ∧ wr.ownsRow w.heap.size 9 1 v acc.length (acc.flatMap str1) ∧ Hid (funcNames l0 = (fnames (l0.drop k)).foldl (fun l s => putT s l) acc)) (fun _ i _ => l0.length - (intOf i).toNat)
  case atStart => exact ⟨0, [], rfl, by omega, by simp, by simp, by repeat (first | exact Below.refl _ _ | refine Below.alloc ?_ (by first | omega | (simp; done) | (simp; omega)) _ | refine Below.drew ?_), own_new0 _ _ _, hid rfl⟩
  obtain ⟨k, acc, rfl, hk, hacc, hxa, hb, hown, hrel⟩ := hrel
  have hbs := hb.size
  by_cases hlt : k < l0.length
  · obtain ⟨x, ka, kc, b, off, hx, rfl, c0, c1, c2, c3, c4, hkd⟩ := hsl.at hb (Nat.le_refl _) hlt
    have hmem := List.mem_of_getElem? hx
    rw [drop_cons hx] at hrel
    have HX := hid hx
    clear hx
    have hxo := (hx0 x hmem).1
    have hput := specl23Put_any acc _ x.text wr w.heap.size hbs (by omega) hxo hxa hown
    by_cases hk7 : x.kind = 7 ∨ x.kind = 44
    · have hr2 : Hid (funcNames l0 = (fnames (l0.drop (k + 1))).foldl (fun l s => putT s l) (putT x.text acc)) := hid (by rw [hrel.out, fnames, if_pos hk7, List.foldl_cons])
      have hpl := putT_len x.text acc
      have hpm := putT_mem (P := fun x => x.size ≤ maxLen) hxo hxa
      clear hrel HX
      replace hxa := hid hxa
      replace hpm := hid hpm
      rcases hk7 with hk7 | hk7
      all_goals go_wp2_with fail
      all_goals (refine hput.mono ?_; rintro e w2 ⟨v2, rfl, hb2, ho2⟩)
      all_goals (clear hput)
      all_goals go_wp2
      all_goals go_roundw
      all_goals first
        | (simp [intOf]; omega)
        | exact ⟨k + 1, putT x.text acc, by go_num, by omega, by omega, hpm.out, hb.trans (hb2.mono hbs), ho2, hr2⟩
    · have hr2 : Hid (funcNames l0 = (fnames (l0.drop (k + 1))).foldl (fun l s => putT s l) acc) := hid (by rw [hrel.out, fnames, if_neg hk7])
      have e1 : (x.kind == 7) = false := by simp at hk7 ⊢; exact hk7.1
      have e2 : (x.kind == 44) = false := by simp at hk7 ⊢; exact hk7.2
      clear hrel HX hput hk7
      replace hxa := hid hxa
      go_wp2
      go_roundw
      case rel => exact ⟨k + 1, acc, by go_num, by omega, by omega, hxa.out, hb, hown, hr2⟩
      case measure => simp [intOf]; omega
  · have hR : Hid (funcNames l0 = acc) := hid (by rw [hrel.out, List.drop_of_length_le (by omega)]; rfl)
    replace hxa := hid hxa
    clear hrel
    go_wp2
    go_ret
    rw [hR.out]
    exact ⟨_, rfl, hb, hown⟩

set_option maxRecDepth 100000 in
set_option maxHeartbeats 1600000 in
theorem implFuncNames_any (l0 : List Node) (v0 : Value) (w : World) (hx0 : ∀ x ∈ l0, x.Ok) (hn0 : bulk Node.sizes l0 ≤ 1048576) (hv0 : NodeSlc w v0 l0) :
    Calls Try.prog 9 #[v0] w fun e w' => ∃ v', e = .returned v' ∧ Below w.heap.size w w' ∧ w'.ownsRow w.heap.size 9 1 v' (funcNames l0).length ((funcNames l0).flatMap str1) := by
  obtain ⟨a, cap, rfl, hm, hc, hsl⟩ := hv0.shape
  have hn := length_bulk Node.sizes l0
  obtain ⟨i0, hi, hz0, hz1, hz2⟩ := info_parts Try.info9
  go_enter Try.func9, Try.ntmps9
  go_wp2
  go_loopw [3, 9] (fun v i wr => ∃ (k : Nat) (acc : List ByteArray), i = .int .i64 k ∧ k ≤ l0.length ∧ acc.length ≤ k ∧ v ≠ .slice none 0 0 ∧ Below w.heap.size w wr ∧ wr.ownsRow w.heap.size 9 1 v acc.length (acc.flatMap str1) ∧ Hid (fnames l0 = acc ++ fnames (l0.drop k))) (fun _ i _ => l0.length - (intOf i).toNat)
  case atStart => exact ⟨0, [], rfl, by omega, by simp, by simp, by repeat (first | exact Below.refl _ _ | refine Below.alloc ?_ (by first | omega | (simp; done) | (simp; omega)) _ | refine Below.drew ?_), own_new0 _ _ _, hid rfl⟩
  obtain ⟨k, acc, rfl, hk, hacc, hnil, hb, hown, hrel⟩ := hrel
  have hbs := hb.size
  by_cases hlt : k < l0.length
  · obtain ⟨x, ka, kc, b, off, hx, rfl, c0, c1, c2, c3, c4, hkd⟩ := hsl.at hb (Nat.le_refl _) hlt
    have hmem := List.mem_of_getElem? hx
    rw [drop_cons hx] at hrel
    have HX := hid hx
    clear hx
    have hnil2 := hid hnil
    clear hnil
    go_wp2_with (at_builtin; refine wpList_append_own _ rfl _ _ 24 rfl w.heap.size 9 i0 _ 1 16 Try.underlying24 hi hz0 hz1 hz2 rfl (by decide) _ acc.length (acc.flatMap str1) rfl ((hown.alloc _).alloc _) _ _ _ (str1 x.text) rfl rfl (new_cells_at _ _ _ _ _ rfl (by first | rfl | simp)) (by intro u hu; simp [str1] at hu; subst hu; rfl) (by unfold maxLen; omega) (by omega) (by simp; omega) ?_; intro v2 w2 hown2 hgr2 hiff; have hb2 := app_below ((hb.alloc hbs _).alloc (by simp; omega) _) ((hown.alloc _).alloc _) hgr2)
    all_goals go_roundw
    all_goals first
      | (simp [intOf]; omega)
      | exact ⟨k + 1, acc ++ [x.text], by go_num, by omega, by simp; omega, fun e => hnil2.out (hiff.1 e).1, hb2, by simpa using hown2, hid (by rw [hrel.out, fnames, if_pos (by simp_all)]; simp)⟩
      | exact ⟨k + 1, acc, by go_num, by omega, by omega, hnil2.out, by repeat (first | exact hb | refine Below.alloc ?_ (by first | omega | (simp; done) | (simp; omega)) _ | refine Below.drew ?_), by repeat (first | exact hown | refine World.ownsRow.alloc ?_ _), hid (by rw [hrel.out, fnames, if_neg (by simp_all)])⟩
  · have hR : Hid (fnames l0 = acc) := hid (by rw [hrel.out, List.drop_of_length_le (by omega)]; simp [fnames])
    have hcall := implonce_any acc _ wr w.heap.size (by omega) hnil hown
    replace hnil := hid hnil
    clear hrel
    go_wp2_with fail
    refine hcall.mono ?_; rintro e w2 ⟨v2, rfl, hg2, ho2⟩
    clear hcall
    go_wp2
    go_ret
    refine ⟨_, rfl, hb.grown hg2 hbs (fun r e => (hown.lt r e).1), ?_⟩
    unfold funcNames
    rw [hR.out]
    exact ho2
end Go.Proofs.Ytfdmfkonneonaaa
