/- Walks and lemmas of this seat (FFlatText): what each theorem says of the functions that it names. Conditions: those that each theorem states. -/
import Derived.Test.YtfabfkaolnidiaaFFlat
import Derived.Test.YtfabfkaolnidiaaFDocOk2
namespace Go.Proofs.Ytfabfkaolnidiaa
set_option linter.unusedVariables false
set_option linter.unusedSimpArgs false
open Go.RowKit

/-- The document of a list of nodes. -/
def rootDoc (l : List DNode) : Doc := docIx l (l.length - 1)
set_option maxRecDepth 100000 in
set_option maxHeartbeats 1600000 in
theorem impldocOf_any (l0 : List DNode) (v0 : Value) (w : World) (hx0 : ∀ x ∈ l0, x.Ok) (hn0 : bulk DNode.sizes l0 ≤ 1048576) (hv0 : DNodeSlc w v0 l0) (hok : docOk l0 = true) :
    Calls Try.prog 42 #[v0] w fun e w' => DocPost w (rootDoc l0) e w' := by
  obtain ⟨h1, h2, _, s, hs, _⟩ := docOk_starts hok
  have hah := aheadD_of hs
  obtain ⟨a, cap, rfl, hm, hc, hsl⟩ := hv0.shape
  obtain ⟨n', hn'⟩ : ∃ n', n' = l0.length - 1 := ⟨_, rfl⟩
  have hcall := hid (fun W h => impldocAt_any l0 _ w hsl hx0 hn0 hah n' (by omega) W h)
  have hv1 : (l0.length : Int) - 1 = (n' : Int) := by omega
  have hrt : Hid (rootDoc l0 = docIx l0 n') := hid (by unfold rootDoc; rw [hn'])
  replace hn' := hid hn'
  replace hok := hid hok
  go_enter Try.func42, Try.ntmps42
  go_wp2_with fail
  refine (hcall.out _ ((Below.refl _ _).alloc (Nat.le_refl _) _)).mono ?_; rintro e w2 ⟨ka, kn, kc, rfl, hb2, ht2⟩
  have hres := (hb2.block w.heap.size (by simp)).trans (heap_alloc_new w _)
  have r0 : w2.cell? ⟨w.heap.size, 0, none⟩ = some (.int .i64 0) := box_cell hres rfl
  have r1 : w2.cell? ⟨w.heap.size, 1, none⟩ = some (.int .i64 0) := box_cell hres rfl
  have r2 : w2.cell? ⟨w.heap.size, 2, none⟩ = some (.string ⟨#[]⟩) := box_cell hres rfl
  have r3 : w2.cell? ⟨w.heap.size, 3, none⟩ = some (.slice none 0 0) := box_cell hres rfl
  have r4 : w2.cell? ⟨w.heap.size, 4, none⟩ = some (.int .i64 0) := box_cell hres rfl
  have f0 : ∀ j, w2.frozen? ⟨w.heap.size, j, none⟩ = false := fun j => box_froz hres
  have hres2 := hid hres
  clear hres
  generalize hD : docIx l0 n' = D at *
  go_wp2
  have hN := heap_setCell_at (j := 4) (u := .int .i64 D.group) (heap_setCell_at (j := 3) (u := .slice ka kn kc) (heap_setCell_at (j := 2) (u := .string D.text) (heap_setCell_at (j := 1) (u := .int .i64 D.n) (heap_setCell_at (j := 0) (u := .int .i64 D.kind) hres2.out))))
  have hW : (((((w2.setCell ⟨w.heap.size, 0, none⟩ (.int .i64 D.kind)).setCell ⟨w.heap.size, 1, none⟩ (.int .i64 D.n)).setCell ⟨w.heap.size, 2, none⟩ (.string D.text)).setCell ⟨w.heap.size, 3, none⟩ (.slice ka kn kc)).setCell ⟨w.heap.size, 4, none⟩ (.int .i64 D.group)) = storeAll w2 w.heap.size 0 [.int .i64 D.kind, .int .i64 D.n, .string D.text, .slice ka kn kc, .int .i64 D.group] := rfl
  rw [hW] at hN ⊢
  clear hW
  have hB0 : Below w.heap.size w w2 := ((Below.refl w.heap.size w).alloc (Nat.le_refl _) _).trans (hb2.mono (by simp))
  have hB := below_storeAll [.int .i64 D.kind, .int .i64 D.n, .string D.text, .slice ka kn kc, .int .i64 D.group] 0 hB0 (Nat.le_refl _)
  have hH := fun b (hb : b ≠ w.heap.size) => storeAll_other [.int .i64 D.kind, .int .i64 D.n, .string D.text, .slice ka kn kc, .int .i64 D.group] 0 (w := w2) (g := w.heap.size) hb
  generalize storeAll w2 w.heap.size 0 [.int .i64 D.kind, .int .i64 D.n, .string D.text, .slice ka kn kc, .int .i64 D.group] = W2 at hN hB hH ⊢
  have s0 : W2.cell? ⟨w.heap.size, 0, none⟩ = some (.int .i64 D.kind) := by simp [World.cell?, hN]
  have s1 : W2.cell? ⟨w.heap.size, 1, none⟩ = some (.int .i64 D.n) := by simp [World.cell?, hN]
  have s2 : W2.cell? ⟨w.heap.size, 2, none⟩ = some (.string D.text) := by simp [World.cell?, hN]
  have s3 : W2.cell? ⟨w.heap.size, 3, none⟩ = some (.slice ka kn kc) := by simp [World.cell?, hN]
  have s4 : W2.cell? ⟨w.heap.size, 4, none⟩ = some (.int .i64 D.group) := by simp [World.cell?, hN]
  have hpost : DocPost w (rootDoc l0) (.returned (.agg #[.int .i64 D.kind, .int .i64 D.n, .string D.text, .slice ka kn kc, .int .i64 D.group])) W2 := by
    refine ⟨ka, kn, kc, by rw [hrt.out], hB, ?_⟩
    rw [hrt.out]
    refine ht2.keep fun b hS hlt => ⟨hH b ?_, ?_⟩ <;> (simp at hS; omega)
  exact bodyPost_ret (v := .agg #[.int .i64 D.kind, .int .i64 D.n, .string D.text, .slice ka kn kc, .int .i64 D.group]) (by simp [results, Try.results42, go_sem, s0, s1, s2, s3, s4]) rfl hpost

/-- Two results: a text and whether there is one. -/
def tup (o : Option (List UInt8)) : Ending := .returned (.tuple #[.string (flatStr o), .bool o.isSome])
set_option maxRecDepth 100000 in
set_option maxHeartbeats 1600000 in
theorem implFlatText_any (l0 : List DNode) (v0 : Value) (w : World) (hx0 : ∀ x ∈ l0, x.Ok) (hn0 : bulk DNode.sizes l0 ≤ 1048576) (hv0 : DNodeSlc w v0 l0) :
    Calls Try.prog 27 #[v0] w fun e w' => e = tup (flatText l0) ∧ Below w.heap.size w w' := by
  have hdk := implDocOk_any l0 v0 w hx0 hn0 hv0
  have hv := hv0
  obtain ⟨a, cap, rfl, hm, hc, hsl⟩ := hv0.shape
  by_cases hok : docOk l0 = true
  · have hR : Hid (flatText l0 = (rootDoc l0).flat) := hid (flatText_root hok)
    have hms : (rootDoc l0).mass ≤ 1048576 := Nat.le_trans (mass_root hok) hn0
    have hroot := hid (fun W (hb : Below w.heap.size w W) => impldocOf_any l0 _ W hx0 hn0 (hv.mono hb (Nat.le_refl _)) hok)
    rw [hok] at hdk
    replace hok := hid hok
    go_enter Try.func27, Try.ntmps27
    go_wp2_with fail
    refine hdk.mono ?_; rintro e w1 ⟨rfl, hb1⟩
    clear hdk
    go_wp2_with fail
    refine (hroot.out _ hb1).mono ?_; rintro e w2 ⟨ka, kn, kc, rfl, hb2, ht2⟩
    go_wp2_with fail
    refine (implflat_any _ (rootDoc l0) _ _ _ (Nat.lt_succ_self _) (Nat.le_trans hms (by omega)) ht2).mono ?_; rintro e w3 ⟨rfl, hb3⟩
    generalize (rootDoc l0).flat = val at hR ⊢
    go_wp2
    go_ret2
    exact ⟨by rw [hR.out]; rfl, (hb1.trans (hb2.mono hb1.size)).trans (hb3.mono (Nat.le_trans hb1.size hb2.size))⟩
  · have hR : Hid (flatText l0 = none) := hid (by unfold flatText; rw [if_neg hok])
    have hok : docOk l0 = false := by simpa using hok
    rw [hok] at hdk
    clear hok
    go_enter Try.func27, Try.ntmps27
    go_wp2_with fail
    refine hdk.mono ?_; rintro e w1 ⟨rfl, hb1⟩
    clear hdk
    go_wp2
    go_ret2
    exact ⟨by rw [hR.out]; rfl, hb1⟩
set_option maxRecDepth 100000 in
set_option maxHeartbeats 1600000 in
theorem specFlatText_any (l0 : List DNode) (v0 : Value) (w : World) (hx0 : ∀ x ∈ l0, x.Ok) (hn0 : bulk DNode.sizes l0 ≤ 1048576) (hv0 : DNodeSlc w v0 l0) :
    Calls Try.prog 28 #[v0] w fun e w' => e = tup (flatText l0) ∧ Below w.heap.size w w' := by
  have hdk := specDocOk_any l0 v0 w hx0 hn0 hv0
  obtain ⟨a, cap, rfl, hm, hc, hsl⟩ := hv0.shape
  have hn := length_bulk DNode.sizes l0
  obtain ⟨i0, hi, hz0, hz1, hz2⟩ := info_parts Try.info5
  by_cases hok : docOk l0 = true
  · have hR : Hid (flatText l0 = flatL l0) := hid (by unfold flatText; rw [if_pos hok])
    have hmb := hid (Nat.le_trans (massL_bulk l0) hn0)
    rw [hok] at hdk
    clear hok
    go_enter Try.func28, Try.ntmps28
    go_wp2_with fail
    refine hdk.mono ?_; rintro e w1 ⟨rfl, hb1⟩
    clear hdk
    have hbs1 := hb1.size
    go_wp2
    go_loopw [4, 5] (fun v i wr => ∃ (k : Nat) (acc : List UInt8), i = .int .i64 k ∧ k ≤ l0.length ∧ OwnB wr w.heap.size v acc ∧ Below w.heap.size w wr ∧ acc.length + massL (l0.drop k) ≤ 1048576 ∧ Hid (flatText l0 = (flatL (l0.drop k)).map (acc ++ ·))) (fun _ i _ => l0.length - (intOf i).toNat)
    case atStart => exact ⟨0, [], rfl, by omega, ⟨own_base (own_new0 _ _ _) hbs1, by simp⟩, hb1.alloc hb1.size _, by rw [List.drop_zero]; simpa using hmb.out, hid (by rw [List.drop_zero, hR.out]; simp)⟩
    clear hR hmb hb1
    obtain ⟨k, acc, rfl, hk, hown, hb, hmass, hrel⟩ := hrel
    have hbs := hb.size
    by_cases hlt : k < l0.length
    · obtain ⟨x, ka, kc, b, off, hx, rfl, c0, c1, c2, c3, hkd⟩ := hsl.at hb (Nat.le_refl _) hlt
      rw [drop_cons hx, massL] at hmass
      rw [drop_cons hx, flatL] at hrel
      clear hx
      by_cases k1 : x.kind = 1
      · have hlf : leafOf x.kind x.text = some x.text.data.toList := by unfold leafOf; rw [if_pos k1]
        have hlm : leafMass x.kind x.text = x.text.size := by unfold leafMass; rw [if_pos k1]
        have hR : Hid (flatText l0 = (flatL (l0.drop (k + 1))).map ((acc ++ x.text.data.toList) ++ ·)) := hid (by rw [hrel.out, hlf]; cases flatL (l0.drop (k + 1)) <;> simp)
        have hsc := hid (strCells_eq x.text)
        have htl : x.text.data.toList.length = x.text.size := rfl
        rw [hlm] at hmass
        clear hrel hlf hlm
        go_wp2_with (at_builtin; refine Lib.wpList_append_own_string _ rfl _ _ 38 9 rfl w.heap.size 5 i0 Try.underlying38 Try.underlying9 hi hz0 hz1 hz2 _ acc.length (acc.flatMap byte1) rfl hown.1 x.text rfl (by unfold maxLen; omega) (by omega) (by omega) ?_; intro v3 w3 hown3 hgr3 hiff)
        all_goals go_roundw
        all_goals first
          | (simp [intOf]; omega)
          | (refine ⟨k + 1, acc ++ x.text.data.toList, by go_num, by omega, ⟨?_, fun e => hown.2 (hiff.1 e).1⟩, hb.grown hgr3 hb.size (fun r e => (hown.1.lt r e).1), by rw [List.length_append]; omega, hR⟩
             rw [hsc.out] at hown3
             simpa using hown3)
      · by_cases k2 : x.kind = 2
        · have hlf : leafOf x.kind x.text = some [32] := by unfold leafOf; rw [if_neg k1, if_pos k2]
          have hlm : leafMass x.kind x.text = 1 := by unfold leafMass; rw [if_neg k1, if_pos k2]
          have hR : Hid (flatText l0 = (flatL (l0.drop (k + 1))).map ((acc ++ [32]) ++ ·)) := hid (by rw [hrel.out, hlf]; cases flatL (l0.drop (k + 1)) <;> simp)
          rw [hlm] at hmass
          clear hrel hlf hlm k1
          go_wp2_with (at_builtin; refine wpList_append_own _ rfl _ _ 38 rfl w.heap.size 5 i0 _ 1 1 Try.underlying38 hi hz0 hz1 hz2 rfl (by decide) _ acc.length (acc.flatMap byte1) rfl (hown.1.alloc _) _ _ _ (byte1 32) rfl rfl (new_cells_at _ _ _ _ _ rfl (by first | rfl | simp)) (by intro u hu; simp [byte1] at hu; subst hu; rfl) (by unfold maxLen; omega) (by omega) (by simp; omega) ?_; intro v3 w3 hown3 hgr3 hiff)
          all_goals go_roundw
          all_goals first
            | (simp [intOf]; omega)
            | exact ⟨k + 1, acc ++ [32], by go_num, by omega, ⟨by simpa using hown3, fun e => hown.2 (hiff.1 e).1⟩, (hb.alloc hb.size _).grown hgr3 (by simp; omega) (fun r e => (hown.1.lt r e).1), by rw [List.length_append]; simp; omega, hR⟩
        · by_cases k3 : x.kind = 3
          · have hR : Hid (flatText l0 = none) := hid (by rw [hrel.out]; unfold leafOf; rw [if_neg k1, if_neg k2, if_pos k3]; rfl)
            clear hrel k1 k2
            go_wp2
            go_ret2
            exact ⟨by rw [hR.out]; rfl, hb⟩
          · have hR : Hid (flatText l0 = (flatL (l0.drop (k + 1))).map (acc ++ ·)) := hid (by rw [hrel.out]; unfold leafOf; rw [if_neg k1, if_neg k2, if_neg k3]; cases flatL (l0.drop (k + 1)) <;> simp)
            have e1 : (x.kind == 1) = false := by simpa using k1
            have e2 : (x.kind == 2) = false := by simpa using k2
            have e3 : (x.kind == 3) = false := by simpa using k3
            clear hrel k1 k2 k3
            go_wp2
            go_roundw
            case rel => exact ⟨k + 1, acc, by go_num, by omega, hown, hb, by omega, hR⟩
            case measure => simp [intOf]; omega
    · have hR : Hid (flatText l0 = some acc) := hid (by rw [hrel.out, List.drop_of_length_le (by omega)]; simp [flatL])
      have hcv := hown.text
      clear hrel
      go_wp2
      go_ret2
      exact ⟨by rw [hR.out]; rfl, hb⟩
  · have hR : Hid (flatText l0 = none) := hid (by unfold flatText; rw [if_neg hok])
    have hok : docOk l0 = false := by simpa using hok
    rw [hok] at hdk
    clear hok
    go_enter Try.func28, Try.ntmps28
    go_wp2_with fail
    refine hdk.mono ?_; rintro e w1 ⟨rfl, hb1⟩
    clear hdk
    go_wp2
    go_ret2
    exact ⟨by rw [hR.out]; rfl, hb1⟩
end Go.Proofs.Ytfabfkaolnidiaa
