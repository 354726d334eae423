/- Walks and lemmas of this seat (LFnRender): what each theorem says of the functions that it names. Conditions: those that each theorem states. -/
import Derived.Test.YtfabfkaolnidiaaFDrawLay
import Derived.Test.YtfabfkaolnidiaaGBR
import Derived.Test.YtfabfkaolnidiaaFRend2
import Derived.Test.YtfabfkaolnidiaaFIsLay
import Derived.Test.YtfabfkaolnidiaaGHB
namespace Go.Proofs.Ytfabfkaolnidiaa
set_option linter.unusedVariables false
set_option linter.unusedSimpArgs false
open Go.RowKit

theorem layouts_size {l : List DNode} (hn : bulk DNode.sizes l ≤ 1048576) {x : ByteArray} (hx : x ∈ layoutsOf l) : x.size ≤ 10000000000 := by
  unfold layoutsOf at hx
  split at hx
  case isFalse => simp at hx
  rename_i h
  obtain ⟨m, rfl⟩ := layoutsTo_mem l _ hx
  have := run_bd h.1 hn (maskDec m)
  show (layMask l m).1.toArray.size ≤ _
  simpa [layMask] using this

set_option maxRecDepth 100000 in
set_option maxHeartbeats 6400000 in
theorem lawFnRender {w : World} (bs : List UInt8) (v0 : Value) (hv0 : Slc w v0 1 bs.length (bs.flatMap byte1)) :
    Calls Try.prog 6 #[v0] w fun e w' => e = .returned (.bool true) ∧ Below w.heap.size w w' := by
  have hbig := hid (lawsbig_any v0 bs w hv0)
  by_cases hs : 1048576 < bs.length
  · have hd : decide (1048576 < bs.length) = true := by simpa using hs
    rw [hd] at hbig
    obtain ⟨_, a, cap, rfl, hcap, hm, hrow⟩ := hv0
    go_enter Try.func6, Try.ntmps6
    go_wp2_with (go_at_call 21; refine hbig.out.mono ?_; rintro e w' ⟨rfl, rfl⟩)
    go_ret
    exact ⟨rfl, Below.refl _ _⟩
  have hd : decide (1048576 < bs.length) = false := by simpa using hs
  rw [hd] at hbig
  have hat := hid (fun (W : World) (hb : Below w.heap.size w W) (i : Int) (hi : 0 ≤ i ∧ i ≤ 1000) => lawsat_eq v0 bs i hi W (hv0.mono hb (Nat.le_refl _)) (by omega))
  have hdraw := hid (specDrawIsLayout_any w v0 bs hv0 (by omega))
  obtain ⟨_, a, cap, rfl, hcap, hm, _⟩ := hv0
  clear hd hs
  go_enter Try.func6, Try.ntmps6
  go_wp2_with (go_at_call 21; refine hbig.out.mono ?_; rintro e w' ⟨rfl, hw'⟩; subst w')
  refine hdraw.out.mono ?_; rintro e w1 ⟨v, l, t, rfl, hbw, hD, hf, hn6⟩
  have hff := hf.fine
  have hbk : bulk DNode.sizes l ≤ 1048576 := by omega
  obtain ⟨va, vc, rfl, _, _, _⟩ := hD.shape
  have clay := hid (fun (W : World) (hb : Below w1.heap.size w1 W) => implLayouts_any l _ W hff.1 hbk (hD.mono hb (Nat.le_refl _)))
  have clays := hid (fun (W : World) (hb : Below w1.heap.size w1 W) => specLayouts_any l _ W hff.1 hbk (hD.mono hb (Nat.le_refl _)))
  have cis := hid (fun (s : ByteArray) (W : World) (hb : Below w1.heap.size w1 W) => implIsLayout_any l _ s W hff.1 hbk (hD.mono hb (Nat.le_refl _)))
  have ciss := hid (fun (s : ByteArray) (W : World) (hb : Below w1.heap.size w1 W) => specIsLayout_any l _ s W hff.1 hbk (hD.mono hb (Nat.le_refl _)))
  have cren := hid (fun (wd : Int) (W : World) (hb : Below w1.heap.size w1 W) => implRender_any l _ wd W hff.1 hbk (hD.mono hb (Nat.le_refl _)))
  have cdok := fun (W : World) (hb : Below w1.heap.size w1 W) => specDocOk_any l _ W hff.1 hbk (hD.mono hb (Nat.le_refl _))
  have hws := hbw.size
  have hB := hid (fun (W : World) (hb : Below w1.heap.size w1 W) => hbw.trans (hb.mono hws))
  have hb1 := hid (Below.refl w1.heap.size w1)
  have hlen := layoutsOf_len l
  have hm0 := Int.emod_nonneg (atI bs 0) (show (40 : Int) ≠ 0 by omega)
  have hm1 := Int.emod_lt_of_pos (atI bs 0) (show (0 : Int) < 40 by omega)
  have hm2 := Int.emod_nonneg (atI bs 1) (show (40 : Int) ≠ 0 by omega)
  have hm3 := Int.emod_lt_of_pos (atI bs 1) (show (0 : Int) < 40 by omega)
  have ha0 := atI_bd bs 0
  have ha1 := atI_bd bs 1
  clear hdraw hbig hD
  by_cases hok : docOk l = true
  · have hRs : ∀ wd, 0 ≤ wd ∧ wd < 40 → ∃ o, renderL l wd = some o := fun wd h => by
      unfold renderL
      rw [if_pos ⟨hok, h.1, by omega⟩]
      exact ⟨_, rfl⟩
    obtain ⟨o1, ho1⟩ := hRs _ ⟨hm0, hm1⟩
    obtain ⟨o2, ho2⟩ := hRs _ ⟨hm2, hm3⟩
    have hz1 := render_bd l hbk (atI bs 0 % 40)
    have hz2 := render_bd l hbk (atI bs 1 % 40)
    rw [ho1] at hz1
    rw [ho2] at hz2
    have e1 := hid (render_bare hok hbk ho1)
    have e2 := hid (render_bare hok hbk ho2)
    have e3 := hid (render_isLayout hok (by omega) ho1)
    have e4 : Hid (∀ x ∈ layoutsOf l, bareL x.data.toList = (docIx l (l.length - 1)).bareT ∧ x.size ≤ 10000000000) := hid fun x hx => ⟨layouts_bare hbk hx, layouts_size hbk hx⟩
    have hR1 : Hid (tup (renderL l (atI bs 0 % 40)) = .returned (.tuple #[.string (flatStr (some o1)), .bool true])) := hid (by rw [ho1]; rfl)
    have hR2 : Hid (tup (renderL l (atI bs 1 % 40)) = .returned (.tuple #[.string (flatStr (some o2)), .bool true])) := hid (by rw [ho2]; rfl)
    have b1 := hid (fun (W : World) (_ : Below w1.heap.size w1 W) => lawsbareText_any (flatStr (some o1)) W hz1)
    have b2 := hid (fun (W : World) (_ : Below w1.heap.size w1 W) => lawsbareText_any (flatStr (some o2)) W hz2)
    rw [show (flatStr (some o1)).data.toList = o1 by simp [flatStr], e1.out] at b1
    rw [show (flatStr (some o2)).data.toList = o2 by simp [flatStr], e2.out] at b2
    rw [show (⟨o1.toArray⟩ : ByteArray) = flatStr (some o1) from rfl] at e3
    rw [hok] at cdok
    replace cdok := hid cdok
    generalize (docIx l (l.length - 1)).bareT = B at *
    generalize flatStr (some o1) = T1 at *
    generalize flatStr (some o2) = T2 at *
    generalize hTB : (⟨B.toArray⟩ : ByteArray) = TB at *
    have b3 : Hid (∀ x ∈ layoutsOf l, ∀ (W : World), Calls Try.prog 25 #[.string x] W fun e w' => e = .returned (.string TB) ∧ Below W.heap.size W w') := hid fun x hx W => by
      have := lawsbareText_any x W (e4.out x hx).2
      rw [(e4.out x hx).1, hTB] at this
      exact this
    clear e1 e2 e4 hTB hok ho1 ho2 hz1 hz2 hRs hf hff hbk
    generalize layoutsOf l = LS at *
    generalize isLayout l t = bt at *
    go_wp2_with fail
    refine (clay.out w1 hb1.out).mono ?_; rintro e w2 ⟨v2, rfl, hbx, ho2⟩
    have hb2 := hid (hb1.out.trans (hbx.mono hb1.out.size))
    have hsl := hid (fun (W : World) (hb : Below w2.heap.size w2 W) => (Slc.of_own ho2).mono hb (Nat.le_refl _))
    obtain ⟨a2, c2, rfl, _⟩ := own_slice ho2
    clear ho2 hbx clay
    go_wp2_with fail
    refine (cis.out t w2 hb2.out).mono ?_; rintro e w3 ⟨rfl, hbx⟩
    have hb23 := hid hbx
    have hb3 := hid (hb2.out.trans (hbx.mono hb2.out.size))
    clear hbx
    go_wp2_with fail
    refine (ciss.out t w3 hb3.out).mono ?_; rintro e w4 ⟨rfl, hbx⟩
    have hb24 := hid (hb23.out.trans (hbx.mono hb23.out.size))
    have hb4 := hid (hb3.out.trans (hbx.mono hb3.out.size))
    clear hbx hb23
    go_wp2_with fail
    refine (clays.out w4 hb4.out).mono ?_; rintro e w5 ⟨v5, rfl, hbx, ho5⟩
    have hb25 := hid (hb24.out.trans (hbx.mono hb24.out.size))
    have hb5 := hid (hb4.out.trans (hbx.mono hb4.out.size))
    obtain ⟨a5, c5, rfl, _⟩ := own_slice ho5
    clear hbx ho5 hb24
    go_wp2_with fail
    refine (hat.out w5 (hB.out w5 hb5.out) 0 (by omega)).mono ?_; rintro e w6 ⟨rfl, hw6⟩; subst w6
    go_wp2_with fail
    refine (cren.out (atI bs 0 % 40) w5 hb5.out).mono ?_; rintro e w6 ⟨he, hbx⟩
    rw [hR1.out] at he; subst he
    have hb26 := hid (hb25.out.trans (hbx.mono hb25.out.size))
    have hb6 := hid (hb5.out.trans (hbx.mono hb5.out.size))
    clear hbx hb25
    go_wp2_with fail
    refine (cdok.out w6 hb6.out).mono ?_; rintro e w7 ⟨rfl, hbx⟩
    have hb27 := hid (hb26.out.trans (hbx.mono hb26.out.size))
    have hb7 := hid (hb6.out.trans (hbx.mono hb6.out.size))
    clear hbx hb26
    go_wp2_with fail
    refine (hat.out w7 (hB.out w7 hb7.out) 1 (by omega)).mono ?_; rintro e w8 ⟨rfl, hw8⟩; subst w8
    go_wp2_with fail
    refine (cren.out (atI bs 1 % 40) w7 hb7.out).mono ?_; rintro e w8 ⟨he, hbx⟩
    rw [hR2.out] at he; subst he
    have hb28 := hid (hb27.out.trans (hbx.mono hb27.out.size))
    have hb8 := hid (hb7.out.trans (hbx.mono hb7.out.size))
    clear hbx hb27 hR1 hR2
    go_wp2
    go_loopw [11] (fun i wr => ∃ k : Nat, i = .int .i64 k ∧ k ≤ LS.length ∧ Hid (Below w1.heap.size w1 wr) ∧ Hid (Below w2.heap.size w2 wr)) (fun i _ => LS.length - (intOf i).toNat)
    case atStart => exact ⟨0, rfl, by omega, hb8, hb28⟩
    clear hb8 hb28
    obtain ⟨k, rfl, hk, hb8, hb28⟩ := hrel
    rename World => w8'
    by_cases hlt : k < LS.length
    · obtain ⟨x, hx⟩ := get_of_lt hlt
      have hxm := List.mem_of_getElem? hx
      obtain ⟨_, a9, c9, hv9, _, _, hrow9⟩ := hsl.out w8' hb28.out
      simp only [Value.slice.injEq, true_and] at hv9
      obtain ⟨rfl, rfl⟩ := hv9
      obtain ⟨b, off, rfl, hro⟩ := slc_some hrow9 (by omega)
      have c0 := hro.one str1_len hx rfl
      have hbx := hid (b3.out x hxm)
      clear hx hxm hro hrow9
      go_wp2_with fail
      refine (hbx.out w8').mono ?_; rintro e w9 ⟨rfl, hb9⟩
      have hb9a := hid (hb8.out.trans (hb9.mono hb8.out.size))
      have hb9b := hid (hb28.out.trans (hb9.mono hb28.out.size))
      clear hb9 hbx c0
      go_wp2_with fail
      refine (b1.out w9 hb9a.out).mono ?_; rintro e w10 ⟨rfl, hb10⟩
      have hb10a := hid (hb9a.out.trans (hb10.mono hb9a.out.size))
      have hb10b := hid (hb9b.out.trans (hb10.mono hb9b.out.size))
      clear hb10
      go_wp2
      all_goals go_roundw
      all_goals first
        | (simp [intOf]; omega)
        | exact ⟨k + 1, by go_num, by omega, hb10a, hb10b⟩
    · have e3' := e3.out
      go_wp2_with fail
      refine (cis.out T1 w8' hb8.out).mono ?_; rintro e w9 ⟨rfl, hbx⟩
      rw [e3']
      have hb9 := hid (hb8.out.trans (hbx.mono hb8.out.size))
      clear hbx e3'
      go_wp2_with fail
      refine (b1.out w9 hb9.out).mono ?_; rintro e w10 ⟨rfl, hbx⟩
      have hb10 := hid (hb9.out.trans (hbx.mono hb9.out.size))
      clear hbx
      go_wp2_with fail
      refine (b2.out w10 hb10.out).mono ?_; rintro e w11 ⟨rfl, hbx⟩
      have hb11 := hid (hb10.out.trans (hbx.mono hb10.out.size))
      clear hbx
      go_wp2
      go_ret
      exact ⟨rfl, hB.out _ hb11.out⟩
  · have hR : Hid (∀ wd, tup (renderL l wd) = .returned (.tuple #[.string ⟨#[]⟩, .bool false])) := hid fun wd => by
      unfold renderL
      rw [if_neg (fun h => hok h.1)]; rfl
    have hL : layoutsOf l = [] := by unfold layoutsOf; rw [if_neg (fun h => hok h.1)]
    have hokf : docOk l = false := by simpa using hok
    rw [hokf] at cdok
    rw [hL] at clay clays
    clear hok hL hokf
    replace cdok := hid cdok
    generalize isLayout l t = bt at *
    go_wp2_with fail
    refine (clay.out w1 hb1.out).mono ?_; rintro e w2 ⟨v2, rfl, hbx, ho2⟩
    have hb2 := hid (hb1.out.trans (hbx.mono hb1.out.size))
    have hsl := hid (fun (W : World) (hb : Below w2.heap.size w2 W) => (Slc.of_own ho2).mono hb (Nat.le_refl _))
    obtain ⟨a2, c2, rfl, _⟩ := own_slice ho2
    clear ho2 hbx clay
    go_wp2_with fail
    refine (cis.out t w2 hb2.out).mono ?_; rintro e w3 ⟨rfl, hbx⟩
    have hb23 := hid hbx
    have hb3 := hid (hb2.out.trans (hbx.mono hb2.out.size))
    clear hbx
    go_wp2_with fail
    refine (ciss.out t w3 hb3.out).mono ?_; rintro e w4 ⟨rfl, hbx⟩
    have hb24 := hid (hb23.out.trans (hbx.mono hb23.out.size))
    have hb4 := hid (hb3.out.trans (hbx.mono hb3.out.size))
    clear hbx hb23
    go_wp2_with fail
    refine (clays.out w4 hb4.out).mono ?_; rintro e w5 ⟨v5, rfl, hbx, ho5⟩
    have hb25 := hid (hb24.out.trans (hbx.mono hb24.out.size))
    have hb5 := hid (hb4.out.trans (hbx.mono hb4.out.size))
    obtain ⟨a5, c5, rfl, _⟩ := own_slice ho5
    clear hbx ho5 hb24
    go_wp2_with fail
    refine (hat.out w5 (hB.out w5 hb5.out) 0 (by omega)).mono ?_; rintro e w6 ⟨rfl, hw6⟩; subst w6
    go_wp2_with fail
    refine (cren.out (atI bs 0 % 40) w5 hb5.out).mono ?_; rintro e w6 ⟨he, hbx⟩
    rw [hR.out] at he; subst he
    have hb6 := hid (hb5.out.trans (hbx.mono hb5.out.size))
    clear hbx
    go_wp2_with fail
    refine (cdok.out w6 hb6.out).mono ?_; rintro e w7 ⟨rfl, hbx⟩
    have hb7 := hid (hb6.out.trans (hbx.mono hb6.out.size))
    clear hbx
    go_wp2
    go_ret
    exact ⟨rfl, hB.out _ hb7.out⟩
end Go.Proofs.Ytfabfkaolnidiaa
