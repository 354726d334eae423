/- Walks and lemmas of this seat (FRend2): what each theorem says of the functions that it names. Conditions: those that each theorem states. -/
import Derived.Test.YtfabfkaolnidiaaFRend
import Derived.Test.YtfabfkaolnidiaaFLayI
namespace Go.Proofs.Ytfabfkaolnidiaa
set_option linter.unusedVariables false
set_option linter.unusedSimpArgs false
open Go.RowKit

theorem Wf.below {g : Nat} {w0 w w' : World} (h : Wf g none w w') (hb : Below w0.heap.size w0 w) (hg : w0.heap.size ≤ g) : Below w0.heap.size w0 w' :=
  ⟨h.os.trans hb.os, h.tape.trans hb.tape, h.output.trans hb.output, Nat.le_trans hb.size h.size, fun i hi => (h.block i (Nat.lt_of_lt_of_le hi hb.size) (by omega) (by simp)).trans (hb.block i hi)⟩
theorem Wf.cell {g b o : Nat} {w w' : World} {v : Value} (h : Wf g none w w') (hc : w.cell? ⟨b, o, none⟩ = some v) (hg : b ≠ g) : w'.cell? ⟨b, o, none⟩ = some v :=
  (World.cell?_of_block (a := ⟨b, o, none⟩) (h.block b (World.block_lt_of_cell? w _ hc) hg (by simp))).trans hc
theorem renderLay (l0 : List DNode) (wd : Int) (g ob wb : Nat) (w2 w4 : World) (ka : Option Addr) (kn kc : Nat) (hok : docOk l0 = true) (hn0 : bulk DNode.sizes l0 ≤ 1048576) (hwd : 0 ≤ wd ∧ wd ≤ 10000) (hb4 : Below w2.heap.size w2 w4)
    (hdoc : DocIs (fun b => w2.heap.size ≤ b) w4 (rootDoc l0) (.slice ka kn kc)) (hbox : Wr w2 g (.slice none 0 0) 0 (.slice none 0 0)) (h1 : w2.cell? ⟨ob, 0, none⟩ = some (.pointer (some ⟨g, 0, none⟩))) (h2 : w2.cell? ⟨wb, 0, none⟩ = some (.int .i64 wd)) (hob : ob ≠ g) (hwb : wb ≠ g) :
    Calls Try.prog 41 #[.pointer (some ⟨g, 0, none⟩), .agg #[.int .i64 (rootDoc l0).kind, .int .i64 (rootDoc l0).n, .string (rootDoc l0).text, .slice ka kn kc, .int .i64 (rootDoc l0).group], .func (.func 43) #[] #[.pointer (some ⟨ob, 0, none⟩), .pointer (some ⟨wb, 0, none⟩)]] w4 fun e w5 => e = .returned (.tuple #[]) ∧ Wf g none w4 w5 ∧ ∃ out : List UInt8, renderL l0 wd = some out ∧ ∃ ov col tv, Wr w5 g ov col tv ∧ w5.ownsRow w4.heap.size 5 1 ov out.length (out.flatMap byte1) := by
  obtain ⟨hl1, hl2, hd, s, hs, _⟩ := docOk_starts hok
  have hah := aheadD_of hs
  have hgl := hbox.lt
  have hwt := wt_root hok
  have q1 := (hb4.cell (p := ⟨ob, 0, none⟩) (World.block_lt_of_cell? w2 _ h1)).trans h1
  have q2 := (hb4.cell (p := ⟨wb, 0, none⟩) (World.block_lt_of_cell? w2 _ h2)).trans h2
  refine (impllay_R g none ob wb (fitDec wd) (rootDoc l0) (.slice ka kn kc) (fun b => w2.heap.size ≤ b ∧ b < w4.heap.size) w4 (fun b hb => ⟨hb.2, by have := hb.1; omega, by simp⟩) (hbox.below hb4) (by simp) trivial (hdoc.keep fun b hb hlt => ⟨rfl, hb, hlt⟩) (fine_ix hah hd hn0 _ (by omega)) (by show (docIx l0 (l0.length - 1)).wt ≤ _; omega) (fun _ => True) (fun _ _ _ _ => trivial) trivial ?_).mono ?_
  · intro W ov tv col ok L x hfr hW _ ho hdd hw hc _
    refine (renderClosure g ob wb w4.heap.size wd hwd W ov tv col L x _ (hfr.cell q1 hob) (hfr.cell q2 hwb) hW ho hdd hw hc).mono ?_
    rintro e W' ⟨he, hb⟩
    exact ⟨he, frB_of hb, trivial⟩
  · rintro e w5 ⟨rfl, hfr, ans, hans, _, ov, col, tv, hW, ho⟩
    refine ⟨rfl, hfr, ans.1, ?_, ov, col, tv, hW, ho⟩
    have e1 : (rootDoc l0).wt = l0.length := hwt
    unfold renderL
    rw [if_pos ⟨hok, hwd⟩, hans, e1]
    rfl

set_option maxRecDepth 100000 in
set_option maxHeartbeats 3200000 in
theorem implRender_any (l0 : List DNode) (v0 : Value) (wd : Int) (w : World) (hx0 : ∀ x ∈ l0, x.Ok) (hn0 : bulk DNode.sizes l0 ≤ 1048576) (hv0 : DNodeSlc w v0 l0) :
    Calls Try.prog 11 #[v0, .int .i64 wd] w fun e w' => e = tup (renderL l0 wd) ∧ Below w.heap.size w w' := by
  have hB0 : Below w.heap.size w (w.alloc (.cells #[.int .i64 wd] 3)) := (Below.refl _ _).alloc (Nat.le_refl _) _
  have hbw := heap_alloc_new w (.cells #[.int .i64 wd] 3)
  have hdk := implDocOk_any l0 v0 (w.alloc (.cells #[.int .i64 wd] 3)) hx0 hn0 (hv0.mono hB0 (Nat.le_refl _))
  have hv := hid hv0
  obtain ⟨a, cap, rfl, hm, hc, hsl⟩ := hv0.shape
  by_cases hok : docOk l0 = true
  case neg =>
    have hR : Hid (renderL l0 wd = none) := hid (by unfold renderL; rw [if_neg (fun h => hok h.1)])
    have hok : docOk l0 = false := by simpa using hok
    rw [hok] at hdk
    clear hok hbw
    go_enter Try.func11, Try.ntmps11
    go_wp2_with fail
    refine hdk.mono ?_; rintro e w1 ⟨rfl, hb1⟩
    clear hdk
    have hB1 := hid (hB0.trans (hb1.mono (by simp)))
    go_wp2
    go_ret2
    exact ⟨by rw [hR.out]; rfl, hB1.out⟩
  have hdi := fun W => implwithin_an wd 0 10000 W
  rw [hok] at hdk
  by_cases hin : 0 ≤ wd ∧ wd ≤ 10000
  case neg =>
    have hR : Hid (renderL l0 wd = none) := hid (by unfold renderL; rw [if_neg (fun h => hin h.2)])
    rw [show decide (0 ≤ wd ∧ wd ≤ 10000) = false from by simpa using hin] at hdi
    clear hok hin
    replace hdi := hid hdi
    go_enter Try.func11, Try.ntmps11
    go_wp2_with fail
    refine hdk.mono ?_; rintro e w1 ⟨rfl, hb1⟩
    clear hdk
    have hB1 := hid (hB0.trans (hb1.mono (by simp)))
    have b0 : w1.cell? ⟨w.heap.size, 0, none⟩ = some (.int .i64 wd) := box_cell ((hb1.block w.heap.size (by simp)).trans hbw) rfl
    clear hbw
    go_wp2_with fail
    refine (hdi.out _).mono ?_; rintro e w2 ⟨rfl, rfl⟩
    go_wp2
    go_ret2
    exact ⟨by rw [hR.out]; rfl, hB1.out⟩
  rw [show decide (0 ≤ wd ∧ wd ≤ 10000) = true from by simpa using hin] at hdi
  replace hdi := hid hdi
  have hoka := hid hok
  have hina := hid hin
  clear hok hin
  go_enter Try.func11, Try.ntmps11
  go_wp2_with fail
  refine hdk.mono ?_; rintro e w1 ⟨rfl, hb1⟩
  clear hdk
  have hB1 := hid (hB0.trans (hb1.mono (by simp)))
  have hbw1 : Hid (w1.heap[w.heap.size]? = some (.cells #[.int .i64 wd] 3 (0, 0))) := hid ((hb1.block w.heap.size (by simp)).trans hbw)
  have b0 : w1.cell? ⟨w.heap.size, 0, none⟩ = some (.int .i64 wd) := box_cell hbw1.out rfl
  have hs1 : w.heap.size < w1.heap.size := heap_lt hbw1.out
  clear hbw hb1 hB0
  have hB2 : Hid (Below w.heap.size w ((w1.alloc (.cells #[.slice none 0 0, .int .i64 0, .slice none 0 0] 66)).alloc (.cells #[.pointer (some ⟨w1.heap.size, 0, none⟩)] 63))) := hid ((hB1.out.alloc (by omega) _).alloc (by simp; omega) _)
  have hW2 : Hid (Wr ((w1.alloc (.cells #[.slice none 0 0, .int .i64 0, .slice none 0 0] 66)).alloc (.cells #[.pointer (some ⟨w1.heap.size, 0, none⟩)] 63)) w1.heap.size (.slice none 0 0) 0 (.slice none 0 0)) := hid (Wr.alloc (show Wr (w1.alloc _) w1.heap.size (.slice none 0 0) 0 (.slice none 0 0) from heap_alloc_new w1 _) _)
  have hO2 : Hid (((w1.alloc (.cells #[.slice none 0 0, .int .i64 0, .slice none 0 0] 66)).alloc (.cells #[.pointer (some ⟨w1.heap.size, 0, none⟩)] 63)).cell? ⟨w1.heap.size + 1, 0, none⟩ = some (.pointer (some ⟨w1.heap.size, 0, none⟩))) := hid (box_cell (lt1 w1 _ _) rfl)
  have hV2 : Hid (((w1.alloc (.cells #[.slice none 0 0, .int .i64 0, .slice none 0 0] 66)).alloc (.cells #[.pointer (some ⟨w1.heap.size, 0, none⟩)] 63)).cell? ⟨w.heap.size, 0, none⟩ = some (.int .i64 wd)) := hid (carryA _ (carryA _ b0))
  go_wp2_with fail
  refine (hdi.out _).mono ?_; rintro e w2 ⟨rfl, rfl⟩
  go_wp2_with fail
  generalize ((w1.alloc (.cells #[.slice none 0 0, .int .i64 0, .slice none 0 0] 66)).alloc (.cells #[.pointer (some ⟨w1.heap.size, 0, none⟩)] 63)) = w2 at hB2 hW2 hO2 hV2 ⊢
  clear b0 hbw1 hB1
  have hdof := hid fun (W : World) (hb : Below w2.heap.size w2 W) => impldocOf_any l0 (.slice a l0.length cap) W hx0 hn0 (hv.out.mono (hB2.out.trans (hb.mono hB2.out.size)) (Nat.le_refl _)) hoka.out
  obtain ⟨g, hg⟩ : ∃ g, g = w1.heap.size := ⟨_, rfl⟩
  rw [← hg] at hW2 hO2 hs1 ⊢
  have hlay := hid fun (W w4 : World) (ka : Option Addr) (kn kc : Nat) (hb : Below w2.heap.size w2 W) (hb4 : Below W.heap.size W w4) (hdoc : DocIs (fun b => W.heap.size ≤ b) w4 (rootDoc l0) (.slice ka kn kc)) => renderLay l0 wd g (g + 1) w.heap.size W w4 ka kn kc hoka.out hn0 hina.out hb4 hdoc (hW2.out.below hb) ((hb.cell (p := ⟨g + 1, 0, none⟩) (World.block_lt_of_cell? w2 _ hO2.out)).trans hO2.out) ((hb.cell (p := ⟨w.heap.size, 0, none⟩) (World.block_lt_of_cell? w2 _ hV2.out)).trans hV2.out) (by omega) (by omega)
  have o2 := hO2.out
  have o2l := World.block_lt_of_cell? w2 _ o2
  have o2l : g + 1 < w2.heap.size := o2l
  clear hv hg hsl
  go_region_held3 (fun V => V.cell? ⟨g + 1, 0, none⟩ = some (.pointer (some ⟨g, 0, none⟩)))
    (first | exact o2 | exact o4 | exact o5)
    (first
      | (go_at_call 42; refine (hdof.out _ (Below.refl _ _).drew).mono ?_; rintro e w4 ⟨ka, kn, kc, rfl, hb4, hdoc⟩; have hb24 := (Below.refl w2.heap.size w2).drew.trans (hb4.mono (Nat.le_refl _)); have o4 := (hb24.cell (p := ⟨g + 1, 0, none⟩) o2l).trans o2; replace hb24 := hid hb24; replace hb4 := hid hb4; replace hdoc := hid hdoc)
      | (go_at_call 41; refine (hlay.out _ _ ka kn kc (Below.refl _ _).drew hb4.out hdoc.out).mono ?_; rintro e w5 ⟨rfl, hfr, out, hout, ov, col, tv, hW5, ho5⟩; have o5 := hfr.cell o4 (by omega); replace hfr := hid hfr; replace hout := hid hout))
  all_goals (obtain ⟨va, vc, rfl, hvm⟩ := own_slice ho5)
  all_goals (have hcv := own_text ho5)
  all_goals (have t0 := hW5.c0)
  all_goals clear hW5 ho5
  all_goals go_wp2
  all_goals go_ret2
  all_goals exact ⟨by rw [hout.out]; rfl, hfr.out.below (hB2.out.trans (hb24.out.mono hB2.out.size)) (by omega)⟩
end Go.Proofs.Ytfabfkaolnidiaa
