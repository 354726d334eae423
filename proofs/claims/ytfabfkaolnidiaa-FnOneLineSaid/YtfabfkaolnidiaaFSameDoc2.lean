/- Walks and lemmas of this seat (FSameDoc2): what each theorem says of the functions that it names. Conditions: those that each theorem states. -/
import Derived.Test.YtfabfkaolnidiaaRows
import Derived.Test.YtfabfkaolnidiaaDataDNode
namespace Go.Proofs.Ytfabfkaolnidiaa
set_option linter.unusedVariables false
set_option linter.unusedSimpArgs false
open Go.RowKit

set_option maxRecDepth 100000 in
set_option maxHeartbeats 2000000 in
theorem implSameDoc_any (l0 : List DNode) (v0 : Value) (l1 : List DNode) (v1 : Value) (w : World) (hx0 : ∀ x ∈ l0, x.Ok) (hn0 : bulk DNode.sizes l0 ≤ 1048576) (hv0 : DNodeSlc w v0 l0) (hx1 : ∀ x ∈ l1, x.Ok) (hn1 : bulk DNode.sizes l1 ≤ 1048576) (hv1 : DNodeSlc w v1 l1) :
    Calls Try.prog 31 #[v0, v1] w fun e w' => e = .returned (.bool (eqList eqDNode l0 l1)) ∧ Below w.heap.size w w' := by
  obtain ⟨a, cap, rfl, hm, hc, hsl⟩ := hv0.shape
  obtain ⟨a', cap', rfl, hm', hc', hsl'⟩ := hv1.shape
  clear hv0 hv1
  by_cases hlen : l0.length = l1.length
  · have hle : ((l0.length : Int) != (l1.length : Int)) = false := by rw [hlen]; simp
    have HL := hid hlen
    have hl1 : l0.length ≤ l1.length := by omega
    have hl2 : l1.length ≤ l0.length := by omega
    clear hlen
    go_enter Try.func31, Try.ntmps31
    go_wp2
    go_loopw [16] (fun i wr => ∃ (k : Nat), i = .int .i64 k ∧ k ≤ l0.length ∧ Below w.heap.size w wr ∧ Hid (eqList eqDNode l0 l1 = eqLoop eqDNode (l0.drop k) (l1.drop k))) (fun i _ => l0.length - (intOf i).toNat)
    case atStart => exact ⟨0, rfl, by omega, Below.refl _ _, by show eqList _ _ _ = _; rw [eqList, if_pos HL.out]; rfl⟩
    obtain ⟨k, rfl, hk, hb, hrel⟩ := hrel
    obtain ⟨wo, rfl⟩ : ∃ wo : World, wo = wr := ⟨_, rfl⟩
    have hbs := hb.size
    by_cases hlt : k < l0.length
    · obtain ⟨x, ka, kc, b, off, hx, rfl, c0, c1, c2, c3, hkd⟩ := hsl.at hb (Nat.le_refl _) hlt
      have hkr : k < l1.length := by omega
      obtain ⟨y, ka', kc', b', off', hy, rfl, g0, g1, g2, g3, hkd'⟩ := hsl'.at hb (Nat.le_refl _) hkr
      have hblt : b' < wo.heap.size := World.block_lt_of_cell? wo _ g0
      have hxk := (hx0 x (List.mem_of_getElem? hx)).2.2.2.2
      unfold maxLen at hxk
      rw [drop_cons hx, drop_cons hy] at hrel
      clear hx hy
      by_cases h1 : (x.kind != y.kind) = true
      · go_wp2
        go_ret
        exact ⟨ret_bool (by rw [hrel.out, eqLoop, if_neg (by simp_all [eqDNode])]), by repeat (first | exact hb | refine Below.alloc ?_ (by first | omega | (simp; done) | (simp; omega)) _ | refine Below.drew ?_)⟩
      have h1' : (x.kind != y.kind) = false := by simpa using h1
      by_cases h2 : (x.n != y.n) = true
      · go_wp2
        go_ret
        exact ⟨ret_bool (by rw [hrel.out, eqLoop, if_neg (by simp_all [eqDNode])]), by repeat (first | exact hb | refine Below.alloc ?_ (by first | omega | (simp; done) | (simp; omega)) _ | refine Below.drew ?_)⟩
      have h2' : (x.n != y.n) = false := by simpa using h2
      by_cases h3 : (!(x.text.toList == y.text.toList)) = true
      · go_wp2
        go_ret
        exact ⟨ret_bool (by rw [hrel.out, eqLoop, if_neg (by simp_all [eqDNode])]), by repeat (first | exact hb | refine Below.alloc ?_ (by first | omega | (simp; done) | (simp; omega)) _ | refine Below.drew ?_)⟩
      have h3' : (!(x.text.toList == y.text.toList)) = false := by simpa using h3
      by_cases h4 : x.kids.length = y.kids.length
      · have h4' : ((x.kids.length : Int) != (y.kids.length : Int)) = false := by rw [h4]; simp
        have hkb := hid (hkd.mono (B := wo.heap.size) (w' := (wo.alloc (.cells #[.int .i64 x.kind, .int .i64 x.n, .string x.text, .slice ka x.kids.length kc] 49)).alloc (.cells #[.int .i64 y.kind, .int .i64 y.n, .string y.text, .slice ka' y.kids.length kc'] 49)) (by repeat (first | exact Below.refl _ _ | refine Below.alloc ?_ (by first | omega | (simp; done) | (simp; omega)) _ | refine Below.drew ?_)) (Nat.le_refl _))
        have hkb' := hid (hkd'.mono (B := wo.heap.size) (w' := (wo.alloc (.cells #[.int .i64 x.kind, .int .i64 x.n, .string x.text, .slice ka x.kids.length kc] 49)).alloc (.cells #[.int .i64 y.kind, .int .i64 y.n, .string y.text, .slice ka' y.kids.length kc'] 49)) (by repeat (first | exact Below.refl _ _ | refine Below.alloc ?_ (by first | omega | (simp; done) | (simp; omega)) _ | refine Below.drew ?_)) (Nat.le_refl _))
        have hbb := hid (show Below w.heap.size w ((wo.alloc (.cells #[.int .i64 x.kind, .int .i64 x.n, .string x.text, .slice ka x.kids.length kc] 49)).alloc (.cells #[.int .i64 y.kind, .int .i64 y.n, .string y.text, .slice ka' y.kids.length kc'] 49)) from by repeat (first | exact hb | refine Below.alloc ?_ (by first | omega | (simp; done) | (simp; omega)) _ | refine Below.drew ?_))
        have b1 : ((wo.alloc (.cells #[.int .i64 x.kind, .int .i64 x.n, .string x.text, .slice ka x.kids.length kc] 49)).alloc (.cells #[.int .i64 y.kind, .int .i64 y.n, .string y.text, .slice ka' y.kids.length kc'] 49)).cell? ⟨wo.heap.size, 3, none⟩ = some (.slice ka x.kids.length kc) := by
          rw [World.cell?_alloc_past _ _ _ (by simp), World.cell?_alloc_at _ _ _ _ rfl]; rfl
        have b2 : ((wo.alloc (.cells #[.int .i64 x.kind, .int .i64 x.n, .string x.text, .slice ka x.kids.length kc] 49)).alloc (.cells #[.int .i64 y.kind, .int .i64 y.n, .string y.text, .slice ka' y.kids.length kc'] 49)).cell? ⟨wo.heap.size + 1, 3, none⟩ = some (.slice ka' y.kids.length kc') := by
          rw [World.cell?_alloc_at _ _ _ _ (by simp)]; rfl
        have b1h := hid b1
        have b2h := hid b2
        have H4 := hid h4
        have HREL := hrel
        have h4a : x.kids.length ≤ y.kids.length := by omega
        have h4b : y.kids.length ≤ x.kids.length := by omega
        clear b1 b2 h4 hkd hkd'
        go_wp2
        generalize ((wo.alloc (.cells #[.int .i64 x.kind, .int .i64 x.n, .string x.text, .slice ka x.kids.length kc] 49)).alloc (.cells #[.int .i64 y.kind, .int .i64 y.n, .string y.text, .slice ka' y.kids.length kc'] 49)) = wb at *
        have hbb := hbb.out
        obtain ⟨_, a3, cp3, e3, _, _, hrx⟩ := hkb.out
        obtain ⟨_, a4, cp4, e4, _, _, hry⟩ := hkb'.out
        simp at e3 e4
        obtain ⟨rfl, rfl⟩ := e3
        obtain ⟨rfl, rfl⟩ := e4
        go_loopw [8, 56] (fun j i wi => ∃ (t m : Nat), i = .int .i64 t ∧ t ≤ x.kids.length ∧ Hid (wi = wb.drewN m) ∧ Hid (eqLoop eqInt x.kids y.kids = eqLoop eqInt (x.kids.drop t) (y.kids.drop t))) (fun _ i _ => x.kids.length - (intOf i).toNat)
        case atStart => exact ⟨0, 0, rfl, by omega, hid rfl, hid rfl⟩
        obtain ⟨t, m, rfl, ht, hw, hrel2⟩ := hrel
        have hwc : ∀ a, wr.cell? a = wb.cell? a := fun a => by rw [hw.out]; rfl
        have b1 := (hwc _).trans b1h.out
        have b2 := (hwc _).trans b2h.out
        by_cases htl : t < x.kids.length
        · obtain ⟨ux, hux⟩ := get_of_lt htl
          obtain ⟨uy, huy⟩ := get_of_lt (l := y.kids) (k := t) (by omega)
          obtain ⟨bx, ox, rfl, hrox⟩ := slc_some hrx (by omega)
          obtain ⟨bq, oy, rfl, hroy⟩ := slc_some hry (by omega)
          have d0 := (hwc _).trans (hrox.one int1_len hux rfl)
          have d1 := (hwc _).trans (hroy.one int1_len huy rfl)
          rw [drop_cons hux, drop_cons huy] at hrel2
          have hty : t < y.kids.length := by omega
          clear hwc hux huy
          by_cases hxy : eqInt ux uy = true
          · have hq1 : (ux == uy) = true := hxy
            have hq2 : (ux != uy) = false := by simpa [eqInt] using hxy
            go_wp2_with fail
            go_still_tail 10, (by kernel_rfl)
            go_wp2
            go_roundw
            case rel => exact ⟨t + 1, m + 1, by go_num, by omega, hid (by rw [hw.out]; rfl), by rw [hrel2.out, eqLoop, if_pos hxy]; exact hid rfl⟩
            case measure => simp [intOf]; omega
          · have hq1 : (ux == uy) = false := by simpa [eqInt] using hxy
            have hq2 : (ux != uy) = true := by simpa [eqInt] using hxy
            go_wp2_with fail
            go_still_tail 10, (by kernel_rfl)
            go_wp2
            go_ret
            refine ⟨ret_bool ?_, ?_⟩
            · have hf : eqLoop eqInt x.kids y.kids = false := by rw [hrel2.out, eqLoop, if_neg hxy]
              rw [HREL.out, eqLoop, if_neg (by simp [eqDNode, eqList, hf])]
            · have h := below_drewN hbb (m + 1)
              rw [show wr.drew = wb.drewN (m + 1) by rw [hw.out]; rfl]; exact h
        · have hall : eqLoop eqInt x.kids y.kids = true := by rw [hrel2.out, List.drop_of_length_le (by omega), eqLoop]; simp
          have hxy : eqDNode x y = true := by
            simp [eqDNode, eqList, hall, H4.out]
            simp at h1' h2' h3'
            exact ⟨⟨h1', h2'⟩, h3'⟩
          have hwb : Below w.heap.size w wr := by rw [hw.out]; exact below_drewN hbb m
          have HXY := hid hxy
          clear hwc hall hxy
          go_wp2
          go_roundw
          case rel => exact ⟨k + 1, by go_num, by omega, hwb, by rw [HREL.out, eqLoop, if_pos HXY.out]; exact hid rfl⟩
          case measure => simp [intOf]; omega
      · have h4' : ((x.kids.length : Int) != (y.kids.length : Int)) = true := by simp; omega
        go_wp2
        go_ret
        exact ⟨ret_bool (by rw [hrel.out, eqLoop, if_neg (by simp [eqDNode, eqList, h4])]), by repeat (first | exact hb | refine Below.alloc ?_ (by first | omega | (simp; done) | (simp; omega)) _ | refine Below.drew ?_)⟩
    · go_wp2
      go_ret
      exact ⟨ret_bool (by rw [hrel.out, List.drop_of_length_le (by omega), eqLoop]; simp), hb⟩
  · have hle : ((l0.length : Int) != (l1.length : Int)) = true := by simp; omega
    have HL := hid hlen
    clear hlen
    go_enter Try.func31, Try.ntmps31
    go_wp2
    go_ret
    exact ⟨ret_bool (by rw [eqList, if_neg HL.out]), Below.refl _ _⟩
end Go.Proofs.Ytfabfkaolnidiaa
