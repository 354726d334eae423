/- Walks and lemmas of this seat (HBind): what each theorem says of the functions that it names. Conditions: those that each theorem states. -/
import Derived.Test.YtfmojbfodcgebaaGreatDoorRows
import Derived.Test.YtfmojbfodcgebaaGreatDoorGA
namespace Go.Proofs.YtfmojbfodcgebaaGreatDoor
set_option linter.unusedVariables false
set_option linter.unusedSimpArgs false
open Go.RowKit


section
open Go.ChangeShapes Go.WideShapes Go.ChangeAt
variable {H : Type} {enc : TypeId × Value → H} {w : World} {spare : Nat → Bool}
set_option maxRecDepth 100000 in
theorem Tryz.cells82d : Tryz.prog.cellsOf 82 = 2 := by kernel_rfl
theorem decBind (cs : List Value) (n : Nat) (y : DataW H × List MemPlace) (h : DataW.trod enc Tryz.prog w 0 spare true n 82 cs = some y) : ∃ x : Bind, cs = x.cells ∧ x.Ok := by
  obtain ⟨xs, n', rfl, _, hlen, hxl, hf⟩ := DataW.trod_struct Tryz.underlying82 h
  obtain ⟨c0, c1, rfl⟩ := list2 (hlen.trans Tryz.cells82d)
  clear hlen
  have h0 := hf 0 _ rfl
  rw [List.getElem?_eq_getElem (by rw [hxl]; decide)] at h0
  obtain ⟨x0, e0, _, b0⟩ := DataW.trod_string Tryz.underlying9 h0
  simp [show Tryz.prog.cellsOf 9 = 1 from by kernel_rfl] at e0
  have h1 := hf 1 _ rfl
  rw [List.getElem?_eq_getElem (by rw [hxl]; decide)] at h1
  obtain ⟨x1, e1, _, b1⟩ := DataW.trod_int Tryz.underlying3 h1
  simp [show Tryz.prog.cellsOf 3 = 1 from by kernel_rfl] at e1
  subst e0 e1
  exact ⟨⟨x0, x1⟩, rfl, ⟨b0, I64.of_wf b1⟩⟩
set_option maxRecDepth 100000 in
theorem open_Bind {v : Value} {d : DataW H} {ps : List MemPlace} {r : Reach} {b0 : Nat} (hv : Value.okWide Tryz.prog w r b0 82 v) (h : DataW.Trod enc Tryz.prog w 0 spare true 82 v d ps) : ∃ x : Bind, v = .agg #[.string x.name, .int .i64 x.val] ∧ x.Ok := by
  obtain ⟨cs, rfl, _⟩ := okWide_struct Tryz.underlying82 hv
  obtain ⟨fuel, hf⟩ := h
  obtain ⟨x, hx, ok⟩ := decBind _ _ _ hf
  refine ⟨x, ?_, ok⟩
  have : cs = x.cells.toArray := by rw [← hx]; simp [Value.cells]
  rw [this]; rfl
end


set_option maxRecDepth 100000 in
theorem szBind_any (x : Bind) (left : Int) (h0 : 0 ≤ left) (h1 : left ≤ 1048576) (hs : x.Ok) (w : World) :
    Calls Tryz.prog 99 #[.agg #[.string x.name, .int .i64 x.val], .int .i64 left] w fun e w' => e = .returned (.int .i64 (szNat x.sizes left)) ∧ Below w.heap.size w w' := by
  unfold Bind.Ok maxLen at hs
  obtain ⟨hs0, _⟩ := hs
  go_enter Tryz.func99, Tryz.ntmps99
  go_wp2
  all_goals go_ret
  all_goals exact ⟨ret_int (by unfold Bind.sizes szNat; omega), by repeat (first | exact Below.refl _ _ | refine Below.alloc ?_ (by first | omega | (simp; done) | (simp; omega)) _ | refine Below.drew ?_)⟩

set_option maxRecDepth 100000 in
theorem szBindS_any (l : List Bind) (v : Value) (left : Int) (h0 : 0 ≤ left) (h1 : left ≤ 1048576) (w : World) (hs : ∀ x ∈ l, x.Ok) (hv : Slc w v 2 l.length (l.flatMap Bind.cells)) :
    Calls Tryz.prog 34 #[v, .int .i64 left] w fun e w' => e = .returned (.int .i64 (szList Bind.sizes l left)) ∧ Below w.heap.size w w' := by
  obtain ⟨_, a, cap, rfl, hc, hm, hrow⟩ := hv
  unfold maxLen at hm
  go_enter Tryz.func34, Tryz.ntmps34
  go_wp2
  · go_ret
    exact ⟨ret_int (by rw [szList, if_pos (by omega)]), Below.refl _ _⟩
  · rename_i hge _
    have hge' : ¬ (left - l.length < 0) := by omega
    go_loopw [1, 5] (fun v i wr => ∃ (k : Nat) (q : Int), i = .int .i64 k ∧ k ≤ l.length ∧ v = .int .i64 q ∧ 0 ≤ q ∧ q ≤ 1048576 ∧ Below w.heap.size w wr ∧ Hid (szList Bind.sizes l left = szLoop Bind.sizes (l.drop k) q)) (fun _ i _ => l.length - (intOf i).toNat)
    case atStart => exact ⟨0, _, rfl, by omega, rfl, by omega, by omega, Below.refl _ _, by show szList _ _ _ = _; rw [szList, if_neg hge']; rfl⟩
    obtain ⟨k, q, rfl, hk, rfl, q0, q1, hb, hrel⟩ := hrel
    by_cases hlt : k < l.length
    · obtain ⟨x, hx⟩ := get_of_lt hlt
      obtain ⟨b, off, rfl, hro⟩ := slc_some hrow (by omega)
      have hrw := hro.mono hb (Nat.le_refl _)
      have c0 := hrw.flat0 2 Bind.len hx rfl
      have c1 := hrw.flat 2 Bind.len hx 1 rfl
      have hxs := hs x (List.mem_of_getElem? hx)
      have hp1 := szNat_le x.sizes q
      have hp2 := szNat_lo x.sizes q
      rw [drop_cons hx] at hrel
      clear hx
      go_wp2_with (go_at_call 99; refine (szBind_any x q (by omega) (by omega) hxs _).mono ?_; rintro e w' ⟨rfl, hb1⟩)
      · go_ret
        exact ⟨ret_int (by rw [hrel.out, szLoop, if_pos (by omega)]), hb.trans (hb1.mono hb.size)⟩
      · go_roundw
        case rel => exact ⟨k + 1, _, by go_num, by omega, rfl, by omega, by omega, hb.trans (hb1.mono hb.size), by rw [hrel.out, szLoop, if_neg (by omega)]; exact hid rfl⟩
        case measure => simp [intOf]; omega
    · go_wp2
      go_ret
      exact ⟨ret_int (by rw [hrel.out, List.drop_of_length_le (by omega)]; rfl), hb⟩


set_option maxRecDepth 100000 in
theorem toBind_any (x : Bind) (w : World) :
    Calls Tryz.prog 102 #[.agg #[.string x.name, .int .i64 x.val]] w fun e w' => e = .returned (.agg #[.string x.name, .int .i64 x.val]) ∧ Below w.heap.size w w' := by
  go_enter Tryz.func102, Tryz.ntmps102
  go_wp2
  refine bodyPost_ret (v := .agg #[.string x.name, .int .i64 x.val]) (by simp [results, Tryz.results102, go_sem]) rfl ⟨rfl, ?_⟩
  exact (by repeat (first | exact Below.refl _ _ | refine Below.alloc ?_ (by first | omega | (simp; done) | (simp; omega)) _ | refine Below.drew ?_))

set_option maxRecDepth 100000 in
theorem Tryz.info84 : (Tryz.prog.info? 84).map (fun i => (i.zero, i.size, i.bytes)) = some (some (.agg #[.string ⟨#[]⟩, .int .i64 0]), 2, 24) := by kernel_rfl

theorem toBindS_any (l : List Bind) (v : Value) (w : World) (hn : l.length ≤ 1048576) (hv : Slc w v 2 l.length (l.flatMap Bind.cells)) :
    Calls Tryz.prog 36 #[v] w fun e w' => ∃ v', e = .returned v' ∧ Below w.heap.size w w' ∧ w'.ownsRow w.heap.size 84 2 v' l.length (l.flatMap Bind.cells) := by
  obtain ⟨_, a, cap, rfl, hc, hm, hrow⟩ := hv
  unfold maxLen at hm
  obtain ⟨i0, hi, hz0, hz1, hz2⟩ := info_parts Tryz.info84
  go_enter Tryz.func36, Tryz.ntmps36
  go_wp2_with (at_make; refine wpList_make_full _ rfl _ _ 45 rfl w.heap.size 84 i0 _ 2 Tryz.underlying45 hi hz0 hz1 .i64 .i64 l.length l.length l.length rfl rfl rfl rfl ?c1 ?c2 ?c3 ?c4)
  case c1 => rw [hz2]; omega
  case c2 => unfold maxLen; omega
  case c3 => exact Nat.le_refl _
  case c4 =>
  intro w1 hown hgr
  have hb1 : Below w.heap.size w w1 := (Below.refl _ _).grown hgr (Nat.le_refl _) (by simp)
  have hfill := Filling.made hown
  clear hi hz0 hz1 hz2 hown hgr
  go_wp2
  go_loopw [4] (fun i wr => ∃ (k : Nat), i = .int .i64 k ∧ k ≤ l.length ∧ Below w.heap.size w wr ∧ Filling wr w.heap.size 84 2 w.heap.size l.length ((l.take k).flatMap Bind.cells)) (fun i _ => l.length - (intOf i).toNat)
  case atStart => exact ⟨0, rfl, by omega, hb1, hfill⟩
  obtain ⟨k, rfl, hk, hb, hfr⟩ := hrel
  clear hb1 hfill
  by_cases hlt : k < l.length
  · obtain ⟨x, hx⟩ := get_of_lt hlt
    obtain ⟨b, off, rfl, hro⟩ := slc_some hrow (by omega)
    have hrw := hro.mono hb (Nat.le_refl _)
    have c0 := hrw.flat0 2 Bind.len hx rfl
    have c1 := hrw.flat 2 Bind.len hx 1 rfl
    have HX : Hid (l[k]? = some x) := hx
    clear hx
    go_wp2_with (go_at_call 102; refine (toBind_any x _).mono ?_; rintro e w2 ⟨rfl, hb2⟩; have hf2 := hfr.below hb2 (Nat.le_refl _); obtain ⟨⟨d0, e0⟩, z0⟩ := hf2.cell (k * 2) (by omega); obtain ⟨⟨d1, e1⟩, z1⟩ := hf2.cell (k * 2 + 1) (by omega))
    go_roundw
    case rel => exact ⟨k + 1, by go_num, by omega, below_storeAll x.cells (k * 2) (hb.trans (hb2.mono hb.size)) (Nat.le_refl _), Filling.next Bind.len hf2 HX hlt⟩
    case measure => simp [intOf]; omega
  · go_wp2
    go_ret
    have e : l.take k = l := List.take_of_length_le (by omega)
    rw [e] at hfr
    exact ⟨_, rfl, hb, hfr.done (flat_len _ 2 Bind.len l)⟩


set_option maxRecDepth 100000 in
theorem eqBind_any (x y : Bind) (w : World) :
    Calls Tryz.prog 105 #[.agg #[.string x.name, .int .i64 x.val], .agg #[.string y.name, .int .i64 y.val]] w fun e w' => e = .returned (.bool (eqBind x y)) ∧ Below w.heap.size w w' := by
  go_enter Tryz.func105, Tryz.ntmps105
  go_wp2
  all_goals go_ret
  all_goals exact ⟨ret_bool (by unfold eqBind; simp_all), by repeat (first | exact Below.refl _ _ | refine Below.alloc ?_ (by first | omega | (simp; done) | (simp; omega)) _ | refine Below.drew ?_)⟩

set_option maxRecDepth 100000 in
theorem eqBindS_any (l r : List Bind) (v u : Value) (w : World) (hv : Slc w v 2 l.length (l.flatMap Bind.cells)) (hu : Slc w u 2 r.length (r.flatMap Bind.cells)) :
    Calls Tryz.prog 38 #[v, u] w fun e w' => e = .returned (.bool (eqList eqBind l r)) ∧ Below w.heap.size w w' := by
  obtain ⟨_, a, cap, rfl, hc, hm, hrow⟩ := hv
  obtain ⟨_, a', cap', rfl, hc', hm', hrow'⟩ := hu
  unfold maxLen at hm hm'
  by_cases hlen : l.length = r.length
  · have hle : ((l.length : Int) != (r.length : Int)) = false := by rw [hlen]; simp
    have HL := hid hlen
    have hl1 : l.length ≤ r.length := by omega
    have hl2 : r.length ≤ l.length := by omega
    clear hlen
    go_enter Tryz.func38, Tryz.ntmps38
    go_wp2
    go_loopw [5] (fun i wr => ∃ (k : Nat), i = .int .i64 k ∧ k ≤ l.length ∧ Below w.heap.size w wr ∧ Hid (eqList eqBind l r = eqLoop eqBind (l.drop k) (r.drop k))) (fun i _ => l.length - (intOf i).toNat)
    case atStart => exact ⟨0, rfl, by omega, Below.refl _ _, by show eqList _ _ _ = _; rw [eqList, if_pos HL.out]; rfl⟩
    obtain ⟨k, rfl, hk, hb, hrel⟩ := hrel
    by_cases hlt : k < l.length
    · obtain ⟨x, hx⟩ := get_of_lt hlt
      obtain ⟨y, hy⟩ := get_of_lt (l := r) (k := k) (by omega)
      obtain ⟨b, off, rfl, hro⟩ := slc_some hrow (by omega)
      obtain ⟨b', off', rfl, hro'⟩ := slc_some hrow' (by omega)
      have hrw := hro.mono hb (Nat.le_refl _)
      have hrw' := hro'.mono hb (Nat.le_refl _)
      have c0 := hrw.flat0 2 Bind.len hx rfl
      have c1 := hrw.flat 2 Bind.len hx 1 rfl
      have g0 := hrw'.flat0 2 Bind.len hy rfl
      have g1 := hrw'.flat 2 Bind.len hy 1 rfl
      rw [drop_cons hx, drop_cons hy] at hrel
      have hkr : k < r.length := by omega
      clear hx hy
      by_cases hxy : eqBind x y = true
      · go_wp2_with fail
        go_still_tail 8, (by kernel_rfl)
        go_wp2_with (go_at_call 105; refine (eqBind_any x y _).mono ?_; rintro e w' ⟨rfl, hb1⟩)
        go_roundw
        case rel => exact ⟨k + 1, by go_num, by omega, hb.drew.trans (hb1.mono hb.size), by rw [hrel.out, eqLoop, if_pos hxy]; exact hid rfl⟩
        case measure => simp [intOf]; omega
      · have hxy' : eqBind x y = false := by simpa using hxy
        go_wp2_with fail
        go_still_tail 8, (by kernel_rfl)
        go_wp2_with (go_at_call 105; refine (eqBind_any x y _).mono ?_; rintro e w' ⟨rfl, hb1⟩)
        go_ret
        exact ⟨ret_bool (by rw [hrel.out, eqLoop, if_neg hxy]), hb.drew.trans (hb1.mono hb.size)⟩
    · go_wp2
      go_ret
      exact ⟨ret_bool (by rw [hrel.out, List.drop_of_length_le (by omega), eqLoop]; simp), hb⟩
  · have hle : ((l.length : Int) != (r.length : Int)) = true := by simp; omega
    have HL := hid hlen
    clear hlen
    go_enter Tryz.func38, Tryz.ntmps38
    go_wp2
    go_ret
    exact ⟨ret_bool (by rw [eqList, if_neg HL.out]), Below.refl _ _⟩

end Go.Proofs.YtfmojbfodcgebaaGreatDoor
