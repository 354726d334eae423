/- Walks and lemmas of this seat (HToken): what each theorem says of the functions that it names. Conditions: those that each theorem states. -/
import Derived.Test.YtagoeiegdlnalaaRows
import Derived.Test.YtagoeiegdlnalaaLift
namespace Go.Proofs.Ytagoeiegdlnalaa
set_option linter.unusedVariables false
set_option linter.unusedSimpArgs false
open Go.RowKit
set_option maxRecDepth 100000


section
open Go.ChangeShapes Go.WideShapes Go.ChangeAt
variable {H : Type} {enc : TypeId × Value → H} {w : World} {spare : Nat → Bool}
theorem Try.cells81d : Try.prog.cellsOf 81 = 3 := by kernel_rfl
theorem decToken (cs : List Value) (n : Nat) (y : DataW H × List MemPlace) (h : DataW.trod enc Try.prog w 0 spare true n 81 cs = some y) : ∃ x : Token, cs = x.cells ∧ x.Ok := by
  obtain ⟨xs, n', rfl, _, hlen, hxl, hf⟩ := DataW.trod_struct Try.underlying81 h
  obtain ⟨c0, c1, c2, rfl⟩ := list3 (hlen.trans Try.cells81d)
  clear hlen
  have h0 := hf 0 _ rfl
  rw [List.getElem?_eq_getElem (by rw [hxl]; decide)] at h0
  obtain ⟨x0, e0, _, b0⟩ := DataW.trod_int Try.underlying3 h0
  simp [show Try.prog.cellsOf 3 = 1 from by kernel_rfl] at e0
  have h1 := hf 1 _ rfl
  rw [List.getElem?_eq_getElem (by rw [hxl]; decide)] at h1
  obtain ⟨x1, e1, _, b1⟩ := DataW.trod_string Try.underlying9 h1
  simp [show Try.prog.cellsOf 9 = 1 from by kernel_rfl] at e1
  have h2 := hf 2 _ rfl
  rw [List.getElem?_eq_getElem (by rw [hxl]; decide)] at h2
  obtain ⟨x2, e2, _, b2⟩ := DataW.trod_int Try.underlying3 h2
  simp [show Try.prog.cellsOf 3 = 1 from by kernel_rfl] at e2
  subst e0 e1 e2
  exact ⟨⟨x0, x1, x2⟩, rfl, ⟨b1, I64.of_wf b0, I64.of_wf b2⟩⟩
theorem open_Token {v : Value} {d : DataW H} {ps : List MemPlace} {r : Reach} {b0 : Nat} (hv : Value.okWide Try.prog w r b0 81 v) (h : DataW.Trod enc Try.prog w 0 spare true 81 v d ps) : ∃ x : Token, v = .agg #[.int .i64 x.kind, .string x.text, .int .i64 x.at_] ∧ x.Ok := by
  obtain ⟨cs, rfl, _⟩ := okWide_struct Try.underlying81 hv
  obtain ⟨fuel, hf⟩ := h
  obtain ⟨x, hx, ok⟩ := decToken _ _ _ hf
  refine ⟨x, ?_, ok⟩
  have : cs = x.cells.toArray := by rw [← hx]; simp [Value.cells]
  rw [this]; rfl
end


theorem szToken_any (x : Token) (left : Int) (h0 : 0 ≤ left) (h1 : left ≤ 1048576) (hs : x.Ok) (w : World) :
    Calls Try.prog 68 #[.agg #[.int .i64 x.kind, .string x.text, .int .i64 x.at_], .int .i64 left] w fun e w' => e = .returned (.int .i64 (szNat x.sizes left)) ∧ Below w.heap.size w w' := by
  unfold Token.Ok maxLen at hs
  obtain ⟨hs0, _⟩ := hs
  go_enter Try.func68, Try.ntmps68
  go_wp2
  all_goals go_ret
  all_goals exact ⟨ret_int (by unfold Token.sizes szNat; omega), by repeat (first | exact Below.refl _ _ | refine Below.alloc ?_ (by first | omega | (simp; done) | (simp; omega)) _ | refine Below.drew ?_)⟩

theorem szTokenS_any (l : List Token) (v : Value) (left : Int) (h0 : 0 ≤ left) (h1 : left ≤ 1048576) (w : World) (hs : ∀ x ∈ l, x.Ok) (hv : Slc w v 3 l.length (l.flatMap Token.cells)) :
    Calls Try.prog 33 #[v, .int .i64 left] w fun e w' => e = .returned (.int .i64 (szList Token.sizes l left)) ∧ Below w.heap.size w w' := by
  obtain ⟨_, a, cap, rfl, hc, hm, hrow⟩ := hv
  unfold maxLen at hm
  go_enter Try.func33, Try.ntmps33
  go_wp2
  · go_ret
    exact ⟨ret_int (by rw [szList, if_pos (by omega)]), Below.refl _ _⟩
  · rename_i hge _
    have hge' : ¬ (left - l.length < 0) := by omega
    go_loopw [1, 5] (fun v i wr => ∃ (k : Nat) (q : Int), i = .int .i64 k ∧ k ≤ l.length ∧ v = .int .i64 q ∧ 0 ≤ q ∧ q ≤ 1048576 ∧ Below w.heap.size w wr ∧ Hid (szList Token.sizes l left = szLoop Token.sizes (l.drop k) q)) (fun _ i _ => l.length - (intOf i).toNat)
    case atStart => exact ⟨0, _, rfl, by omega, rfl, by omega, by omega, Below.refl _ _, by show szList _ _ _ = _; rw [szList, if_neg hge']; rfl⟩
    obtain ⟨k, q, rfl, hk, rfl, q0, q1, hb, hrel⟩ := hrel
    by_cases hlt : k < l.length
    · obtain ⟨x, hx⟩ := get_of_lt hlt
      obtain ⟨b, off, rfl, hro⟩ := slc_some hrow (by omega)
      have hrw := hro.mono hb (Nat.le_refl _)
      have c0 := hrw.flat0 3 Token.len hx rfl
      have c1 := hrw.flat 3 Token.len hx 1 rfl
      have c2 := hrw.flat 3 Token.len hx 2 rfl
      have hxs := hs x (List.mem_of_getElem? hx)
      have hp1 := szNat_le x.sizes q
      have hp2 := szNat_lo x.sizes q
      rw [drop_cons hx] at hrel
      clear hx
      go_wp2_with (go_at_call 68; refine (szToken_any x q (by omega) (by omega) hxs _).mono ?_; rintro e w' ⟨rfl, hb1⟩)
      · go_ret
        exact ⟨ret_int (by rw [hrel.out, szLoop, if_pos (by omega)]), hb.trans (hb1.mono hb.size)⟩
      · go_roundw
        case rel => exact ⟨k + 1, _, by go_num, by omega, rfl, by omega, by omega, hb.trans (hb1.mono hb.size), by rw [hrel.out, szLoop, if_neg (by omega)]; exact hid rfl⟩
        case measure => simp [intOf]; omega
    · go_wp2
      go_ret
      exact ⟨ret_int (by rw [hrel.out, List.drop_of_length_le (by omega)]; rfl), hb⟩


theorem toToken_any (x : Token) (w : World) :
    Calls Try.prog 69 #[.agg #[.int .i64 x.kind, .string x.text, .int .i64 x.at_]] w fun e w' => e = .returned (.agg #[.int .i64 x.kind, .string x.text, .int .i64 x.at_]) ∧ Below w.heap.size w w' := by
  go_enter Try.func69, Try.ntmps69
  go_wp2
  refine bodyPost_ret (v := .agg #[.int .i64 x.kind, .string x.text, .int .i64 x.at_]) (by simp [results, Try.results69, go_sem]) rfl ⟨rfl, ?_⟩
  exact (by repeat (first | exact Below.refl _ _ | refine Below.alloc ?_ (by first | omega | (simp; done) | (simp; omega)) _ | refine Below.drew ?_))

theorem Try.info82 : (Try.prog.info? 82).map (fun i => (i.zero, i.size, i.bytes)) = some (some (.agg #[.int .i64 0, .string ⟨#[]⟩, .int .i64 0]), 3, 32) := by kernel_rfl

theorem toTokenS_any (l : List Token) (v : Value) (w : World) (hn : l.length ≤ 1048576) (hv : Slc w v 3 l.length (l.flatMap Token.cells)) :
    Calls Try.prog 35 #[v] w fun e w' => ∃ v', e = .returned v' ∧ Below w.heap.size w w' ∧ w'.ownsRow w.heap.size 82 3 v' l.length (l.flatMap Token.cells) := by
  obtain ⟨_, a, cap, rfl, hc, hm, hrow⟩ := hv
  unfold maxLen at hm
  obtain ⟨i0, hi, hz0, hz1, hz2⟩ := info_parts Try.info82
  go_enter Try.func35, Try.ntmps35
  go_wp2_with (at_make; refine wpList_make_full _ rfl _ _ 45 rfl w.heap.size 82 i0 _ 3 Try.underlying45 hi hz0 hz1 .i64 .i64 l.length l.length l.length rfl rfl rfl rfl ?c1 ?c2 ?c3 ?c4)
  case c1 => rw [hz2]; omega
  case c2 => unfold maxLen; omega
  case c3 => exact Nat.le_refl _
  case c4 =>
  intro w1 hown hgr
  have hb1 : Below w.heap.size w w1 := (Below.refl _ _).grown hgr (Nat.le_refl _) (by simp)
  have hfill := Filling.made hown
  clear hi hz0 hz1 hz2 hown hgr
  go_wp2
  go_loopw [4] (fun i wr => ∃ (k : Nat), i = .int .i64 k ∧ k ≤ l.length ∧ Below w.heap.size w wr ∧ Filling wr w.heap.size 82 3 w.heap.size l.length ((l.take k).flatMap Token.cells)) (fun i _ => l.length - (intOf i).toNat)
  case atStart => exact ⟨0, rfl, by omega, hb1, hfill⟩
  obtain ⟨k, rfl, hk, hb, hfr⟩ := hrel
  clear hb1 hfill
  by_cases hlt : k < l.length
  · obtain ⟨x, hx⟩ := get_of_lt hlt
    obtain ⟨b, off, rfl, hro⟩ := slc_some hrow (by omega)
    have hrw := hro.mono hb (Nat.le_refl _)
    have c0 := hrw.flat0 3 Token.len hx rfl
    have c1 := hrw.flat 3 Token.len hx 1 rfl
    have c2 := hrw.flat 3 Token.len hx 2 rfl
    have HX : Hid (l[k]? = some x) := hx
    clear hx
    go_wp2_with (go_at_call 69; refine (toToken_any x _).mono ?_; rintro e w2 ⟨rfl, hb2⟩; have hf2 := hfr.below hb2 (Nat.le_refl _); obtain ⟨⟨d0, e0⟩, z0⟩ := hf2.cell (k * 3) (by omega); obtain ⟨⟨d1, e1⟩, z1⟩ := hf2.cell (k * 3 + 1) (by omega); obtain ⟨⟨d2, e2⟩, z2⟩ := hf2.cell (k * 3 + 2) (by omega))
    go_roundw
    case rel => exact ⟨k + 1, by go_num, by omega, below_storeAll x.cells (k * 3) (hb.trans (hb2.mono hb.size)) (Nat.le_refl _), Filling.next Token.len hf2 HX hlt⟩
    case measure => simp [intOf]; omega
  · go_wp2
    go_ret
    have e : l.take k = l := List.take_of_length_le (by omega)
    rw [e] at hfr
    exact ⟨_, rfl, hb, hfr.done (flat_len _ 3 Token.len l)⟩


theorem eqToken_any (x y : Token) (w : World) :
    Calls Try.prog 72 #[.agg #[.int .i64 x.kind, .string x.text, .int .i64 x.at_], .agg #[.int .i64 y.kind, .string y.text, .int .i64 y.at_]] w fun e w' => e = .returned (.bool (eqToken x y)) ∧ Below w.heap.size w w' := by
  go_enter Try.func72, Try.ntmps72
  go_wp2
  all_goals go_ret
  all_goals exact ⟨ret_bool (by unfold eqToken; simp_all), by repeat (first | exact Below.refl _ _ | refine Below.alloc ?_ (by first | omega | (simp; done) | (simp; omega)) _ | refine Below.drew ?_)⟩

set_option maxRecDepth 100000 in
theorem eqTokenS_any (l r : List Token) (v u : Value) (w : World) (hv : Slc w v 3 l.length (l.flatMap Token.cells)) (hu : Slc w u 3 r.length (r.flatMap Token.cells)) :
    Calls Try.prog 38 #[v, u] w fun e w' => e = .returned (.bool (eqList eqToken l r)) ∧ Below w.heap.size w w' := by
  obtain ⟨_, a, cap, rfl, hc, hm, hrow⟩ := hv
  obtain ⟨_, a', cap', rfl, hc', hm', hrow'⟩ := hu
  unfold maxLen at hm hm'
  by_cases hlen : l.length = r.length
  · have hle : ((l.length : Int) != (r.length : Int)) = false := by rw [hlen]; simp
    have HL := hid hlen
    have hl1 : l.length ≤ r.length := by omega
    have hl2 : r.length ≤ l.length := by omega
    clear hlen
    go_enter Try.func38, Try.ntmps38
    go_wp2
    go_loopw [5] (fun i wr => ∃ (k : Nat), i = .int .i64 k ∧ k ≤ l.length ∧ Below w.heap.size w wr ∧ Hid (eqList eqToken l r = eqLoop eqToken (l.drop k) (r.drop k))) (fun i _ => l.length - (intOf i).toNat)
    case atStart => exact ⟨0, rfl, by omega, Below.refl _ _, by show eqList _ _ _ = _; rw [eqList, if_pos HL.out]; rfl⟩
    obtain ⟨k, rfl, hk, hb, hrel⟩ := hrel
    by_cases hlt : k < l.length
    · obtain ⟨x, hx⟩ := get_of_lt hlt
      obtain ⟨y, hy⟩ := get_of_lt (l := r) (k := k) (by omega)
      obtain ⟨b, off, rfl, hro⟩ := slc_some hrow (by omega)
      obtain ⟨b', off', rfl, hro'⟩ := slc_some hrow' (by omega)
      have hrw := hro.mono hb (Nat.le_refl _)
      have hrw' := hro'.mono hb (Nat.le_refl _)
      have c0 := hrw.flat0 3 Token.len hx rfl
      have c1 := hrw.flat 3 Token.len hx 1 rfl
      have c2 := hrw.flat 3 Token.len hx 2 rfl
      have g0 := hrw'.flat0 3 Token.len hy rfl
      have g1 := hrw'.flat 3 Token.len hy 1 rfl
      have g2 := hrw'.flat 3 Token.len hy 2 rfl
      rw [drop_cons hx, drop_cons hy] at hrel
      have hkr : k < r.length := by omega
      clear hx hy
      by_cases hxy : eqToken x y = true
      · go_wp2_with fail
        go_still_tail 8, (by kernel_rfl)
        go_wp2_with (go_at_call 72; refine (eqToken_any x y _).mono ?_; rintro e w' ⟨rfl, hb1⟩)
        go_roundw
        case rel => exact ⟨k + 1, by go_num, by omega, hb.drew.trans (hb1.mono hb.size), by rw [hrel.out, eqLoop, if_pos hxy]; exact hid rfl⟩
        case measure => simp [intOf]; omega
      · have hxy' : eqToken x y = false := by simpa using hxy
        go_wp2_with fail
        go_still_tail 8, (by kernel_rfl)
        go_wp2_with (go_at_call 72; refine (eqToken_any x y _).mono ?_; rintro e w' ⟨rfl, hb1⟩)
        go_ret
        exact ⟨ret_bool (by rw [hrel.out, eqLoop, if_neg hxy]), hb.drew.trans (hb1.mono hb.size)⟩
    · go_wp2
      go_ret
      exact ⟨ret_bool (by rw [hrel.out, List.drop_of_length_le (by omega), eqLoop]; simp), hb⟩
  · have hle : ((l.length : Int) != (r.length : Int)) = true := by simp; omega
    have HL := hid hlen
    clear hlen
    go_enter Try.func38, Try.ntmps38
    go_wp2
    go_ret
    exact ⟨ret_bool (by rw [eqList, if_neg HL.out]), Below.refl _ _⟩

end Go.Proofs.Ytagoeiegdlnalaa
