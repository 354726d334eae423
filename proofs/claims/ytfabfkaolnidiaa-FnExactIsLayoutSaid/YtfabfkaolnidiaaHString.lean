/- Walks and lemmas of this seat (HString): what each theorem says of the functions that it names. Conditions: those that each theorem states. -/
import Derived.Test.YtfabfkaolnidiaaRows
import Derived.Test.YtfabfkaolnidiaaLift
import Derived.Test.YtfabfkaolnidiaaHMark
namespace Go.Proofs.Ytfabfkaolnidiaa
set_option linter.unusedVariables false
set_option linter.unusedSimpArgs false
open Go.RowKit


def eqString (x y : ByteArray) : Bool := x.toList == y.toList
theorem eqString_iff (x y : ByteArray) : eqString x y = true ↔ x = y := by simp [eqString, toList_inj]


section
open Go.ChangeShapes Go.WideShapes Go.ChangeAt
theorem decString {H : Type} {enc : TypeId × Value → H} {w : World} {spare : Nat → Bool} (cs : List Value) (n : Nat) (y : DataW H × List MemPlace) (h : DataW.trod enc Try.prog w 0 spare true n 9 cs = some y) : ∃ x : ByteArray, cs = str1 x ∧ x.size ≤ maxLen := by
  obtain ⟨s, rfl, _, hs⟩ := DataW.trod_string Try.underlying9 h
  exact ⟨s, rfl, hs⟩
end


theorem Try.info9 : (Try.prog.info? 9).map (fun i => (i.zero, i.size, i.bytes)) = some (some (.string ⟨#[]⟩), 1, 16) := by kernel_rfl

set_option maxRecDepth 100000 in
theorem eqStringS_any (l r : List ByteArray) (v u : Value) (w : World) (hv : Slc w v 1 l.length (l.flatMap str1)) (hu : Slc w u 1 r.length (r.flatMap str1)) :
    Calls Try.prog 17 #[v, u] w fun e w' => e = .returned (.bool (eqList eqString l r)) ∧ Below w.heap.size w w' := by
  obtain ⟨_, a, cap, rfl, hc, hm, hrow⟩ := hv
  obtain ⟨_, a', cap', rfl, hc', hm', hrow'⟩ := hu
  unfold maxLen at hm hm'
  by_cases hlen : l.length = r.length
  · have hle : ((l.length : Int) != (r.length : Int)) = false := by rw [hlen]; simp
    have HL := hid hlen
    have hl1 : l.length ≤ r.length := by omega
    have hl2 : r.length ≤ l.length := by omega
    clear hlen
    go_enter Try.func17, Try.ntmps17
    go_wp2
    go_loopw [5] (fun i wr => ∃ (k : Nat), i = .int .i64 k ∧ k ≤ l.length ∧ Below w.heap.size w wr ∧ Hid (eqList eqString l r = eqLoop eqString (l.drop k) (r.drop k))) (fun i _ => l.length - (intOf i).toNat)
    case atStart => exact ⟨0, rfl, by omega, Below.refl _ _, by show eqList _ _ _ = _; rw [eqList, if_pos HL.out]; rfl⟩
    obtain ⟨k, rfl, hk, hb, hrel⟩ := hrel
    by_cases hlt : k < l.length
    · obtain ⟨x, hx⟩ := get_of_lt hlt
      obtain ⟨y, hy⟩ := get_of_lt (l := r) (k := k) (by omega)
      obtain ⟨b, off, rfl, hro⟩ := slc_some hrow (by omega)
      obtain ⟨b', off', rfl, hro'⟩ := slc_some hrow' (by omega)
      have hrw := hro.mono hb (Nat.le_refl _)
      have hrw' := hro'.mono hb (Nat.le_refl _)
      have c0 := hrw.one str1_len hx rfl
      have g0 := hrw'.one str1_len hy rfl
      rw [drop_cons hx, drop_cons hy] at hrel
      have hkr : k < r.length := by omega
      clear hx hy
      by_cases hxy : eqString x y = true
      · have hq1 : (x.toList == y.toList) = true := hxy
        have hq2 : (!(x.toList == y.toList)) = false := by simpa [eqString] using hxy
        go_wp2_with fail
        go_still_tail 8, (by kernel_rfl)
        go_wp2
        go_roundw
        case rel => exact ⟨k + 1, by go_num, by omega, hb.drew, by rw [hrel.out, eqLoop, if_pos hxy]; exact hid rfl⟩
        case measure => simp [intOf]; omega
      · have hq1 : (x.toList == y.toList) = false := by simpa [eqString] using hxy
        have hq2 : (!(x.toList == y.toList)) = true := by simpa [eqString] using hxy
        go_wp2_with fail
        go_still_tail 8, (by kernel_rfl)
        go_wp2
        go_ret
        exact ⟨ret_bool (by rw [hrel.out, eqLoop, if_neg hxy]), hb.drew⟩
    · go_wp2
      go_ret
      exact ⟨ret_bool (by rw [hrel.out, List.drop_of_length_le (by omega), eqLoop]; simp), hb⟩
  · have hle : ((l.length : Int) != (r.length : Int)) = true := by simp; omega
    have HL := hid hlen
    clear hlen
    go_enter Try.func17, Try.ntmps17
    go_wp2
    go_ret
    exact ⟨ret_bool (by rw [eqList, if_neg HL.out]), Below.refl _ _⟩


def mkString (q : Nat) : ByteArray := markT q
def markLString (q n : Nat) : List ByteArray := (List.range n).map fun i => mkString (q + i)
theorem markLString_len (q n : Nat) : (markLString q n).length = n := by simp [markLString]
theorem markLString_get (q n i : Nat) (h : i < n) : (markLString q n)[i]? = some (mkString (q + i)) := by simp [markLString, h]
theorem markLString_succ (q i : Nat) : markLString q (i + 1) = markLString q i ++ [mkString (q + i)] := by simp [markLString, List.range_succ]
def mixString (k0 : Nat) (l : List ByteArray) (i : Nat) : List Value := (markLString k0 i).flatMap str1 ++ (l.drop i).flatMap str1
theorem markString_step {k0 k q : Nat} {l : List ByteArray} {x : ByteArray} (hx : l[k]? = some x) (hq : q = k0 + k) :
    (mixString k0 l k).set k (.string (markT q)) = mixString k0 l (k + 1) := by
  have h := setAll_mid [.string (markT q)] ((markLString k0 k).flatMap str1) (str1 x) ((l.drop (k + 1)).flatMap str1) k (by rw [flat_len _ 1 str1_len, markLString_len]; omega) rfl
  unfold mixString
  rw [drop_cons hx, List.flatMap_cons]
  have h' : (List.flatMap str1 (markLString k0 k) ++ (str1 x ++ List.flatMap str1 (List.drop (k + 1) l))).set k (.string (markT q)) = _ := h
  rw [h', markLString_succ, ← hq]
  simp [mkString, str1]

set_option maxRecDepth 100000 in
theorem markStringS_any {B : Nat} (l : List ByteArray) (v : Value) (k0 : Nat) (w : World) (hn : l.length ≤ 16777216) (hk0 : k0 ≤ 16777216) (h : w.ownsRow B 9 1 v l.length (l.flatMap str1)) :
    Calls Try.prog 19 #[v, .int .i64 k0] w fun e w' => e = .returned (.int .i64 ((k0 + l.length : Nat) : Int)) ∧ w.grownBy w' v.ownBlock ∧ w'.ownsRow B 9 1 v l.length ((markLString k0 l.length).flatMap str1) := by
  obtain ⟨a, cap, rfl, hm⟩ := own_slice h
  unfold maxLen at hm
  go_enter Try.func19, Try.ntmps19
  go_wp2
  go_loopw [1, 5] (fun kv i wr => ∃ (k q : Nat), i = .int .i64 k ∧ k ≤ l.length ∧ kv = .int .i64 q ∧ q = k0 + k ∧ w.grownBy wr (Value.slice a l.length cap).ownBlock ∧ wr.ownsRow B 9 1 (.slice a l.length cap) l.length (mixString k0 l k)) (fun _ i _ => l.length - (intOf i).toNat)
  case atStart => exact ⟨0, k0, rfl, by omega, rfl, by omega, grown_refl _ _, by simpa [mixString, markLString] using h⟩
  obtain ⟨k, q, rfl, hk, rfl, hq, hgr, hfr⟩ := hrel
  by_cases hlt : k < l.length
  · obtain ⟨x, hx0⟩ := get_of_lt hlt
    obtain ⟨g, rfl⟩ := own_some hfr (by omega)
    have hx : Hid (l[k]? = some x) := hx0
    have hqq : q ≤ k0 + k := by omega
    have hqq2 : k0 + k ≤ q := by omega
    have HQ := hid hq
    clear hx0 hq h
    go_wp2_with fail
    refine (markText_int _ q _ (by omega) (by omega)).mono ?_; rintro e w1 ⟨rfl, hb1⟩
    have ho0 := own_below hfr hb1 (Nat.le_refl _)
    obtain ⟨⟨d0, e0⟩, z0⟩ := own_cell ho0 k (by omega)
    have hst := ho0.stored k (.string (markT q))
    have hgg := grown_trans (grown_trans hgr (grown_below hb1)) (grown_set _ _ k (.string (markT q)))
    rw [markString_step hx HQ.out] at hst
    go_wp2
    go_roundw
    case rel => exact ⟨k + 1, q + 1, by go_num, by omega, by go_num, by omega, hgg, hst.1⟩
    case measure => simp [intOf]; omega
  · go_wp2
    go_ret
    have hkl : k = l.length := by omega
    subst hkl
    exact ⟨ret_int (by rw [hq]), hgr, by simpa [mixString] using hfr⟩

set_option maxRecDepth 100000 in
theorem heldStringS_any (n : Nat) (v : Value) (k0 : Nat) (w : World) (hn : n ≤ 16777216) (hk0 : k0 ≤ 16777216) (hv : Slc w v 1 n ((markLString k0 n).flatMap str1)) :
    Calls Try.prog 20 #[v, .int .i64 k0] w fun e w' => e = .returned (.int .i64 ((k0 + n : Nat) : Int)) ∧ Below w.heap.size w w' := by
  obtain ⟨_, a, cap, rfl, hc, hm, hrow⟩ := hv
  unfold maxLen at hm
  go_enter Try.func20, Try.ntmps20
  go_wp2
  go_loopw [1, 5] (fun kv i wr => ∃ (k q : Nat), i = .int .i64 k ∧ k ≤ n ∧ kv = .int .i64 q ∧ q = k0 + k ∧ Below w.heap.size w wr) (fun _ i _ => n - (intOf i).toNat)
  case atStart => exact ⟨0, k0, rfl, by omega, rfl, by omega, Below.refl _ _⟩
  obtain ⟨k, q, rfl, hk, rfl, hq, hb⟩ := hrel
  by_cases hlt : k < n
  · have hx := markLString_get k0 n k hlt
    rw [← hq] at hx
    obtain ⟨b, off, rfl, hro⟩ := slc_some hrow (by omega)
    have hqq : q ≤ k0 + k := by omega
    have hqq2 : k0 + k ≤ q := by omega
    have HQ := hid hq
    have HX := hid hx
    clear hq hx
    have hrw := hro.mono hb (Nat.le_refl _)
    have c0 := hrw.one str1_len HX.out rfl
    simp only [mkString] at c0
    go_wp2_with fail
    go_region_held3 (fun w2 => Below wr.heap.size wr w2 ∧ w2.cell? ⟨b, off + k, none⟩ = some (.string (markT q))) (first | exact ⟨(Below.refl _ _).drew, c0⟩ | exact keep_cell2 (by assumption) hbx0 c0 | exact keep_cell (by assumption) hbx0 c0 (Nat.le_refl _) | go_keep) (first | (go_at_call 51; refine (markText_int _ q _ (by omega) (by omega)).mono ?_; rintro e wx0 ⟨rfl, hbx0⟩))
    have hS0 := (‹Below wr.heap.size wr wx0 ∧ _›).1
    have hacc := hb.trans (hS0.mono hb.size)
    go_wp2
    go_roundw
    case rel => exact ⟨k + 1, q + 1, by go_num, by omega, by go_num, by omega, hacc⟩
    case measure => simp [intOf]; omega
  · go_wp2
    go_ret
    have hkl : k = n := by omega
    subst hkl
    exact ⟨ret_int (by rw [hq]), hb⟩

end Go.Proofs.Ytfabfkaolnidiaa
