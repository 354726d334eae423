/- Walks and lemmas of this seat (LFnLines): what each theorem says of the functions that it names. Conditions: those that each theorem states. -/
import Derived.Test.YtdnjjgidlpmgjaaDoorFLongest
import Derived.Test.YtdnjjgidlpmgjaaDoorPJoin
import Derived.Test.YtdnjjgidlpmgjaaDoorFDrawText
import Derived.Test.YtdnjjgidlpmgjaaDoorFSameTexts
import Derived.Test.YtdnjjgidlpmgjaaDoorHByte
namespace Go.Proofs.YtdnjjgidlpmgjaaDoor
set_option linter.unusedVariables false
set_option linter.unusedSimpArgs false
open Go.RowKit

theorem longestFrom_snoc (m : Nat) (l : List ByteArray) (x : ByteArray) : longestFrom m (l ++ [x]) = max (longestFrom m l) x.size := by
  unfold longestFrom; rw [List.foldl_append]; rfl
theorem joinOf_size (s : ByteArray) : (joinOf (linesOf s)).length ≤ s.size + 1 := by
  have e : s.data.toList.length = s.size := rfl
  rcases join_linesOf s with h | h <;> rw [h]
  · omega
  · rw [List.length_append, e]; exact Nat.le_refl _

set_option maxRecDepth 100000 in
set_option maxHeartbeats 1600000 in
theorem lawFnLines {w : World} (bs : List UInt8) (v0 : Value) (hv0 : Slc w v0 1 bs.length (bs.flatMap byte1)) (hE : HasMaxLen w) :
    Calls Tryd.prog 5 #[v0] w fun e w' => e = .returned (.bool true) ∧ Below w.heap.size w w' := by
  have hbig := hid (lawsbig_any v0 bs w hv0)
  by_cases hs : 1048576 < bs.length
  · have hd : decide (1048576 < bs.length) = true := by simpa using hs
    rw [hd] at hbig
    obtain ⟨_, a, cap, rfl, hcap, hm, hrow⟩ := hv0
    go_enter Tryd.func5, Tryd.ntmps5
    go_wp2_with (go_at_call 14; refine hbig.out.mono ?_; rintro e w' ⟨rfl, rfl⟩)
    go_ret
    exact ⟨rfl, Below.refl _ _⟩
  have hd : decide (1048576 < bs.length) = false := by simpa using hs
  rw [hd] at hbig
  have hdraw := hid (specDrawLinesOf_any w v0 bs hv0 (by omega))
  replace hE := hid hE
  obtain ⟨_, a, cap, rfl, hcap, hm, hrow⟩ := hv0
  clear hrow
  go_enter Tryd.func5, Tryd.ntmps5
  go_wp2_with (go_at_call 14; refine hbig.out.mono ?_; rintro e w' ⟨rfl, rfl⟩)
  refine hdraw.out.mono ?_; rintro e w1 ⟨s, hs1, rfl, hb1⟩
  have hB1 := hid hb1
  clear hdraw hbig hd hb1
  go_wp2_with fail
  refine (implLinesOf_any s w1 (by omega) (hE.out.below hB1.out)).mono ?_; rintro e w2 ⟨v', rfl, hb2, ho2⟩
  have hB2 := hid (hB1.out.trans (hb2.mono hB1.out.size))
  have hsl := Slc.of_own ho2
  have hsl2 := hid hsl
  have hjs := joinOf_size s
  have hj := hid (join_linesOf s)
  have hlong := hid (show longest s = longestFrom 0 (linesOf s) from rfl)
  have hspec := hid (specLinesOf_any s)
  have hsz := hid (fun x (h : x ∈ linesOf s) => linesOf_size h)
  generalize linesOf s = L at *
  obtain ⟨_, a2, cap2, rfl, hcap2, hm2, hrow2⟩ := hsl
  unfold maxLen at hm2
  replace hb2 := hid hb2
  clear ho2 hB1
  go_wp2
  go_loopw [5, 6, 7] (fun tv nv i wr => ∃ (k : Nat) (t : ByteArray) (n : Nat), i = .int .i64 k ∧ k ≤ L.length ∧ tv = .string t ∧ nv = .int .i64 n ∧ n ≤ 15 ∧ Hid (t.data.toList = joinOf (L.take k)) ∧ Hid (n = longestFrom 0 (L.take k)) ∧ wr = w2) (fun _ _ i _ => L.length - (intOf i).toNat)
  case atStart => exact ⟨0, ⟨#[]⟩, 0, rfl, by omega, rfl, rfl, by omega, hid rfl, hid rfl, rfl⟩
  obtain ⟨k, t, n, rfl, hk, rfl, rfl, hn, ht, hnl, rfl⟩ := hrel
  have htl := joinOf_take_len L k
  have hts : t.size ≤ s.size + 1 := by
    have e : t.data.toList.length = t.size := rfl
    rw [← e, ht.out]; omega
  by_cases hlt : k < L.length
  · obtain ⟨x, hx⟩ := get_of_lt hlt
    obtain ⟨b, off, rfl, hro⟩ := slc_some hrow2 (by omega)
    have c0 := hro.one str1_len hx rfl
    have hxs := hsz.out x (List.mem_of_getElem? hx)
    have htk := take_next hx
    have ht2 : Hid ((t ++ x ++ ⟨#[10]⟩).data.toList = joinOf (L.take (k + 1))) := hid (by rw [htk, joinOf_snoc, ← ht.out]; simp)
    have hn2 : Hid (max n x.size = longestFrom 0 (L.take (k + 1))) := hid (by rw [htk, longestFrom_snoc, ← hnl.out])
    clear hx hro hrow2 htk
    go_wp2
    all_goals go_roundw
    all_goals first
      | (simp [intOf]; omega)
      | exact ⟨k + 1, _, max n x.size, by go_num, by omega, rfl, by congr 1; omega, by omega, ht2, hn2, trivial⟩
  · obtain rfl : k = L.length := by omega
    rw [List.take_of_length_le (Nat.le_refl _)] at ht hnl
    have hnv : Hid (n = longest s) := hid (by rw [hnl.out, hlong.out])
    have hcallL := hid (implLongest_any s wr (by omega) (hE.out.below hB2.out))
    have htj : t = s ∨ t = s ++ ⟨#[10]⟩ := by
      rcases hj.out with h | h
      · exact .inl (ByteArray.ext (Array.toList_inj.1 (by rw [ht.out, h])))
      · exact .inr (ByteArray.ext (Array.toList_inj.1 (by rw [ht.out, h]; simp)))
    have hne : ((s ++ ⟨#[10]⟩).toList == s.toList) = false := by
      rw [beq_eq_false_iff_ne]
      intro h
      have := congrArg List.length h
      rw [ByteArray.toList_eq, ByteArray.toList_eq] at this
      simp at this
    have hsz2 : (s ++ ⟨#[10]⟩ : ByteArray).size = s.size + 1 := by rw [ByteArray.size_append]; rfl
    clear htl ht hnl hlong hj hrow2
    rcases htj with rfl | rfl
    · go_wp2_with fail
      refine hcallL.out.mono ?_; rintro e w3 ⟨rfl, hb3⟩
      have hs3 := hb3.size
      have hB3 := hid (hB2.out.trans (hb3.mono hB2.out.size))
      rw [← hnv.out]
      go_wp2_with fail
      refine (hspec.out w3 (by omega)).mono ?_; rintro e w4 ⟨v4, rfl, hb4, ho4⟩
      have hB4 := hid (hB3.out.trans (hb4.mono hB3.out.size))
      have hsl4 := hsl2.out.mono (hb3.trans (hb4.mono hs3)) (Nat.le_refl _)
      have hcallS := hid (lawssameTexts_self L _ v4 w4 hsl4 (Slc.of_own ho4))
      clear hsl4 ho4 hb4 hb3 hspec hcallL
      go_wp2_with fail
      refine hcallS.out.mono ?_; rintro e w5 ⟨rfl, hb5⟩
      go_wp2
      go_ret
      exact ⟨rfl, hB4.out.trans (hb5.mono hB4.out.size)⟩
    · go_wp2_with fail
      refine hcallL.out.mono ?_; rintro e w3 ⟨rfl, hb3⟩
      have hs3 := hb3.size
      have hB3 := hid (hB2.out.trans (hb3.mono hB2.out.size))
      rw [← hnv.out]
      go_wp2_with fail
      refine (hspec.out w3 (by omega)).mono ?_; rintro e w4 ⟨v4, rfl, hb4, ho4⟩
      have hB4 := hid (hB3.out.trans (hb4.mono hB3.out.size))
      have hsl4 := hsl2.out.mono (hb3.trans (hb4.mono hs3)) (Nat.le_refl _)
      have hcallS := hid (lawssameTexts_self L _ v4 w4 hsl4 (Slc.of_own ho4))
      clear hsl4 ho4 hb4 hb3 hspec hcallL
      go_wp2_with fail
      refine hcallS.out.mono ?_; rintro e w5 ⟨rfl, hb5⟩
      go_wp2
      go_ret
      exact ⟨rfl, hB4.out.trans (hb5.mono hB4.out.size)⟩
end Go.Proofs.YtdnjjgidlpmgjaaDoor
