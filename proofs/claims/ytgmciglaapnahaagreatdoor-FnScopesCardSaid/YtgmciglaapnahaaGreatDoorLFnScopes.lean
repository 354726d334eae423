/- Walks and lemmas of this seat (LFnScopes): what each theorem says of the functions that it names. Conditions: those that each theorem states. -/
import Derived.Test.YtgmciglaapnahaaGreatDoorFFunc24
import Derived.Test.YtgmciglaapnahaaGreatDoorPScopeLaw
import Derived.Test.YtgmciglaapnahaaGreatDoorGU
import Derived.Test.YtgmciglaapnahaaGreatDoorGY
import Derived.Test.YtgmciglaapnahaaGreatDoorGZ
import Derived.Test.YtgmciglaapnahaaGreatDoorGW
import Derived.Test.YtgmciglaapnahaaGreatDoorGV
import Derived.Test.YtgmciglaapnahaaGreatDoorFHasText
import Derived.Test.YtgmciglaapnahaaGreatDoorFSameTexts
import Derived.Test.YtgmciglaapnahaaGreatDoorGHB
import Derived.Deep.RegionLaw
namespace Go.Proofs.YtgmciglaapnahaaGreatDoor
set_option linter.unusedVariables false
set_option linter.unusedSimpArgs false
open Go.RowKit Go.Lib

set_option maxRecDepth 100000 in
set_option maxHeartbeats 1600000 in
/-- sameInts of two slices that read alike. -/
theorem lawssameInts_self (L : List Int) (u v : Value) (w : World) (hu : Slc w u 1 L.length (L.flatMap int1)) (hv : Slc w v 1 L.length (L.flatMap int1)) :
    Calls Tryz.prog 34 #[u, v] w fun e w' => e = .returned (.bool true) ∧ Below w.heap.size w w' := by
  obtain ⟨_, a, cap, rfl, hcap, hm, hrow⟩ := hu
  obtain ⟨_, b, cap2, rfl, hcap2, hm2, hrow2⟩ := hv
  unfold maxLen at hm hm2
  go_enter Tryz.func34, Tryz.ntmps34
  go_wp2
  go_loopw [5] (fun i wr => ∃ (k : Nat), i = .int .i64 k ∧ k ≤ L.length ∧ Below w.heap.size w wr) (fun i _ => L.length - (intOf i).toNat)
  case atStart => exact ⟨0, rfl, by omega, by repeat (first | exact Below.refl _ _ | refine Below.alloc ?_ (by first | omega | (simp; done) | (simp; omega)) _ | refine Below.drew ?_)⟩
  obtain ⟨k, rfl, hk, hb⟩ := hrel
  by_cases hlt : k < L.length
  · obtain ⟨x, hx⟩ := get_of_lt hlt
    obtain ⟨b1, off1, rfl, hro1⟩ := slc_some hrow (by omega)
    obtain ⟨b2, off2, rfl, hro2⟩ := slc_some hrow2 (by omega)
    have c1 := (hro1.mono hb (Nat.le_refl _)).one int1_len hx rfl
    have c2 := (hro2.mono hb (Nat.le_refl _)).one int1_len hx rfl
    clear hx hro1 hro2 hrow hrow2
    go_wp2_with fail
    go_quiet (fail)
    go_wp2
    all_goals go_roundw
    all_goals first
      | (simp [intOf]; omega)
      | exact ⟨k + 1, by go_num, by omega, below_drewN hb _⟩
  · go_wp2
    go_ret
    exact ⟨rfl, hb⟩
set_option maxRecDepth 100000 in
theorem specDrawUnused_any (w : World) (bv : Value) (bs : List UInt8) (hc : Slc w bv 1 bs.length (bs.flatMap byte1)) (hs : bs.length ≤ 1048576) :
    Calls Tryz.prog 23 #[bv] w fun e w' => ∃ (v : Value) (l : List Node) (i : Int), e = .returned (.tuple #[v, .int .i64 i]) ∧ Below w.heap.size w w' ∧ NodeSlc w' v l ∧ FineN l ∧ -1 ≤ i ∧ i ≤ l.length := by
  have hcall := hid (specl1New_any w bv bs hc hs)
  obtain ⟨_, a, cap, rfl, hcap, hm, hrow⟩ := hc
  go_enter Tryz.func23, Tryz.ntmps23
  go_wp2_with fail
  refine hcall.out.mono ?_; rintro e w1 ⟨p, rfl, hb1, hc1⟩
  have hcall2 := hid (specl24Func_any _ _ _ _ _ hc1)
  clear hc1 hcall hrow
  go_wp2_with fail
  refine hcall2.out.mono ?_; rintro e w2 ⟨v, l, i, rfl, hg2, hc2, ho2, hf2, hi0, hi1⟩
  have hfin := hid (show Below w.heap.size w w2 ∧ NodeSlc w2 v l from ⟨hc2.old, ho2.slc⟩)
  obtain ⟨a2, cap2, rfl⟩ := ho2.vshape
  clear hc2 hcall2 hg2 ho2
  go_wp2
  go_ret2
  exact ⟨_, l, i, rfl, hfin.out.1, hfin.out.2, hf2, hi0, hi1⟩
theorem timesT_take {s x : ByteArray} {L : List ByteArray} {k : Nat} (h : L[k]? = some x) : timesT s (L.take (k + 1)) = timesT s (L.take k) + (if (x.toList == s.toList) = true then 1 else 0) := by
  unfold timesT
  rw [take_next h, List.countP_append, List.countP_singleton]
theorem timesT_le (s : ByteArray) (L : List ByteArray) : timesT s L ≤ L.length := List.countP_le_length

set_option maxRecDepth 100000 in
set_option maxHeartbeats 12800000 in
theorem lawFnScopes {w : World} (bs : List UInt8) (v0 : Value) (hv0 : Slc w v0 1 bs.length (bs.flatMap byte1)) (hE0 : WordEnv w) :
    Calls Tryz.prog 4 #[v0] w fun e w' => e = .returned (.bool true) ∧ Below w.heap.size w w' := by
  have hbig := hid (lawsbig_any v0 bs w hv0)
  by_cases hs : 1048576 < bs.length
  · have hd : decide (1048576 < bs.length) = true := by simpa using hs
    rw [hd] at hbig
    obtain ⟨_, a, cap, rfl, hcap, hm, hrow⟩ := hv0
    go_enter Tryz.func4, Tryz.ntmps4
    go_wp2_with (go_at_call 14; refine hbig.out.mono ?_; rintro e w' ⟨rfl, rfl⟩)
    go_ret
    exact ⟨rfl, Below.refl _ _⟩
  have hd : decide (1048576 < bs.length) = false := by simpa using hs
  rw [hd] at hbig
  have hdraw := hid (specDrawUnused_any w v0 bs hv0 (by omega))
  obtain ⟨_, a0, cap, rfl, hcap, hm, _⟩ := hv0
  clear hd hs
  go_enter Tryz.func4, Tryz.ntmps4
  go_wp2_with (go_at_call 14; refine hbig.out.mono ?_; rintro e w' ⟨rfl, hw'⟩; subst w')
  refine hdraw.out.mono ?_; rintro e w1 ⟨v, l, i, rfl, hbw, hD0, hfn, hi0, hi1⟩
  have hf := hfn.fine
  have hlen := hfn.1
  have hi64 : I64 i := by unfold I64; omega
  have hn0 : bulk Node.sizes l ≤ 1048576 := by omega
  obtain ⟨va, vc, rfl, hvm, hvc, _⟩ := hD0.shape
  have hE : WordEnv w1 := hE0.below hbw
  have hws := hbw.size
  have hB := hid (fun (W : World) (hb : Below w1.heap.size w1 W) => hbw.trans (hb.mono hws))
  have hl := hid (fun (W : World) (hb : Below w1.heap.size w1 W) => hD0.mono hb (Nat.le_refl _))
  have cu := hid (fun (W : World) (hb : Below w1.heap.size w1 W) => implUnused_any l _ i W hf.1 hn0 (hl.out W hb) hi64 (hE.below hb))
  have csu := hid (fun (W : World) (hb : Below w1.heap.size w1 W) => specUnused_any l _ i W hf.1 hn0 (hl.out W hb) hi64)
  have cp := hid (fun (W : World) (hb : Below w1.heap.size w1 W) => implParamsOf_any l _ i W hf.1 hn0 (hl.out W hb) hi64 (hE.below hb))
  have csp := hid (fun (W : World) (hb : Below w1.heap.size w1 W) => specParamsOf_any l _ i W hf.1 hn0 (hl.out W hb) hi64)
  have cr := hid (fun (W : World) (hb : Below w1.heap.size w1 W) => implRepeated_any l _ i W hf.1 hn0 (hl.out W hb) hi64 (hE.below hb))
  have cd := hid (fun (W : World) (hb : Below w1.heap.size w1 W) => implUndefined_any l _ W hf.1 hn0 (hl.out W hb))
  have csd := hid (fun (W : World) (hb : Below w1.heap.size w1 W) => specUndefined_any l _ W hf.1 hn0 (hl.out W hb))
  have cg := hid (fun (W : World) (hb : Below w1.heap.size w1 W) => implGlobalsOf_any l _ W hf.1 hn0 (hl.out W hb) (hE.below hb))
  have csg := hid (fun (W : World) (hb : Below w1.heap.size w1 W) => specGlobalsOf_any l _ W hf.1 hn0 (hl.out W hb))
  have cf := hid (fun (W : World) (hb : Below w1.heap.size w1 W) => implFuncsOf_any l _ W hf.1 hn0 (hl.out W hb))
  have csf := hid (fun (W : World) (hb : Below w1.heap.size w1 W) => specFuncsOf_any l _ W hf.1 hn0 (hl.out W hb))
  have cfn := hid (fun (W : World) (hb : Below w1.heap.size w1 W) => specFuncNames_any l _ W hf.1 hn0 (hl.out W hb))
  have cnm := hid (fun (W : World) (hb : Below w1.heap.size w1 W) => specNamesOf_any l _ W hf.1 hn0 (hl.out W hb))
  have hUl := unusedOf_len l (by omega) i
  have hPl := paramsOf_len l (by omega) i
  have hRl := repeated_len l (by omega) i
  have hDl : (undefined l).length ≤ 1048576 := by
    have h1 := namesT_len (undefs l l)
    have h2 := undefs_len l l
    unfold undefined
    omega
  have hU := hid (fun s (h : s ∈ unusedOf l i) => unused_among h)
  have hR := hid (fun s (h : s ∈ repeated l i) => repeated_twice h)
  have hDm := hid (fun s (h : s ∈ undefined l) => undefined_among h)
  have hG := hid (fun s (h : s ∈ globalsOf l) => globals_among h)
  have bL := hid (fun (W : World) (h : Below w1.heap.size w1 W) => h)
  clear hdraw hbig hbw hfn hD0
  generalize unusedOf l i = U at *
  generalize paramsOf l i = P at *
  generalize repeated l i = R at *
  generalize undefined l = D at *
  generalize globalsOf l = G at *
  generalize funcNames l = Fn at *
  generalize namesOf l = Nm at *
  generalize funcsOf 0 l = Fo at *
  go_wp2_with fail
  refine (cu.out w1 (bL.out w1 (Below.refl _ _))).mono ?_; rintro e w2 ⟨v2, rfl, hbx, ho2⟩
  have bL := hid (fun (W : World) (h : Below w2.heap.size w2 W) => bL.out W (hbx.trans (h.mono hbx.size)))
  have s2 := hid (fun (W : World) (h : Below w2.heap.size w2 W) => (Slc.of_own ho2).mono h (Nat.le_refl _))
  obtain ⟨a2, c2, rfl, _⟩ := own_slice ho2
  clear hbx ho2
  go_wp2_with fail
  refine (cp.out w2 (bL.out w2 (Below.refl _ _))).mono ?_; rintro e w3 ⟨v3, rfl, hbx, ho3⟩
  have bL := hid (fun (W : World) (h : Below w3.heap.size w3 W) => bL.out W (hbx.trans (h.mono hbx.size)))
  have s2 := hid (fun (W : World) (h : Below w3.heap.size w3 W) => s2.out W (hbx.trans (h.mono hbx.size)))
  have s3 := hid (fun (W : World) (h : Below w3.heap.size w3 W) => (Slc.of_own ho3).mono h (Nat.le_refl _))
  obtain ⟨a3, c3, rfl, _⟩ := own_slice ho3
  clear hbx ho3
  go_wp2_with fail
  refine (csu.out w3 (bL.out w3 (Below.refl _ _))).mono ?_; rintro e w4 ⟨v4, rfl, hbx, ho4⟩
  have bL := hid (fun (W : World) (h : Below w4.heap.size w4 W) => bL.out W (hbx.trans (h.mono hbx.size)))
  have s2 := hid (fun (W : World) (h : Below w4.heap.size w4 W) => s2.out W (hbx.trans (h.mono hbx.size)))
  have s3 := hid (fun (W : World) (h : Below w4.heap.size w4 W) => s3.out W (hbx.trans (h.mono hbx.size)))
  have s4 := hid (fun (W : World) (h : Below w4.heap.size w4 W) => (Slc.of_own ho4).mono h (Nat.le_refl _))
  obtain ⟨a4, c4, rfl, _⟩ := own_slice ho4
  clear hbx ho4
  have hcl := hid (lawssameTexts_self U _ _ w4 (s2.out w4 (Below.refl _ _)) (s4.out w4 (Below.refl _ _)))
  go_wp2_with fail
  refine hcl.out.mono ?_; rintro e w5 ⟨rfl, hbx⟩
  have bL := hid (fun (W : World) (h : Below w5.heap.size w5 W) => bL.out W (hbx.trans (h.mono hbx.size)))
  have s2 := hid (fun (W : World) (h : Below w5.heap.size w5 W) => s2.out W (hbx.trans (h.mono hbx.size)))
  have s3 := hid (fun (W : World) (h : Below w5.heap.size w5 W) => s3.out W (hbx.trans (h.mono hbx.size)))
  have s4 := hid (fun (W : World) (h : Below w5.heap.size w5 W) => s4.out W (hbx.trans (h.mono hbx.size)))
  clear hbx hcl
  go_wp2_with fail
  refine (csp.out w5 (bL.out w5 (Below.refl _ _))).mono ?_; rintro e w6 ⟨v6, rfl, hbx, ho6⟩
  have bL := hid (fun (W : World) (h : Below w6.heap.size w6 W) => bL.out W (hbx.trans (h.mono hbx.size)))
  have s2 := hid (fun (W : World) (h : Below w6.heap.size w6 W) => s2.out W (hbx.trans (h.mono hbx.size)))
  have s3 := hid (fun (W : World) (h : Below w6.heap.size w6 W) => s3.out W (hbx.trans (h.mono hbx.size)))
  have s6 := hid (fun (W : World) (h : Below w6.heap.size w6 W) => (Slc.of_own ho6).mono h (Nat.le_refl _))
  obtain ⟨a6, c6, rfl, _⟩ := own_slice ho6
  clear hbx ho6
  have hcl := hid (lawssameTexts_self P _ _ w6 (s3.out w6 (Below.refl _ _)) (s6.out w6 (Below.refl _ _)))
  go_wp2_with fail
  refine hcl.out.mono ?_; rintro e w7 ⟨rfl, hbx⟩
  have bL := hid (fun (W : World) (h : Below w7.heap.size w7 W) => bL.out W (hbx.trans (h.mono hbx.size)))
  have s2 := hid (fun (W : World) (h : Below w7.heap.size w7 W) => s2.out W (hbx.trans (h.mono hbx.size)))
  have s3 := hid (fun (W : World) (h : Below w7.heap.size w7 W) => s3.out W (hbx.trans (h.mono hbx.size)))
  have s6 := hid (fun (W : World) (h : Below w7.heap.size w7 W) => s6.out W (hbx.trans (h.mono hbx.size)))
  clear hbx hcl
  go_wp2
  go_loopw [7] (fun i wr => ∃ (k : Nat), i = .int .i64 k ∧ k ≤ U.length ∧ Hid (Below w7.heap.size w7 wr)) (fun i _ => U.length - (intOf i).toNat)
  case atStart => exact ⟨0, rfl, by omega, hid (Below.refl _ _)⟩
  obtain ⟨k, rfl, hk, hbr⟩ := hrel
  rename World => wr7
  have bL := hid (fun (W : World) (h : Below wr7.heap.size wr7 W) => bL.out W (hbr.out.trans (h.mono hbr.out.size)))
  have s2 := hid (fun (W : World) (h : Below wr7.heap.size wr7 W) => s2.out W (hbr.out.trans (h.mono hbr.out.size)))
  have s3 := hid (fun (W : World) (h : Below wr7.heap.size wr7 W) => s3.out W (hbr.out.trans (h.mono hbr.out.size)))
  by_cases hlt : k < U.length
  · obtain ⟨x, hx⟩ := get_of_lt hlt
    have hh := hU.out x (List.mem_of_getElem? hx)
    have hcl := lawshasText_any P _ x wr7 (s3.out wr7 (Below.refl _ _))
    rw [hh] at hcl
    replace hcl := hid hcl
    obtain ⟨_, ua', uc', hv', _, _, hrow⟩ := s2.out wr7 (Below.refl _ _)
    simp only [Value.slice.injEq, true_and] at hv'
    obtain ⟨rfl, rfl⟩ := hv'
    obtain ⟨b, off, rfl, hro⟩ := slc_some hrow (by omega)
    have c0 := hro.one str1_len hx rfl
    clear hro hrow hx hh
    go_wp2_with fail
    refine hcl.out.mono ?_; rintro e w9 ⟨rfl, hbx⟩
    have hbn := hid (hbr.out.trans (hbx.mono hbr.out.size))
    clear hbx hcl c0
    go_wp2
    all_goals go_roundw
    all_goals first
      | (simp [intOf]; omega)
      | exact ⟨k + 1, by go_num, by omega, hbn⟩
  · obtain rfl : k = U.length := by omega
    clear hbr
    go_wp2_with fail
    refine (cr.out wr7 (bL.out wr7 (Below.refl _ _))).mono ?_; rintro e w8 ⟨v8, rfl, hbx, ho8⟩
    have bL := hid (fun (W : World) (h : Below w8.heap.size w8 W) => bL.out W (hbx.trans (h.mono hbx.size)))
    have s3 := hid (fun (W : World) (h : Below w8.heap.size w8 W) => s3.out W (hbx.trans (h.mono hbx.size)))
    have s8 := hid (fun (W : World) (h : Below w8.heap.size w8 W) => (Slc.of_own ho8).mono h (Nat.le_refl _))
    obtain ⟨a8, c8, rfl, _⟩ := own_slice ho8
    clear hbx ho8
    go_wp2
    go_loopw [9, 10, 11] (fun i nv jv wr => ∃ (k : Nat), i = .int .i64 k ∧ k ≤ R.length ∧ Hid (Below w8.heap.size w8 wr)) (fun i _ _ _ => R.length - (intOf i).toNat)
    case atStart => exact ⟨0, rfl, by omega, hid (Below.refl _ _)⟩
    obtain ⟨k, rfl, hk, hbr⟩ := hrel
    rename World => wr9
    have bL := hid (fun (W : World) (h : Below wr9.heap.size wr9 W) => bL.out W (hbr.out.trans (h.mono hbr.out.size)))
    have s3 := hid (fun (W : World) (h : Below wr9.heap.size wr9 W) => s3.out W (hbr.out.trans (h.mono hbr.out.size)))
    have s8 := hid (fun (W : World) (h : Below wr9.heap.size wr9 W) => s8.out W (hbr.out.trans (h.mono hbr.out.size)))
    by_cases hlt : k < R.length
    · obtain ⟨x, hx⟩ := get_of_lt hlt
      have hh := hid (hR.out x (List.mem_of_getElem? hx))
      go_wp2
      go_loopw [10, 11] (fun nv i wr => ∃ (j q : Nat), i = .int .i64 j ∧ j ≤ P.length ∧ nv = .int .i64 q ∧ q ≤ j ∧ Hid (q = timesT x (P.take j)) ∧ Hid (Below wr9.heap.size wr9 wr)) (fun _ i _ => P.length - (intOf i).toNat)
      case atStart => exact ⟨0, 0, rfl, by omega, rfl, by omega, hid rfl, hid (Below.refl _ _)⟩
      obtain ⟨j, q, rfl, hj, rfl, hq, hcnt, hbi⟩ := hrel
      rename World => wi9
      have bL := hid (fun (W : World) (h : Below wi9.heap.size wi9 W) => bL.out W (hbi.out.trans (h.mono hbi.out.size)))
      have s3 := hid (fun (W : World) (h : Below wi9.heap.size wi9 W) => s3.out W (hbi.out.trans (h.mono hbi.out.size)))
      have s8 := hid (fun (W : World) (h : Below wi9.heap.size wi9 W) => s8.out W (hbi.out.trans (h.mono hbi.out.size)))
      by_cases hlj : j < P.length
      · obtain ⟨y, hy⟩ := get_of_lt hlj
        have hts := hid (timesT_take (s := x) hy)
        obtain ⟨_, ua', uc', hv', _, _, hrow⟩ := s8.out wi9 (Below.refl _ _)
        simp only [Value.slice.injEq, true_and] at hv'
        obtain ⟨rfl, rfl⟩ := hv'
        obtain ⟨b, off, rfl, hro⟩ := slc_some hrow (by omega)
        have c0 := hro.one str1_len hx rfl
        obtain ⟨_, ua', uc', hv', _, _, hrow'⟩ := s3.out wi9 (Below.refl _ _)
        simp only [Value.slice.injEq, true_and] at hv'
        obtain ⟨rfl, rfl⟩ := hv'
        obtain ⟨b', off', rfl, hro'⟩ := slc_some hrow' (by omega)
        have d0 := hro'.one str1_len hy rfl
        clear hro hrow hro' hrow' hx hy
        have hki : (k : Int) < (R.length : Int) := by omega
        have hji : (j : Int) < (P.length : Int) := by omega
        cases he : (y.toList == x.toList) with
        | true =>
          have hn2 := hid (show q + 1 = timesT x (P.take (j + 1)) by rw [hts.out, ← hcnt.out, if_pos he])
          clear hts hcnt
          go_wp2_with fail
          go_quiet (fail)
          go_wp2
          all_goals go_roundw
          all_goals first
            | (simp [intOf]; omega)
            | exact ⟨j + 1, q + 1, by go_num, by omega, by go_num, by omega, hn2, hid (below_drewN hbi.out _)⟩
        | false =>
          have hn2 := hid (show q = timesT x (P.take (j + 1)) by rw [hts.out, ← hcnt.out, if_neg (by rw [he]; simp)]; rfl)
          clear hts hcnt
          go_wp2_with fail
          go_quiet (fail)
          go_wp2
          all_goals go_roundw
          all_goals first
            | (simp [intOf]; omega)
            | exact ⟨j + 1, q, by go_num, by omega, rfl, by omega, hn2, hid (below_drewN hbi.out _)⟩
      · obtain rfl : j = P.length := by omega
        have hq2 : 2 ≤ q := by rw [hcnt.out, List.take_length]; exact hh.out
        have hd2 : decide ((q : Int) < 2) = false := by rw [decide_eq_false_iff_not]; omega
        have hbn := hid (hbr.out.trans (hbi.out.mono hbr.out.size))
        clear hcnt hh hx
        go_wp2
        all_goals go_roundw
        all_goals first
          | (simp [intOf]; omega)
          | exact ⟨k + 1, by go_num, by omega, hbn⟩
    · obtain rfl : k = R.length := by omega
      clear hbr
      go_wp2_with fail
      refine (cd.out wr9 (bL.out wr9 (Below.refl _ _))).mono ?_; rintro e w9 ⟨v9, rfl, hbx, ho9⟩
      have bL := hid (fun (W : World) (h : Below w9.heap.size w9 W) => bL.out W (hbx.trans (h.mono hbx.size)))
      have s9 := hid (fun (W : World) (h : Below w9.heap.size w9 W) => (Slc.of_own ho9).mono h (Nat.le_refl _))
      obtain ⟨a9, c9, rfl, _⟩ := own_slice ho9
      clear hbx ho9
      go_wp2
      go_loopw [13] (fun i wr => ∃ (k : Nat), i = .int .i64 k ∧ k ≤ D.length ∧ Hid (Below w9.heap.size w9 wr)) (fun i _ => D.length - (intOf i).toNat)
      case atStart => exact ⟨0, rfl, by omega, hid (Below.refl _ _)⟩
      obtain ⟨k, rfl, hk, hbr⟩ := hrel
      rename World => wr13
      have bL := hid (fun (W : World) (h : Below wr13.heap.size wr13 W) => bL.out W (hbr.out.trans (h.mono hbr.out.size)))
      have s9 := hid (fun (W : World) (h : Below wr13.heap.size wr13 W) => s9.out W (hbr.out.trans (h.mono hbr.out.size)))
      by_cases hlt : k < D.length
      · obtain ⟨x, hx⟩ := get_of_lt hlt
        have hh := hid (hDm.out x (List.mem_of_getElem? hx))
        obtain ⟨_, ua', uc', hv', _, _, hrow⟩ := s9.out wr13 (Below.refl _ _)
        simp only [Value.slice.injEq, true_and] at hv'
        obtain ⟨rfl, rfl⟩ := hv'
        obtain ⟨b, off, rfl, hro⟩ := slc_some hrow (by omega)
        have c0 := hro.one str1_len hx rfl
        have hbl := World.block_lt_of_cell? wr13 _ c0
        have hbl : b < wr13.heap.size := hbl
        have hcl := hid (cfn.out wr13.drew (bL.out _ ((Below.refl _ _).drew)))
        clear hro hrow hx
        have hki : (k : Int) < (D.length : Int) := by omega
        go_wp2_with fail
        go_region_law (first
          | (go_simp; go_at_call 31; refine hcl.out.mono ?_; rintro e w8 ⟨v8, rfl, hb8, ho8⟩
             have q0 := (hb8.cell (p := ⟨b, off + k, none⟩) hbl).trans c0
             have hht := lawshasText_any Fn _ x w8 (Slc.of_own ho8)
             rw [hh.out] at hht
             obtain ⟨a8, c8, rfl, _⟩ := own_slice ho8
             replace hht := hid hht
             have hb8 := hid hb8
             clear ho8)
          | (go_simp; go_at_call 28; refine hht.out.mono ?_; rintro e w9 ⟨rfl, hb9⟩
             have hbn := hid (hbr.out.trans ((((Below.refl wr13.heap.size wr13).drew).trans ((hb8.out.trans (hb9.mono hb8.out.size)).mono (Nat.le_refl _))).mono hbr.out.size))
             clear hb9))
        all_goals go_wp2
        all_goals go_roundw
        all_goals first
          | (simp [intOf]; omega)
          | exact ⟨k + 1, by go_num, by omega, hbn⟩
      · obtain rfl : k = D.length := by omega
        clear hbr
        go_wp2_with fail
        refine (cg.out wr13 (bL.out wr13 (Below.refl _ _))).mono ?_; rintro e w10 ⟨v10, rfl, hbx, ho10⟩
        have bL := hid (fun (W : World) (h : Below w10.heap.size w10 W) => bL.out W (hbx.trans (h.mono hbx.size)))
        have s9 := hid (fun (W : World) (h : Below w10.heap.size w10 W) => s9.out W (hbx.trans (h.mono hbx.size)))
        have s10 := hid (fun (W : World) (h : Below w10.heap.size w10 W) => (Slc.of_own ho10).mono h (Nat.le_refl _))
        obtain ⟨a10, c10, rfl, _⟩ := own_slice ho10
        clear hbx ho10
        have hGl : G.length ≤ 9223372036854775807 := by obtain ⟨_, _, _, hv', hcc, hmm, _⟩ := s10.out w10 (Below.refl _ _); unfold maxLen at hmm; omega
        go_wp2
        go_loopw [15] (fun i wr => ∃ (k : Nat), i = .int .i64 k ∧ k ≤ G.length ∧ Hid (Below w10.heap.size w10 wr)) (fun i _ => G.length - (intOf i).toNat)
        case atStart => exact ⟨0, rfl, by omega, hid (Below.refl _ _)⟩
        obtain ⟨k, rfl, hk, hbr⟩ := hrel
        rename World => wr15
        have bL := hid (fun (W : World) (h : Below wr15.heap.size wr15 W) => bL.out W (hbr.out.trans (h.mono hbr.out.size)))
        have s9 := hid (fun (W : World) (h : Below wr15.heap.size wr15 W) => s9.out W (hbr.out.trans (h.mono hbr.out.size)))
        have s10 := hid (fun (W : World) (h : Below wr15.heap.size wr15 W) => s10.out W (hbr.out.trans (h.mono hbr.out.size)))
        by_cases hlt : k < G.length
        · obtain ⟨x, hx⟩ := get_of_lt hlt
          have hh := hid (hG.out x (List.mem_of_getElem? hx))
          obtain ⟨_, ua', uc', hv', _, _, hrow⟩ := s10.out wr15 (Below.refl _ _)
          simp only [Value.slice.injEq, true_and] at hv'
          obtain ⟨rfl, rfl⟩ := hv'
          obtain ⟨b, off, rfl, hro⟩ := slc_some hrow (by omega)
          have c0 := hro.one str1_len hx rfl
          have hbl := World.block_lt_of_cell? wr15 _ c0
          have hbl : b < wr15.heap.size := hbl
          have hcl := hid (cnm.out wr15.drew (bL.out _ ((Below.refl _ _).drew)))
          clear hro hrow hx
          have hki : (k : Int) < (G.length : Int) := by omega
          go_wp2_with fail
          go_region_law (first
            | (go_simp; go_at_call 33; refine hcl.out.mono ?_; rintro e w8 ⟨v8, rfl, hb8, ho8⟩
               have q0 := (hb8.cell (p := ⟨b, off + k, none⟩) hbl).trans c0
               have hht := lawshasText_any Nm _ x w8 (Slc.of_own ho8)
               rw [hh.out] at hht
               obtain ⟨a8, c8, rfl, _⟩ := own_slice ho8
               replace hht := hid hht
               have hb8 := hid hb8
               clear ho8)
            | (go_simp; go_at_call 28; refine hht.out.mono ?_; rintro e w9 ⟨rfl, hb9⟩
               have hbn := hid (hbr.out.trans ((((Below.refl wr15.heap.size wr15).drew).trans ((hb8.out.trans (hb9.mono hb8.out.size)).mono (Nat.le_refl _))).mono hbr.out.size))
               clear hb9))
          all_goals go_wp2
          all_goals go_roundw
          all_goals first
            | (simp [intOf]; omega)
            | exact ⟨k + 1, by go_num, by omega, hbn⟩
        · obtain rfl : k = G.length := by omega
          clear hbr
          go_wp2_with fail
          refine (cf.out wr15 (bL.out wr15 (Below.refl _ _))).mono ?_; rintro e w11 ⟨v11, rfl, hbx, ho11⟩
          have bL := hid (fun (W : World) (h : Below w11.heap.size w11 W) => bL.out W (hbx.trans (h.mono hbx.size)))
          have s9 := hid (fun (W : World) (h : Below w11.heap.size w11 W) => s9.out W (hbx.trans (h.mono hbx.size)))
          have s10 := hid (fun (W : World) (h : Below w11.heap.size w11 W) => s10.out W (hbx.trans (h.mono hbx.size)))
          have s11 := hid (fun (W : World) (h : Below w11.heap.size w11 W) => (Slc.of_own ho11).mono h (Nat.le_refl _))
          obtain ⟨a11, c11, rfl, _⟩ := own_slice ho11
          clear hbx ho11
          go_wp2_with fail
          refine (csf.out w11 (bL.out w11 (Below.refl _ _))).mono ?_; rintro e w12 ⟨v12, rfl, hbx, ho12⟩
          have bL := hid (fun (W : World) (h : Below w12.heap.size w12 W) => bL.out W (hbx.trans (h.mono hbx.size)))
          have s9 := hid (fun (W : World) (h : Below w12.heap.size w12 W) => s9.out W (hbx.trans (h.mono hbx.size)))
          have s10 := hid (fun (W : World) (h : Below w12.heap.size w12 W) => s10.out W (hbx.trans (h.mono hbx.size)))
          have s11 := hid (fun (W : World) (h : Below w12.heap.size w12 W) => s11.out W (hbx.trans (h.mono hbx.size)))
          have s12 := hid (fun (W : World) (h : Below w12.heap.size w12 W) => (Slc.of_own ho12).mono h (Nat.le_refl _))
          obtain ⟨a12, c12, rfl, _⟩ := own_slice ho12
          clear hbx ho12
          have hcl := hid (lawssameInts_self Fo _ _ w12 (s11.out w12 (Below.refl _ _)) (s12.out w12 (Below.refl _ _)))
          go_wp2_with fail
          refine hcl.out.mono ?_; rintro e w13 ⟨rfl, hbx⟩
          have bL := hid (fun (W : World) (h : Below w13.heap.size w13 W) => bL.out W (hbx.trans (h.mono hbx.size)))
          have s9 := hid (fun (W : World) (h : Below w13.heap.size w13 W) => s9.out W (hbx.trans (h.mono hbx.size)))
          have s10 := hid (fun (W : World) (h : Below w13.heap.size w13 W) => s10.out W (hbx.trans (h.mono hbx.size)))
          have s11 := hid (fun (W : World) (h : Below w13.heap.size w13 W) => s11.out W (hbx.trans (h.mono hbx.size)))
          have s12 := hid (fun (W : World) (h : Below w13.heap.size w13 W) => s12.out W (hbx.trans (h.mono hbx.size)))
          clear hbx hcl
          go_wp2_with fail
          refine (csg.out w13 (bL.out w13 (Below.refl _ _))).mono ?_; rintro e w14 ⟨v14, rfl, hbx, ho14⟩
          have bL := hid (fun (W : World) (h : Below w14.heap.size w14 W) => bL.out W (hbx.trans (h.mono hbx.size)))
          have s9 := hid (fun (W : World) (h : Below w14.heap.size w14 W) => s9.out W (hbx.trans (h.mono hbx.size)))
          have s10 := hid (fun (W : World) (h : Below w14.heap.size w14 W) => s10.out W (hbx.trans (h.mono hbx.size)))
          have s14 := hid (fun (W : World) (h : Below w14.heap.size w14 W) => (Slc.of_own ho14).mono h (Nat.le_refl _))
          obtain ⟨a14, c14, rfl, _⟩ := own_slice ho14
          clear hbx ho14
          have hcl := hid (lawssameTexts_self G _ _ w14 (s10.out w14 (Below.refl _ _)) (s14.out w14 (Below.refl _ _)))
          go_wp2_with fail
          refine hcl.out.mono ?_; rintro e w15 ⟨rfl, hbx⟩
          have bL := hid (fun (W : World) (h : Below w15.heap.size w15 W) => bL.out W (hbx.trans (h.mono hbx.size)))
          have s9 := hid (fun (W : World) (h : Below w15.heap.size w15 W) => s9.out W (hbx.trans (h.mono hbx.size)))
          have s10 := hid (fun (W : World) (h : Below w15.heap.size w15 W) => s10.out W (hbx.trans (h.mono hbx.size)))
          have s14 := hid (fun (W : World) (h : Below w15.heap.size w15 W) => s14.out W (hbx.trans (h.mono hbx.size)))
          clear hbx hcl
          go_wp2_with fail
          refine (csd.out w15 (bL.out w15 (Below.refl _ _))).mono ?_; rintro e w16 ⟨v16, rfl, hbx, ho16⟩
          have bL := hid (fun (W : World) (h : Below w16.heap.size w16 W) => bL.out W (hbx.trans (h.mono hbx.size)))
          have s9 := hid (fun (W : World) (h : Below w16.heap.size w16 W) => s9.out W (hbx.trans (h.mono hbx.size)))
          have s10 := hid (fun (W : World) (h : Below w16.heap.size w16 W) => s10.out W (hbx.trans (h.mono hbx.size)))
          have s16 := hid (fun (W : World) (h : Below w16.heap.size w16 W) => (Slc.of_own ho16).mono h (Nat.le_refl _))
          obtain ⟨a16, c16, rfl, _⟩ := own_slice ho16
          clear hbx ho16
          have hcl := hid (lawssameTexts_self D _ _ w16 (s9.out w16 (Below.refl _ _)) (s16.out w16 (Below.refl _ _)))
          go_wp2_with fail
          refine hcl.out.mono ?_; rintro e w17 ⟨rfl, hbx⟩
          have bL := hid (fun (W : World) (h : Below w17.heap.size w17 W) => bL.out W (hbx.trans (h.mono hbx.size)))
          have s9 := hid (fun (W : World) (h : Below w17.heap.size w17 W) => s9.out W (hbx.trans (h.mono hbx.size)))
          have s10 := hid (fun (W : World) (h : Below w17.heap.size w17 W) => s10.out W (hbx.trans (h.mono hbx.size)))
          have s16 := hid (fun (W : World) (h : Below w17.heap.size w17 W) => s16.out W (hbx.trans (h.mono hbx.size)))
          clear hbx hcl
          go_wp2
          go_ret
          exact ⟨rfl, hB.out _ (bL.out _ (Below.refl _ _))⟩
end Go.Proofs.YtgmciglaapnahaaGreatDoor
