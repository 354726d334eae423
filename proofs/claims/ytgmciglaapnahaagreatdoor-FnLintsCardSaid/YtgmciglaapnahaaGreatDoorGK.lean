/- Walks and lemmas of this seat (FParams): what each theorem says of the functions that it names. Conditions: those that each theorem states. -/
import Derived.Test.YtgmciglaapnahaaGreatDoorGI
import Derived.Test.YtgmciglaapnahaaGreatDoorGA
namespace Go.Proofs.YtgmciglaapnahaaGreatDoor
set_option linter.unusedVariables false
set_option linter.unusedSimpArgs false
open Go.RowKit Go.Lib

/-! The parameters of a function. -/
def textAt (l : List Node) (k : Int) : ByteArray := match l[k.toNat]? with | some x => x.text | none => ⟨#[]⟩
def isFuncB (l : List Node) (i : Int) : Bool := treeOk l && (inB i 0 ((l.length : Int) - 1) && kindAt l i == 44)
def paramKids (l : List Node) (i : Nat) : List Int := match l[i]? with | some x => x.kids.take (x.kids.length - 1) | none => []
def paramsAt (l : List Node) (i : Nat) : List ByteArray := (paramKids l i).map (textAt l)
def paramsOf (l : List Node) (i : Int) : List ByteArray := if isFuncB l i = true then paramsAt l i.toNat else []
theorem own_dN {w : World} {B : Nat} {e : TypeId} {s n : Nat} {v : Value} {xs : List Value} (h : w.ownsRow B e s v n xs) (k : Nat) : (w.drewN k).ownsRow B e s v n xs := h
theorem textAt_of {l : List Node} {k : Nat} {x : Node} (h : l[k]? = some x) : textAt l (k : Int) = x.text := by unfold textAt; rw [Int.toNat_natCast, h]
theorem isFunc_yes {l : List Node} {i : Int} (h : isFuncB l i = true) : treeOk l = true ∧ ∃ (n : Nat) (x : Node), i = n ∧ n < l.length ∧ l[n]? = some x ∧ x.kind = 44 ∧ 1 ≤ x.kids.length := by
  unfold isFuncB at h
  simp only [Bool.and_eq_true] at h
  obtain ⟨h1, h2, h3⟩ := h
  unfold inB at h2
  simp only [Bool.and_eq_true, decide_eq_true_eq] at h2
  obtain ⟨n, rfl⟩ : ∃ n : Nat, i = n := ⟨i.toNat, by omega⟩
  have hn : n < l.length := by omega
  obtain ⟨x, hx⟩ := get_of_lt hn
  rw [kindAt_of hx] at h3
  have h44 : x.kind = 44 := by simpa using h3
  refine ⟨h1, n, x, rfl, hn, hx, h44, ?_⟩
  have h5 := (treeOk_node h1 (List.mem_of_getElem? hx)).1
  unfold nodeFields fieldsOk at h5
  simp only [Bool.and_eq_true] at h5
  have h6 := h5.2
  unfold inB at h6
  simp only [Bool.and_eq_true, decide_eq_true_eq] at h6
  have h7 := h6.1
  rw [h44] at h7
  simp [least] at h7
  omega
theorem paramKids_len (l : List Node) (i : Nat) {x : Node} (hx : l[i]? = some x) : (paramKids l i).length = x.kids.length - 1 := by unfold paramKids; rw [hx]; simp
theorem paramsOf_len (l : List Node) (hl : l.length ≤ 1048576) (i : Int) : (paramsOf l i).length ≤ 1048576 := by
  unfold paramsOf
  split
  · rename_i h
    obtain ⟨h1, n, x, rfl, hn, hx, _, _⟩ := isFunc_yes h
    have h2 := shapeOk_klen (treeOk_shape h1) hx
    unfold paramsAt
    rw [List.length_map, Int.toNat_natCast, paramKids_len l n hx]
    omega
  · simp
/-- What a round of either loop needs of the kid at its number. -/
theorem param_kid {l : List Node} (hok : treeOk l = true) {n : Nat} {x : Node} (hx : l[n]? = some x) {q : Nat} (hq : q < x.kids.length - 1) : ∃ m y, x.kids[q]? = some ((m : Nat) : Int) ∧ m < l.length ∧ l[m]? = some y ∧ (paramKids l n).drop q = (m : Int) :: (paramKids l n).drop (q + 1) := by
  obtain ⟨kid, hkid⟩ := get_of_lt (show q < x.kids.length by omega)
  have h3 := shapeOk_ahead (treeOk_shape hok) n x hx kid (List.mem_of_getElem? hkid)
  have hl := (List.getElem?_eq_some_iff.1 hx).1
  obtain ⟨y, hy⟩ := get_of_lt (show kid.toNat < l.length by omega)
  have e : ((kid.toNat : Nat) : Int) = kid := by omega
  refine ⟨kid.toNat, y, by rw [hkid, e], by omega, hy, ?_⟩
  rw [e]
  apply drop_cons
  unfold paramKids
  rw [hx]
  simp only
  rw [List.getElem?_take, if_pos hq, hkid]
end Go.Proofs.YtgmciglaapnahaaGreatDoor
/- Walks and lemmas of this seat (FParamsS): what each theorem says of the functions that it names. Conditions: those that each theorem states. -/
namespace Go.Proofs.YtgmciglaapnahaaGreatDoor
set_option linter.unusedVariables false
set_option linter.unusedSimpArgs false
open Go.RowKit Go.Lib

set_option maxRecDepth 100000 in
set_option maxHeartbeats 1600000 in
theorem specl24Is_any (l0 : List Node) (v0 : Value) (a1 : Int) (w : World) (hx0 : ∀ x ∈ l0, x.Ok) (hn0 : bulk Node.sizes l0 ≤ 1048576) (hv0 : NodeSlc w v0 l0) :
    Calls Tryz.prog 107 #[v0, .int .i64 a1] w fun e w' => e = .returned (.bool (isFuncB l0 a1)) ∧ Below w.heap.size w w' := by
  have hv := hv0
  obtain ⟨a, cap, rfl, hm, hc, hsl⟩ := hv0.shape
  have hn := length_bulk Node.sizes l0
  have hcall := specTreeOk_any l0 _ w hx0 hn0 hv
  have hin := fun w => specl1In_any a1 0 ((l0.length : Int) - 1) w
  have hR : Hid (isFuncB l0 a1 = (treeOk l0 && (inB a1 0 ((l0.length : Int) - 1) && kindAt l0 a1 == 44))) := hid rfl
  generalize isFuncB l0 a1 = ans at hR ⊢
  by_cases hi : inB a1 0 ((l0.length : Int) - 1) = true
  · obtain ⟨n, rfl⟩ : ∃ n : Nat, a1 = n := ⟨a1.toNat, by unfold inB at hi; simp at hi; omega⟩
    have hnl : n < l0.length := by unfold inB at hi; simp at hi; omega
    obtain ⟨x, ka, kc, b, off, hx, rfl, C0, C1, C2, C3, C4, hkd⟩ := hsl.at (Below.refl _ _) (Nat.le_refl _) hnl
    rw [hi, kindAt_of hx, Bool.true_and] at hR
    rw [hi] at hin
    clear hi hx hkd
    cases hok : treeOk l0 <;> rw [hok] at hR hcall <;> clear hok
    · go_enter Tryz.func107, Tryz.ntmps107
      go_wp2_with (first | (go_at_call 120; refine (hin _).mono ?_; rintro e w' ⟨rfl, rfl⟩) | (go_at_call 40; refine hcall.mono ?_; rintro e w1 ⟨rfl, hb1⟩))
      go_ret
      exact ⟨ret_bool (hR.out.trans rfl).symm, hb1⟩
    · go_enter Tryz.func107, Tryz.ntmps107
      go_wp2_with (first | (go_at_call 120; refine (hin _).mono ?_; rintro e w' ⟨rfl, rfl⟩) | (go_at_call 40; refine hcall.mono ?_; rintro e w1 ⟨rfl, hb1⟩; have c0 := keepc hb1 C0))
      go_ret
      exact ⟨ret_bool (by rw [hR.out, Bool.true_and]), hb1⟩
  · have hi : inB a1 0 ((l0.length : Int) - 1) = false := by simpa using hi
    rw [hi, Bool.false_and, Bool.and_false] at hR
    rw [hi] at hin
    clear hi
    generalize treeOk l0 = tk at hcall
    cases tk
    all_goals go_enter Tryz.func107, Tryz.ntmps107
    all_goals go_wp2_with (first | (go_at_call 120; refine (hin _).mono ?_; rintro e w' ⟨rfl, rfl⟩) | (go_at_call 40; refine hcall.mono ?_; rintro e w1 ⟨rfl, hb1⟩))
    all_goals go_ret
    all_goals exact ⟨ret_bool hR.out.symm, hb1⟩
set_option maxRecDepth 100000 in
set_option maxHeartbeats 3200000 in
theorem specl24Params_any (l0 : List Node) (v0 : Value) (a1 : Int) (w : World) (hx0 : ∀ x ∈ l0, x.Ok) (hn0 : bulk Node.sizes l0 ≤ 1048576) (hv0 : NodeSlc w v0 l0) (hf : isFuncB l0 a1 = true) :
    Calls Tryz.prog 108 #[v0, .int .i64 a1] w fun e w' => ∃ v', e = .returned v' ∧ Below w.heap.size w w' ∧ w'.ownsRow w.heap.size 9 1 v' (paramsAt l0 a1.toNat).length ((paramsAt l0 a1.toNat).flatMap str1) := by
  have hv := hv0
  obtain ⟨a, cap, rfl, hm, hc, hsl⟩ := hv0.shape
  have hn := length_bulk Node.sizes l0
  obtain ⟨i0, hi, hz0, hz1, hz2⟩ := info_parts Tryz.info9
  obtain ⟨hok, n, x', rfl, hnl, hx', _, hk1⟩ := isFunc_yes hf
  obtain ⟨x, ka, kc, b, off, hx, rfl, C0, C1, C2, C3, C4, hkd⟩ := hsl.at (Below.refl _ _) (Nat.le_refl _) hnl
  obtain rfl : x' = x := by rw [hx'] at hx; exact Option.some.inj hx
  have hkl := shapeOk_klen (treeOk_shape hok) hx'
  have hpk := hid (fun q (hq : q < x'.kids.length - 1) => param_kid hok hx' hq)
  have hpl := hid (paramKids_len l0 n hx')
  obtain ⟨_, _, _, hkv, hkc, hkm, hkrow⟩ := hkd
  simp at hkv
  obtain ⟨rfl, rfl⟩ := hkv
  obtain ⟨kb, koff, rfl, hkro⟩ := slc_some hkrow (by omega)
  unfold maxLen at hkm
  rw [Int.toNat_natCast]
  have hP : Hid (paramsAt l0 n = (paramKids l0 n).map (textAt l0)) := hid rfl
  generalize paramsAt l0 n = ps at hP ⊢
  obtain ⟨L, hL⟩ : ∃ L : Nat, x'.kids.length = L + 1 := ⟨x'.kids.length - 1, by omega⟩
  have hLi : (x'.kids.length : Int) - 1 = (L : Int) := by omega
  clear hf hx hx' hok hkrow
  go_enter Tryz.func108, Tryz.ntmps108
  go_wp2
  go_loopw [5, 6] (fun v i wr => ∃ (q : Nat) (acc : List ByteArray), i = .int .i64 q ∧ q ≤ L ∧ acc.length ≤ q ∧ Below w.heap.size w wr ∧ wr.ownsRow w.heap.size 9 1 v acc.length (acc.flatMap str1) ∧ Hid (ps = acc ++ ((paramKids l0 n).drop q).map (textAt l0))) (fun _ i _ => L - (intOf i).toNat)
  case atStart => exact ⟨0, [], rfl, by omega, by simp, by repeat (first | exact Below.refl _ _ | refine Below.alloc ?_ (by first | omega | (simp; done) | (simp; omega)) _ | refine Below.drew ?_), own_new0 _ _ _, hid (by rw [hP.out]; rfl)⟩
  obtain ⟨q, acc, rfl, hq, hacc, hb, hown, hrel⟩ := hrel
  have hbs := hb.size
  have c4 := keepc hb C4
  by_cases hlt : q < L
  · obtain ⟨m, y, hkid, hml, hy, hdr⟩ := hpk.out q (by omega)
    have D0 := hkro.one int1_len hkid rfl
    have d0 := keepc hb D0
    obtain ⟨y', ka2, kc2, b2, off2, hy', hab, -, -, E2, -, -, -⟩ := hsl.at (Below.refl _ _) (Nat.le_refl _) hml
    obtain rfl : y = y' := by rw [hy] at hy'; exact Option.some.inj hy'
    obtain ⟨rfl, rfl⟩ : b = b2 ∧ off = off2 := by simpa using hab
    have e2 := keepc hb E2
    have hql : q < x'.kids.length := by omega
    have hR2 : Hid (ps = (acc ++ [y.text]) ++ ((paramKids l0 n).drop (q + 1)).map (textAt l0)) := hid (by rw [hrel.out, hdr, List.map_cons, textAt_of hy]; simp)
    clear hrel hdr hkid hab hy hy'
    go_wp2_with (at_builtin; refine wpList_append_own _ rfl _ _ 26 rfl w.heap.size 9 i0 _ 1 16 Tryz.underlying26 hi hz0 hz1 hz2 rfl (by decide) _ acc.length (acc.flatMap str1) rfl (hown.alloc _) _ _ _ (str1 y.text) rfl rfl (new_cells_at _ _ _ _ _ rfl (by first | rfl | simp)) (by intro u hu; simp [str1] at hu; rcases hu with rfl | rfl | rfl | rfl | rfl <;> rfl) (by unfold maxLen; omega) (by omega) (by first | omega | (simp; done) | (simp; omega)) ?_; intro v2 w2 hown2 hgr2 hiff; clear hiff; have hb2 := app_below (hb.alloc (by first | omega | (simp; done) | (simp; omega)) _) (hown.alloc _) hgr2)
    all_goals go_roundw
    all_goals first
      | (simp [intOf]; omega)
      | exact ⟨q + 1, acc ++ [y.text], by go_num, by omega, by simp; omega, hb2, by simpa using hown2, hR2⟩
  · have hR2 : Hid (ps = acc) := hid (by rw [hrel.out, List.drop_of_length_le (by rw [hpl.out]; omega)]; simp)
    clear hrel
    go_wp2
    go_ret
    exact ⟨_, rfl, hb, by rw [hR2.out]; exact hown⟩
set_option maxRecDepth 100000 in
theorem specParamsOf_any (l0 : List Node) (v0 : Value) (a1 : Int) (w : World) (hx0 : ∀ x ∈ l0, x.Ok) (hn0 : bulk Node.sizes l0 ≤ 1048576) (hv0 : NodeSlc w v0 l0) (ha1 : I64 a1) :
    Calls Tryz.prog 27 #[v0, .int .i64 a1] w fun e w' => ∃ v', e = .returned v' ∧ Below w.heap.size w w' ∧ w'.ownsRow w.heap.size 9 1 v' (paramsOf l0 a1).length ((paramsOf l0 a1).flatMap str1) := by
  have hv := hv0
  have hcall := specl24Is_any l0 v0 a1 w hx0 hn0 hv
  obtain ⟨a, cap, rfl, hm, hc, hsl⟩ := hv0.shape
  by_cases hf : isFuncB l0 a1 = true
  · have hpar := hid (fun W (hb : Below w.heap.size w W) => specl24Params_any l0 _ a1 W hx0 hn0 (hv.mono hb (Nat.le_refl _)) hf)
    have hR : Hid (paramsOf l0 a1 = paramsAt l0 a1.toNat) := hid (by unfold paramsOf; rw [if_pos hf])
    rw [hf] at hcall
    clear hf
    go_enter Tryz.func27, Tryz.ntmps27
    go_wp2_with fail
    refine hcall.mono ?_; rintro e w1 ⟨rfl, hb1⟩
    go_wp2_with fail
    refine (hpar.out _ hb1).mono ?_; rintro e w2 ⟨v', rfl, hb2, hown⟩
    go_wp2
    go_ret
    exact ⟨v', rfl, hb1.trans (hb2.mono hb1.size), by rw [hR.out]; exact own_base hown hb1.size⟩
  · have hR : Hid (paramsOf l0 a1 = []) := hid (by unfold paramsOf; rw [if_neg hf])
    have hf : isFuncB l0 a1 = false := by simpa using hf
    rw [hf] at hcall
    clear hf
    go_enter Tryz.func27, Tryz.ntmps27
    go_wp2_with fail
    refine hcall.mono ?_; rintro e w1 ⟨rfl, hb1⟩
    go_wp2
    go_ret
    exact ⟨_, rfl, hb1.alloc hb1.size _, by rw [hR.out]; exact own_base (own_new0 _ _ _) hb1.size⟩
end Go.Proofs.YtgmciglaapnahaaGreatDoor
/- Walks and lemmas of this seat (FParamsI): what each theorem says of the functions that it names. Conditions: those that each theorem states. -/
namespace Go.Proofs.YtgmciglaapnahaaGreatDoor
set_option linter.unusedVariables false
set_option linter.unusedSimpArgs false
open Go.RowKit Go.Lib

set_option maxRecDepth 100000 in
set_option maxHeartbeats 1600000 in
theorem implisFunc_any (l0 : List Node) (v0 : Value) (a1 : Int) (w : World) (hx0 : ∀ x ∈ l0, x.Ok) (hn0 : bulk Node.sizes l0 ≤ 1048576) (hv0 : NodeSlc w v0 l0) (hE : WordEnv w) :
    Calls Tryz.prog 99 #[v0, .int .i64 a1] w fun e w' => e = .returned (.bool (isFuncB l0 a1)) ∧ Below w.heap.size w w' := by
  have hv := hv0
  obtain ⟨a, cap, rfl, hm, hc, hsl⟩ := hv0.shape
  have hn := length_bulk Node.sizes l0
  have hcall := implTreeOk_any l0 _ w hx0 hn0 hv hE
  have hin := fun w => implwithin_any a1 0 ((l0.length : Int) - 1) w
  have hR : Hid (isFuncB l0 a1 = (treeOk l0 && (inB a1 0 ((l0.length : Int) - 1) && kindAt l0 a1 == 44))) := hid rfl
  generalize isFuncB l0 a1 = ans at hR ⊢
  by_cases hi : inB a1 0 ((l0.length : Int) - 1) = true
  · obtain ⟨n, rfl⟩ : ∃ n : Nat, a1 = n := ⟨a1.toNat, by unfold inB at hi; simp at hi; omega⟩
    have hnl : n < l0.length := by unfold inB at hi; simp at hi; omega
    obtain ⟨x, ka, kc, b, off, hx, rfl, C0, C1, C2, C3, C4, hkd⟩ := hsl.at (Below.refl _ _) (Nat.le_refl _) hnl
    rw [hi, kindAt_of hx, Bool.true_and] at hR
    rw [hi] at hin
    clear hi hx hkd
    cases hok : treeOk l0 <;> rw [hok] at hR hcall <;> clear hok
    · go_enter Tryz.func99, Tryz.ntmps99
      go_wp2_with (first | (go_at_call 170; refine (hin _).mono ?_; rintro e w' ⟨rfl, rfl⟩) | (go_at_call 97; refine hcall.mono ?_; rintro e w1 ⟨rfl, hb1⟩))
      go_ret
      exact ⟨ret_bool (hR.out.trans rfl).symm, hb1⟩
    · go_enter Tryz.func99, Tryz.ntmps99
      go_wp2_with (first | (go_at_call 170; refine (hin _).mono ?_; rintro e w' ⟨rfl, rfl⟩) | (go_at_call 97; refine hcall.mono ?_; rintro e w1 ⟨rfl, hb1⟩; have c0 := keepc hb1 C0))
      go_ret
      exact ⟨ret_bool (by rw [hR.out, Bool.true_and]), hb1⟩
  · have hi : inB a1 0 ((l0.length : Int) - 1) = false := by simpa using hi
    rw [hi, Bool.false_and, Bool.and_false] at hR
    rw [hi] at hin
    clear hi
    go_enter Tryz.func99, Tryz.ntmps99
    go_wp2_with (go_at_call 170; refine (hin _).mono ?_; rintro e w' ⟨rfl, rfl⟩)
    go_ret
    exact ⟨ret_bool hR.out.symm, Below.refl _ _⟩
set_option maxRecDepth 100000 in
set_option maxHeartbeats 3200000 in
theorem implparamsOf_any (l0 : List Node) (v0 : Value) (a1 : Int) (w : World) (hx0 : ∀ x ∈ l0, x.Ok) (hn0 : bulk Node.sizes l0 ≤ 1048576) (hv0 : NodeSlc w v0 l0) (hf : isFuncB l0 a1 = true) :
    Calls Tryz.prog 103 #[v0, .int .i64 a1] w fun e w' => ∃ v', e = .returned v' ∧ Below w.heap.size w w' ∧ w'.ownsRow w.heap.size 9 1 v' (paramsAt l0 a1.toNat).length ((paramsAt l0 a1.toNat).flatMap str1) := by
  have hv := hv0
  obtain ⟨a, cap, rfl, hm, hc, hsl⟩ := hv0.shape
  have hn := length_bulk Node.sizes l0
  obtain ⟨i0, hi, hz0, hz1, hz2⟩ := info_parts Tryz.info9
  obtain ⟨hok, n, x', rfl, hnl, hx', _, hk1⟩ := isFunc_yes hf
  obtain ⟨x, ka, kc, b, off, hx, rfl, C0, C1, C2, C3, C4, hkd⟩ := hsl.at (Below.refl _ _) (Nat.le_refl _) hnl
  obtain rfl : x' = x := by rw [hx'] at hx; exact Option.some.inj hx
  have hkl := shapeOk_klen (treeOk_shape hok) hx'
  have hpk := hid (fun q (hq : q < x'.kids.length - 1) => param_kid hok hx' hq)
  have hpl := hid (paramKids_len l0 n hx')
  obtain ⟨_, _, _, hkv, hkc, hkm, hkrow⟩ := hkd
  simp at hkv
  obtain ⟨rfl, rfl⟩ := hkv
  obtain ⟨kb, koff, rfl, hkro⟩ := slc_some hkrow (by omega)
  unfold maxLen at hkm
  rw [Int.toNat_natCast]
  have hP : Hid (paramsAt l0 n = (paramKids l0 n).map (textAt l0)) := hid rfl
  generalize paramsAt l0 n = ps at hP ⊢
  obtain ⟨L, hL⟩ : ∃ L : Nat, x'.kids.length = L + 1 := ⟨x'.kids.length - 1, by omega⟩
  have hLi : (x'.kids.length : Int) - 1 = (L : Int) := by omega
  clear hf hx hx' hok hkrow
  go_enter Tryz.func103, Tryz.ntmps103
  have hal := fun o => ((Below.refl w.heap.size w).alloc (Nat.le_refl _) o)
  have c4 := fun o => keepc (hal o) C4
  clear hal
  go_wp2_with fail
  go_quiet (fail)
  go_wp2
  go_loopw [5, 23] (fun v i wr => ∃ (q : Nat) (acc : List ByteArray), i = .int .i64 q ∧ q ≤ L ∧ acc.length ≤ q ∧ Below w.heap.size w wr ∧ wr.ownsRow w.heap.size 9 1 v acc.length (acc.flatMap str1) ∧ Hid (ps = acc ++ ((paramKids l0 n).drop q).map (textAt l0))) (fun _ i _ => L - (intOf i).toNat)
  case atStart => exact ⟨0, [], rfl, by omega, by simp, below_drewN (by repeat (first | exact Below.refl _ _ | refine Below.alloc ?_ (by first | omega | (simp; done) | (simp; omega)) _ | refine Below.drew ?_)) _, own_dN (own_new0 _ _ _) _, hid (by rw [hP.out]; rfl)⟩
  obtain ⟨q, acc, rfl, hq, hacc, hb, hown, hrel⟩ := hrel
  have hbs := hb.size
  have c4 := keepc hb C4
  by_cases hlt : q < L
  · obtain ⟨m, y, hkid, hml, hy, hdr⟩ := hpk.out q (by omega)
    have D0 := hkro.one int1_len hkid rfl
    have d0 := keepc hb D0
    obtain ⟨y', ka2, kc2, b2, off2, hy', hab, -, -, E2, -, -, -⟩ := hsl.at (Below.refl _ _) (Nat.le_refl _) hml
    obtain rfl : y = y' := by rw [hy] at hy'; exact Option.some.inj hy'
    obtain ⟨rfl, rfl⟩ : b = b2 ∧ off = off2 := by simpa using hab
    have e2 := keepc hb E2
    have hql : q < x'.kids.length := by omega
    have hR2 : Hid (ps = (acc ++ [y.text]) ++ ((paramKids l0 n).drop (q + 1)).map (textAt l0)) := hid (by rw [hrel.out, hdr, List.map_cons, textAt_of hy]; simp)
    clear hrel hdr hkid hab hy hy'
    go_wp2_with (at_builtin; refine wpList_append_own _ rfl _ _ 26 rfl w.heap.size 9 i0 _ 1 16 Tryz.underlying26 hi hz0 hz1 hz2 rfl (by decide) _ acc.length (acc.flatMap str1) rfl (hown.alloc _) _ _ _ (str1 y.text) rfl rfl (new_cells_at _ _ _ _ _ rfl (by first | rfl | simp)) (by intro u hu; simp [str1] at hu; rcases hu with rfl | rfl | rfl | rfl | rfl <;> rfl) (by unfold maxLen; omega) (by omega) (by first | omega | (simp; done) | (simp; omega)) ?_; intro v2 w2 hown2 hgr2 hiff; clear hiff; have hb2 := app_below (hb.alloc (by first | omega | (simp; done) | (simp; omega)) _) (hown.alloc _) hgr2)
    all_goals go_roundw
    all_goals first
      | (simp [intOf]; omega)
      | exact ⟨q + 1, acc ++ [y.text], by go_num, by omega, by simp; omega, hb2, by simpa using hown2, hR2⟩
  · have hR2 : Hid (ps = acc) := hid (by rw [hrel.out, List.drop_of_length_le (by rw [hpl.out]; omega)]; simp)
    clear hrel
    go_wp2
    go_ret
    exact ⟨_, rfl, hb, by rw [hR2.out]; exact hown⟩
set_option maxRecDepth 100000 in
theorem implParamsOf_any (l0 : List Node) (v0 : Value) (a1 : Int) (w : World) (hx0 : ∀ x ∈ l0, x.Ok) (hn0 : bulk Node.sizes l0 ≤ 1048576) (hv0 : NodeSlc w v0 l0) (ha1 : I64 a1) (hE : WordEnv w) :
    Calls Tryz.prog 25 #[v0, .int .i64 a1] w fun e w' => ∃ v', e = .returned v' ∧ Below w.heap.size w w' ∧ w'.ownsRow w.heap.size 9 1 v' (paramsOf l0 a1).length ((paramsOf l0 a1).flatMap str1) := by
  have hv := hv0
  have hcall := implisFunc_any l0 v0 a1 w hx0 hn0 hv hE
  obtain ⟨a, cap, rfl, hm, hc, hsl⟩ := hv0.shape
  by_cases hf : isFuncB l0 a1 = true
  · have hpar := hid (fun W (hb : Below w.heap.size w W) => implparamsOf_any l0 _ a1 W hx0 hn0 (hv.mono hb (Nat.le_refl _)) hf)
    have hR : Hid (paramsOf l0 a1 = paramsAt l0 a1.toNat) := hid (by unfold paramsOf; rw [if_pos hf])
    rw [hf] at hcall
    clear hf
    go_enter Tryz.func25, Tryz.ntmps25
    go_wp2_with fail
    refine hcall.mono ?_; rintro e w1 ⟨rfl, hb1⟩
    go_wp2_with fail
    refine (hpar.out _ hb1).mono ?_; rintro e w2 ⟨v', rfl, hb2, hown⟩
    go_wp2
    go_ret
    exact ⟨v', rfl, hb1.trans (hb2.mono hb1.size), by rw [hR.out]; exact own_base hown hb1.size⟩
  · have hR : Hid (paramsOf l0 a1 = []) := hid (by unfold paramsOf; rw [if_neg hf])
    have hf : isFuncB l0 a1 = false := by simpa using hf
    rw [hf] at hcall
    clear hf
    go_enter Tryz.func25, Tryz.ntmps25
    go_wp2_with fail
    refine hcall.mono ?_; rintro e w1 ⟨rfl, hb1⟩
    go_wp2
    go_ret
    exact ⟨_, rfl, hb1, by rw [hR.out]; exact World.ownsRow_nil _ _ _ _⟩
end Go.Proofs.YtgmciglaapnahaaGreatDoor
