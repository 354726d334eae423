/- Walks and lemmas of this seat (FConst2): what each theorem says of the functions that it names. Conditions: those that each theorem states. -/
import Derived.Test.YtmemgmcopnaogaaGreatDoorGO
import Derived.Test.YtmemgmcopnaogaaGreatDoorGN
namespace Go.Proofs.YtmemgmcopnaogaaGreatDoor
set_option linter.unusedVariables false
set_option linter.unusedSimpArgs false
open Go.RowKit Go.Lib

/-! The value of a numeral, perhaps with a sign. -/
def numV (s : ByteArray) : Int := if rdOk s.data.toList && decide (0 ≤ rdVal s.data.toList) then rdVal s.data.toList else 0
def numB (s : ByteArray) : Bool := rdOk s.data.toList && decide (0 ≤ rdVal s.data.toList)
def pairEnd (v : Int) (b : Bool) : Ending := .returned (.tuple #[.int .i64 v, .bool b])
theorem numeralEnd_eq (s : ByteArray) : numeralEnd s = pairEnd (numV s) (numB s) := rfl
theorem numV_facts (s : ByteArray) : 0 ≤ numV s ∧ (numB s = false → numV s = 0) := by
  unfold numV numB
  split
  · rename_i h; simp only [Bool.and_eq_true, decide_eq_true_eq] at h; exact ⟨h.2, fun e => by simp [h.1, h.2] at e⟩
  · exact ⟨by omega, fun _ => rfl⟩
def signB (s : ByteArray) : Bool := numB s && decide (0 < numV s)
def signV (s : ByteArray) : Int := if signB s = true then wrap64 (-(numV s)) else 0
def kidText (l : List Node) : ByteArray := match l[l.length - 2]? with | some y => y.text | none => ⟨#[]⟩
def kidKind (l : List Node) : Int := match l[l.length - 2]? with | some y => y.kind | none => 0
def constV (l : List Node) : Int × Bool :=
  if exprOkB l = true then
    match l[l.length - 1]? with
    | none => (0, false)
    | some x => if x.kind = 2 then (numV x.text, numB x.text) else if x.kind = 11 ∧ x.op = 56 ∧ kidKind l = 2 then (signV (kidText l), signB (kidText l)) else (0, false)
  else (0, false)
theorem ret_two {a c : Int} {b d : Bool} (h1 : a = c) (h2 : b = d) : Ending.returned (.tuple #[.int .i64 a, .bool b]) = pairEnd c d := by rw [h1, h2]; rfl

set_option maxRecDepth 100000 in
set_option maxHeartbeats 3200000 in
theorem specConstant_any (l0 : List Node) (v0 : Value) (w : World) (hx0 : ∀ x ∈ l0, x.Ok) (hn0 : bulk Node.sizes l0 ≤ 1048576) (hv0 : NodeSlc w v0 l0) :
    Calls Tryz.prog 116 #[v0] w fun e w' => e = pairEnd (constV l0).1 (constV l0).2 ∧ Below w.heap.size w w' := by
  have hv := hv0
  have hcall := specExprOk_any l0 v0 w hx0 hn0 hv
  obtain ⟨a, cap, rfl, hm, hc, hsl⟩ := hv0.shape
  by_cases hok : exprOkB l0 = true
  · have htok : treeOk l0 = true := by unfold exprOkB at hok; simp only [Bool.and_eq_true] at hok; exact hok.1
    obtain ⟨h1, h2, _⟩ := shapeOk_yes (treeOk_shape htok)
    obtain ⟨n, hn⟩ : ∃ n : Nat, n = l0.length - 1 := ⟨_, rfl⟩
    have hnl : n < l0.length := by omega
    have hni : (l0.length : Int) - 1 = (n : Int) := by omega
    obtain ⟨x, ka, kc, b, off, hx, rfl, C0, C1, C2, C3, C4, hkd⟩ := hsl.at (Below.refl _ _) (Nat.le_refl _) hnl
    have hxs := Nat.le_trans (bulk_mem Node.sizes (List.mem_of_getElem? hx)) hn0
    unfold Node.sizes at hxs
    have hxl : l0[l0.length - 1]? = some x := by rw [← hn]; exact hx
    have hR : constV l0 = if x.kind = 2 then (numV x.text, numB x.text) else if x.kind = 11 ∧ x.op = 56 ∧ kidKind l0 = 2 then (signV (kidText l0), signB (kidText l0)) else (0, false) := by
      unfold constV; rw [if_pos hok, hxl]
    rw [hok] at hcall
    by_cases hk2 : x.kind = 2
    · have hlen := root_num htok hxl hk2
      have hR2 : Hid (constV l0 = (numV x.text, numB x.text)) := hid (by rw [hR, if_pos hk2])
      have hnum := hid fun W => specNumeral_any x.text W (by omega)
      have hl1 : ((l0.length : Int) == 1) = true := by simp; omega
      rw [hk2] at C0
      replace hn := hid hn
      replace hlen := hid hlen
      clear hok htok hx hxl hkd hR
      go_enter Tryz.func116, Tryz.ntmps116
      go_wp2_with fail
      refine hcall.mono ?_; rintro e w1 ⟨rfl, hb1⟩
      have c0 := keepc hb1 C0
      have c1 := keepc hb1 C1
      have c2 := keepc hb1 C2
      have c3 := keepc hb1 C3
      have c4 := keepc hb1 C4
      go_wp2_with fail
      refine (hnum.out _).mono ?_; rintro e w2 ⟨he, hb2⟩
      rw [numeralEnd_eq] at he
      unfold pairEnd at he
      subst he
      generalize numV x.text = nv at hR2
      generalize numB x.text = nb at hR2
      go_wp2
      go_ret2
      exact ⟨by rw [hR2.out]; rfl, (hb1.alloc hb1.size _).trans (hb2.mono (by have := hb1.size; simp; omega))⟩
    · have hk2b : (x.kind == 2) = false := by simpa using hk2
      by_cases h11 : x.kind = 11
      · obtain ⟨y, hl2, hkids, hy, himp⟩ := root_sign htok hxl h11
        have hkk : kidKind l0 = y.kind := by unfold kidKind; rw [hy]
        have hkt : kidText l0 = y.text := by unfold kidText; rw [hy]
        rw [if_neg hk2, hkk, hkt] at hR
        rw [h11] at C0
        by_cases h56 : x.op = 56
        · rw [h56] at C1
          by_cases hy2 : y.kind = 2
          · have hlen := himp hy2
            have hR2 : Hid (constV l0 = (signV y.text, signB y.text)) := hid (by rw [hR, if_pos ⟨h11, h56, hy2⟩])
            obtain ⟨y', ka2, kc2, b2, off2, hy', hab, E0, -, E2, -, -, -⟩ := hsl.at (Below.refl _ _) (Nat.le_refl _) (k := 0) (by omega)
            obtain rfl : y = y' := by rw [show l0.length - 2 = 0 by omega] at hy; rw [hy] at hy'; exact Option.some.inj hy'
            obtain ⟨rfl, rfl⟩ : b = b2 ∧ off = off2 := by simpa using hab
            rw [hy2] at E0
            simp only [Nat.zero_mul, Nat.add_zero] at E0 E2
            have hys := Nat.le_trans (bulk_mem Node.sizes (List.mem_of_getElem? hy')) hn0
            unfold Node.sizes at hys
            have hnum := hid fun W => specNumeral_any y.text W (by omega)
            have hl1 : ((l0.length : Int) == 1) = false := by simp; omega
            have hl2b : ((l0.length : Int) == 2) = true := by simp; omega
            have hl0 : 0 < l0.length := by omega
            have hnf := numV_facts y.text
            replace hn := hid hn
            replace hlen := hid hlen
            clear hok htok hx hxl hkd hR hy hy' hab hkids himp hk2 hl2
            go_enter Tryz.func116, Tryz.ntmps116
            go_wp2_with fail
            refine hcall.mono ?_; rintro e w1 ⟨rfl, hb1⟩
            have c0 := keepc hb1 C0
            have c1 := keepc hb1 C1
            have c2 := keepc hb1 C2
            have c3 := keepc hb1 C3
            have c4 := keepc hb1 C4
            have e0 := fun o => keepc (hb1.alloc hb1.size o) E0
            have e2 := fun o => keepc (hb1.alloc hb1.size o) E2
            go_wp2_with fail
            refine (hnum.out _).mono ?_; rintro e w2 ⟨he, hb2⟩
            rw [numeralEnd_eq] at he
            unfold pairEnd at he
            subst he
            unfold signV signB at hR2
            generalize numV y.text = nv at hR2 hnf
            generalize numB y.text = nb at hR2 hnf
            have hB := (hb1.alloc hb1.size _).trans (hb2.mono (by have := hb1.size; simp; omega))
            cases nb
            · obtain rfl := hnf.2 rfl
              go_wp2
              go_ret2
              exact ⟨by rw [hR2.out]; first | rfl | (unfold pairEnd wrap64; simp), hB⟩
            · by_cases hp : 0 < nv
              · have hR3 : Hid (constV l0 = (wrap64 (-nv), true)) := hid (by rw [hR2.out]; simp [hp])
                go_wp2
                go_ret2
                exact ⟨by rw [hR3.out]; rfl, hB⟩
              · obtain rfl : nv = 0 := by omega
                have hR3 : Hid (constV l0 = (0, false)) := hid (by rw [hR2.out]; simp)
                go_wp2
                go_ret2
                exact ⟨by rw [hR3.out]; first | rfl | (unfold pairEnd wrap64; simp), hB⟩
          · have hR2 : Hid (constV l0 = (0, false)) := hid (by rw [hR, if_neg (fun h => hy2 h.2.2)])
            by_cases hlen : l0.length = 2
            · obtain ⟨y', ka2, kc2, b2, off2, hy', hab, E0, -, E2, -, -, -⟩ := hsl.at (Below.refl _ _) (Nat.le_refl _) (k := 0) (by omega)
              obtain rfl : y = y' := by rw [show l0.length - 2 = 0 by omega] at hy; rw [hy] at hy'; exact Option.some.inj hy'
              obtain ⟨rfl, rfl⟩ : b = b2 ∧ off = off2 := by simpa using hab
              simp only [Nat.zero_mul, Nat.add_zero] at E0
              have hl1 : ((l0.length : Int) == 1) = false := by simp; omega
              have hl2b : ((l0.length : Int) == 2) = true := by simp; omega
              have hl0 : 0 < l0.length := by omega
              have hy2b : (y.kind == 2) = false := by simpa using hy2
              replace hn := hid hn
              replace hlen := hid hlen
              clear hok htok hx hxl hkd hR hy hy' hab hkids himp hk2 hl2 hy2
              go_enter Tryz.func116, Tryz.ntmps116
              go_wp2_with fail
              refine hcall.mono ?_; rintro e w1 ⟨rfl, hb1⟩
              have c0 := keepc hb1 C0
              have c1 := keepc hb1 C1
              have c2 := keepc hb1 C2
              have c3 := keepc hb1 C3
              have c4 := keepc hb1 C4
              have e0 := fun o => keepc (hb1.alloc hb1.size o) E0
              go_wp2
              go_ret2
              exact ⟨by rw [hR2.out]; rfl, hb1.alloc hb1.size _⟩
            · have hl1 : ((l0.length : Int) == 1) = false := by simp; omega
              have hl2b : ((l0.length : Int) == 2) = false := by simp; omega
              replace hn := hid hn
              clear hok htok hx hxl hkd hR hy hkids himp hk2 hy2
              go_enter Tryz.func116, Tryz.ntmps116
              go_wp2_with fail
              refine hcall.mono ?_; rintro e w1 ⟨rfl, hb1⟩
              have c0 := keepc hb1 C0
              have c1 := keepc hb1 C1
              have c2 := keepc hb1 C2
              have c3 := keepc hb1 C3
              have c4 := keepc hb1 C4
              go_wp2
              go_ret2
              exact ⟨by rw [hR2.out]; rfl, hb1.alloc hb1.size _⟩
        · have hR2 : Hid (constV l0 = (0, false)) := hid (by rw [hR, if_neg (fun h => h56 h.2.1)])
          have hl1 : ((l0.length : Int) == 1) = false := by simp; omega
          have h56b : (x.op == 56) = false := by simpa using h56
          replace hn := hid hn
          clear hok htok hx hxl hkd hR hy hkids himp hk2 h56
          go_enter Tryz.func116, Tryz.ntmps116
          go_wp2_with fail
          refine hcall.mono ?_; rintro e w1 ⟨rfl, hb1⟩
          have c0 := keepc hb1 C0
          have c1 := keepc hb1 C1
          have c2 := keepc hb1 C2
          have c3 := keepc hb1 C3
          have c4 := keepc hb1 C4
          go_wp2
          all_goals go_ret2
          all_goals exact ⟨by rw [hR2.out]; rfl, hb1.alloc hb1.size _⟩
      · have hR2 : Hid (constV l0 = (0, false)) := hid (by rw [hR, if_neg hk2, if_neg (fun h => h11 h.1)])
        have h11b : (x.kind == 11) = false := by simpa using h11
        replace hn := hid hn
        clear hok htok hx hxl hkd hR hk2 h11
        go_enter Tryz.func116, Tryz.ntmps116
        go_wp2_with fail
        refine hcall.mono ?_; rintro e w1 ⟨rfl, hb1⟩
        have c0 := keepc hb1 C0
        have c1 := keepc hb1 C1
        have c2 := keepc hb1 C2
        have c3 := keepc hb1 C3
        have c4 := keepc hb1 C4
        go_wp2
        all_goals go_ret2
        all_goals exact ⟨by rw [hR2.out]; rfl, hb1.alloc hb1.size _⟩
  · have hok : exprOkB l0 = false := by simpa using hok
    have hR : Hid (constV l0 = (0, false)) := hid (by unfold constV; rw [hok]; rfl)
    rw [hok] at hcall
    clear hok
    go_enter Tryz.func116, Tryz.ntmps116
    go_wp2_with fail
    refine hcall.mono ?_; rintro e w1 ⟨rfl, hb1⟩
    go_wp2
    go_ret2
    exact ⟨by rw [hR.out]; rfl, hb1⟩
end Go.Proofs.YtmemgmcopnaogaaGreatDoor
/- Walks and lemmas of this seat (FConst3): what each theorem says of the functions that it names. Conditions: those that each theorem states. -/
namespace Go.Proofs.YtmemgmcopnaogaaGreatDoor
set_option linter.unusedVariables false
set_option linter.unusedSimpArgs false
open Go.RowKit Go.Lib

/-- The same of a tree whose nodes have their kids in themselves. -/
def constT (t : Tree) : Int × Bool :=
  if t.kind = 2 then (numV t.text, numB t.text) else if t.kind = 11 ∧ t.op = 56 then (match t.kids with | u :: _ => if u.kind = 2 then (signV u.text, signB u.text) else (0, false) | [] => (0, false)) else (0, false)
theorem constT_mk (k o : Int) (a b : ByteArray) (l : List Tree) : constT (.mk k o a b l) = if k = 2 then (numV a, numB a) else if k = 11 ∧ o = 56 then (match l with | u :: _ => if u.kind = 2 then (signV u.text, signB u.text) else (0, false) | [] => (0, false)) else (0, false) := rfl
theorem const_eq {l : List Node} (h : exprOkB l = true) : constT (rootTree l) = constV l := by
  have htok : treeOk l = true := by unfold exprOkB at h; simp only [Bool.and_eq_true] at h; exact h.1
  have hah := shapeOk_ahead (treeOk_shape htok)
  obtain ⟨h1, h2, _⟩ := shapeOk_yes (treeOk_shape htok)
  obtain ⟨x, hx⟩ := get_of_lt (show l.length - 1 < l.length by omega)
  unfold rootTree constV
  rw [if_pos h, hx, treeIx_eq hah hx, constT_mk]
  simp only
  by_cases hk2 : x.kind = 2
  · rw [if_pos hk2, if_pos hk2]
  · rw [if_neg hk2, if_neg hk2]
    by_cases h11 : x.kind = 11
    · obtain ⟨y, hl2, hkids, hy, _⟩ := root_sign htok hx h11
      have hkk : kidKind l = y.kind := by unfold kidKind; rw [hy]
      have hkt : kidText l = y.text := by unfold kidText; rw [hy]
      rw [hkids, hkk, hkt]
      simp only [List.map_cons, List.map_nil, Int.toNat_natCast]
      rw [treeIx_eq hah hy]
      by_cases h56 : x.op = 56
      · rw [if_pos ⟨h11, h56⟩]
        show (if y.kind = 2 then (signV y.text, signB y.text) else ((0 : Int), false)) = _
        by_cases hy2 : y.kind = 2
        · rw [if_pos hy2, if_pos ⟨h11, h56, hy2⟩]
        · rw [if_neg hy2, if_neg (fun hh => hy2 hh.2.2)]
      · rw [if_neg (fun hh => h56 hh.2), if_neg (fun hh => h56 hh.2.1)]
    · rw [if_neg (fun hh => h11 hh.1), if_neg (fun hh => h11 hh.1)]

set_option maxRecDepth 100000 in
set_option maxHeartbeats 3200000 in
theorem implconstant_any (t : Tree) (kv : Value) (w : World) (S : Nat → Prop) (hT : TreeIs S w t kv) (ht : t.text.size ≤ 1048576) (hkt : ∀ u ∈ t.kids, u.text.size ≤ 1048576) (hk : t.kind = 11 → t.kids ≠ []) (hE : NumEnv w) :
    Calls Tryz.prog 62 #[.agg #[.int .i64 t.kind, .int .i64 t.op, .string t.text, .string t.other, kv]] w fun e w' => e = pairEnd (constT t).1 (constT t).2 ∧ Below w.heap.size w w' := by
  obtain ⟨q, hq, ⟨_, a, cap, rfl, hc, hm, hrow⟩, hsub⟩ := hT.open
  unfold maxLen at hm
  have hR : constT t = if t.kind = 2 then (numV t.text, numB t.text) else if t.kind = 11 ∧ t.op = 56 then (match t.kids with | u :: _ => if u.kind = 2 then (signV u.text, signB u.text) else (0, false) | [] => (0, false)) else (0, false) := rfl
  generalize constT t = ans at hR ⊢
  by_cases hk2 : t.kind = 2
  · have hR2 : Hid (ans = (numV t.text, numB t.text)) := hid (by rw [hR, if_pos hk2])
    have hnum := hid fun W (hb : Below w.heap.size w W) => implNumeral_any t.text W ht (hE.below hb)
    rw [hk2]
    clear hR hk hk2 hkt hsub hrow hT
    go_enter Tryz.func62, Tryz.ntmps62
    go_wp2_with fail
    refine (hnum.out _ (by repeat (first | exact Below.refl _ _ | refine Below.alloc ?_ (by first | omega | (simp; done) | (simp; omega)) _ | refine Below.drew ?_))).mono ?_; rintro e w2 ⟨he, hb2⟩
    rw [numeralEnd_eq] at he
    unfold pairEnd at he
    subst he
    generalize numV t.text = nv at hR2
    generalize numB t.text = nb at hR2
    go_wp2
    go_ret2
    exact ⟨by rw [hR2.out]; rfl, (by repeat (first | exact Below.refl _ _ | refine Below.alloc ?_ (by first | omega | (simp; done) | (simp; omega)) _ | refine Below.drew ?_) : Below w.heap.size w _).trans (hb2.mono (by simp))⟩
  · have hk2b : (t.kind == 2) = false := by simpa using hk2
    rw [if_neg hk2] at hR
    by_cases h11 : t.kind = 11
    · by_cases h56 : t.op = 56
      · rw [if_pos ⟨h11, h56⟩] at hR
        have hne := hk h11
        cases q with
        | nil => exact absurd hq.symm hne
        | cons p q =>
          obtain ⟨u, uv⟩ := p
          rw [← hq] at hR hkt
          simp only [List.map_cons] at hR
          have hut := hkt u (by simp)
          obtain ⟨b, off, rfl, _, hro⟩ := hrow.resolve_left (by simp)
          have C0 := hro.flat0 5 Tree.len (k := 0) (x := (u, uv)) rfl rfl
          have C2 := hro.flat 5 Tree.len (k := 0) (x := (u, uv)) rfl 2 rfl
          simp only [Nat.zero_mul, Nat.add_zero] at C0 C2
          have c0 := fun o => keepc ((Below.refl w.heap.size w).alloc (Nat.le_refl _) o) C0
          have c2 := fun o => keepc ((Below.refl w.heap.size w).alloc (Nat.le_refl _) o) C2
          have hlen : 0 < ((u, uv) :: q).length := by simp
          generalize ((u, uv) :: q).length = ql at hlen hc ⊢
          rw [h11, h56]
          by_cases hu2 : u.kind = 2
          · simp only [hu2] at c0
            rw [if_pos hu2] at hR
            have hR2 : Hid (ans = (signV u.text, signB u.text)) := hid hR
            have hnum := hid fun W (hb : Below w.heap.size w W) => implNumeral_any u.text W hut (hE.below hb)
            have hnf := numV_facts u.text
            clear hR hk hk2 hk2b h11 h56 hkt hsub hro hT hq hne hu2 C0 C2 hrow
            go_enter Tryz.func62, Tryz.ntmps62
            go_wp2_with fail
            refine (hnum.out _ (by repeat (first | exact Below.refl _ _ | refine Below.alloc ?_ (by first | omega | (simp; done) | (simp; omega)) _ | refine Below.drew ?_))).mono ?_; rintro e w2 ⟨he, hb2⟩
            rw [numeralEnd_eq] at he
            unfold pairEnd at he
            subst he
            unfold signV signB at hR2
            generalize numV u.text = nv at hR2 hnf
            generalize numB u.text = nb at hR2 hnf
            have hB : Below w.heap.size w w2 := (by repeat (first | exact Below.refl _ _ | refine Below.alloc ?_ (by first | omega | (simp; done) | (simp; omega)) _ | refine Below.drew ?_) : Below w.heap.size w _).trans (hb2.mono (by simp))
            cases nb
            · obtain rfl := hnf.2 rfl
              go_wp2
              go_ret2
              exact ⟨by rw [hR2.out]; rfl, hB⟩
            · by_cases hp : 0 < nv
              · have hR3 : Hid (ans = (wrap64 (-nv), true)) := hid (by rw [hR2.out]; simp [hp])
                have hn0 : (nv == 0) = false := by simp; omega
                go_wp2
                go_ret2
                exact ⟨by rw [hR3.out]; rfl, hB⟩
              · obtain rfl : nv = 0 := by omega
                have hR3 : Hid (ans = (0, false)) := hid (by rw [hR2.out]; simp)
                go_wp2
                go_ret2
                exact ⟨by rw [hR3.out]; rfl, hB⟩
          · have hu2b : (u.kind == 2) = false := by simpa using hu2
            rw [if_neg hu2] at hR
            have hR2 : Hid (ans = (0, false)) := hid hR
            clear hR hk hk2 hk2b h11 h56 hkt hsub hro hT hq hne hu2 C0 C2 hrow
            go_enter Tryz.func62, Tryz.ntmps62
            go_wp2
            go_ret2
            exact ⟨by rw [hR2.out]; rfl, by repeat (first | exact Below.refl _ _ | refine Below.alloc ?_ (by first | omega | (simp; done) | (simp; omega)) _ | refine Below.drew ?_)⟩
      · have hR2 : Hid (ans = (0, false)) := hid (by rw [hR, if_neg (fun h => h56 h.2)])
        have h56b : (t.op == 56) = false := by simpa using h56
        rw [h11]
        clear hR hk hk2 hk2b h11 h56 hkt hsub hrow hT
        go_enter Tryz.func62, Tryz.ntmps62
        go_wp2
        go_ret2
        exact ⟨by rw [hR2.out]; rfl, by repeat (first | exact Below.refl _ _ | refine Below.alloc ?_ (by first | omega | (simp; done) | (simp; omega)) _ | refine Below.drew ?_)⟩
    · have hR2 : Hid (ans = (0, false)) := hid (by rw [hR, if_neg (fun h => h11 h.1)])
      have h11b : (t.kind == 11) = false := by simpa using h11
      clear hR hk hk2 h11 hkt hsub hrow hT
      go_enter Tryz.func62, Tryz.ntmps62
      go_wp2
      go_ret2
      exact ⟨by rw [hR2.out]; rfl, by repeat (first | exact Below.refl _ _ | refine Below.alloc ?_ (by first | omega | (simp; done) | (simp; omega)) _ | refine Below.drew ?_)⟩
theorem implConstant2_any (l0 : List Node) (v0 : Value) (w : World) (hx0 : ∀ x ∈ l0, x.Ok) (hn0 : bulk Node.sizes l0 ≤ 1048576) (hv0 : NodeSlc w v0 l0) (hE : WordEnv w) (hN : NumEnv w) :
    Calls Tryz.prog 16 #[v0] w fun e w' => e = pairEnd (constV l0).1 (constV l0).2 ∧ Below w.heap.size w w' := by
  have hv := hv0
  have hcall := implExprOk_any l0 v0 w hx0 hn0 hv hE
  obtain ⟨a, cap, rfl, hm, hc, hsl⟩ := hv0.shape
  by_cases hok : exprOkB l0 = true
  · have htok : treeOk l0 = true := by unfold exprOkB at hok; simp only [Bool.and_eq_true] at hok; exact hok.1
    have hsk := treeOk_shape htok
    have hah := shapeOk_ahead hsk
    obtain ⟨h1, h2, _⟩ := shapeOk_yes hsk
    obtain ⟨x, hx⟩ := get_of_lt (show l0.length - 1 < l0.length by omega)
    have hsz : ∀ (i : Nat) (z : Node), l0[i]? = some z → z.text.size ≤ 1048576 := fun i z hz => by
      have h3 := Nat.le_trans (bulk_mem Node.sizes (List.mem_of_getElem? hz)) hn0
      unfold Node.sizes at h3
      omega
    have hrt : rootTree l0 = .mk x.kind x.op x.text x.other (x.kids.map fun k => treeIx l0 k.toNat) := treeIx_eq hah hx
    have ht : (rootTree l0).text.size ≤ 1048576 := by rw [hrt]; exact hsz _ x hx
    have hkt : ∀ u ∈ (rootTree l0).kids, u.text.size ≤ 1048576 := by
      rw [hrt]
      intro u hu
      obtain ⟨k, hk, rfl⟩ := List.mem_map.1 (show u ∈ x.kids.map fun k => treeIx l0 k.toNat from hu)
      obtain ⟨y, hy⟩ := get_of_lt (show k.toNat < l0.length by have := (hah _ x hx k hk).2; omega)
      rw [treeIx_eq hah hy]
      exact hsz _ y hy
    have hk1 : (rootTree l0).kind = 11 → (rootTree l0).kids ≠ [] := by
      rw [hrt]
      intro h11
      obtain ⟨y, _, hkids, _, _⟩ := root_sign htok hx h11
      show (x.kids.map fun k => treeIx l0 k.toNat) ≠ []
      rw [hkids]; simp
    have hce := const_eq hok
    have hroot := hid (fun W (hb : Below w.heap.size w W) => implrootOf_any l0 _ W hx0 hn0 (hv.mono hb (Nat.le_refl _)) hsk)
    rw [hok] at hcall
    rw [← hce]
    have hcon := hid (fun ka kn kc W S hT hN => implconstant_any (rootTree l0) (.slice ka kn kc) W S hT ht hkt hk1 hN)
    generalize constT (rootTree l0) = ans at hcon ⊢
    clear hok htok hsk hah hrt hce hx
    go_enter Tryz.func16, Tryz.ntmps16
    go_wp2_with fail
    refine hcall.mono ?_; rintro e w1 ⟨rfl, hb1⟩
    go_wp2_with fail
    refine (hroot.out _ hb1).mono ?_; rintro e w2 ⟨ka, kn, kc, rfl, hb2, ht2⟩
    have hb3 := hb1.trans (hb2.mono hb1.size)
    go_wp2_with fail
    refine (hcon.out _ _ _ _ _ ht2 (hN.below hb3)).mono ?_; rintro e w3 ⟨he, hb4⟩
    unfold pairEnd at he
    subst he
    go_wp2
    go_ret2
    exact ⟨rfl, hb3.trans (hb4.mono hb3.size)⟩
  · have hok : exprOkB l0 = false := by simpa using hok
    have hR : Hid (constV l0 = (0, false)) := hid (by unfold constV; rw [hok]; rfl)
    rw [hok] at hcall
    clear hok
    go_enter Tryz.func16, Tryz.ntmps16
    go_wp2_with fail
    refine hcall.mono ?_; rintro e w1 ⟨rfl, hb1⟩
    go_wp2
    go_ret2
    exact ⟨by rw [hR.out]; rfl, hb1⟩
/-- What the program's side of Constant reads: its words, and the library's table and errors. -/
def ConstEnv (w : World) : Prop := WordEnv w ∧ NumEnv w
theorem ConstEnv.below {w w' : World} (h : ConstEnv w) (hb : Below w.heap.size w w') : ConstEnv w' := ⟨h.1.below hb, h.2.below hb⟩
theorem implConstant_any (l0 : List Node) (v0 : Value) (w : World) (hx0 : ∀ x ∈ l0, x.Ok) (hn0 : bulk Node.sizes l0 ≤ 1048576) (hv0 : NodeSlc w v0 l0) (hE : ConstEnv w) :
    Calls Tryz.prog 16 #[v0] w fun e w' => e = pairEnd (constV l0).1 (constV l0).2 ∧ Below w.heap.size w w' := implConstant2_any l0 v0 w hx0 hn0 hv0 hE.1 hE.2
end Go.Proofs.YtmemgmcopnaogaaGreatDoor
