/- Walks and lemmas of this seat (PEval): what each theorem says of the functions that it names. Conditions: those that each theorem states. -/
import Derived.Test.YtmemgmcopnaogaaGreatDoorGQ
import Derived.Test.YtmemgmcopnaogaaGreatDoorFVarOf
import Derived.Test.YtmemgmcopnaogaaGreatDoorGD
import Derived.Test.YtmemgmcopnaogaaGreatDoorGB
namespace Go.Proofs.YtmemgmcopnaogaaGreatDoor
set_option linter.unusedVariables false
set_option linter.unusedSimpArgs false
open Go.RowKit Go.Lib

/-! The value of an expression. -/
def flagI (b : Bool) : Int := if b = true then 1 else 0
def boundV (v : Int) : Int × Bool := if inB v (-1000000000) 1000000000 = true then (v, true) else (0, false)
/-- What an operator makes of two numbers. -/
def combO (op a b : Int) : Option Int :=
  if op = 55 then some (a + b) else if op = 56 then some (a - b) else if op = 57 then some (a * b) else if op = 59 then (if b = 0 then none else some (a.tmod b))
  else if op = 63 then some (flagI (decide (a < b))) else if op = 48 then some (flagI (decide (a ≤ b))) else if op = 47 then some (flagI (a == b)) else if op = 50 then some (flagI (a != b))
  else if op = 62 then some (flagI (decide (a > b))) else if op = 49 then some (flagI (decide (a ≥ b))) else none
def combV (op a b : Int) : Int × Bool := match combO op a b with | some v => boundV v | none => (0, false)
def binV (op : Int) (a b : Int × Bool) : Int × Bool :=
  if a.2 = false then (0, false)
  else if op = 45 ∨ op = 44 then (if (decide (a.1 ≠ 0)) = (decide (op = 44)) then (flagI (decide (a.1 ≠ 0)), true) else if b.2 = false then (0, false) else (flagI (decide (b.1 ≠ 0)), true))
  else if b.2 = false then (0, false) else combV op a.1 b.1
def unV (op : Int) (a : Int × Bool) : Int × Bool := if a.2 = false then (0, false) else (if op = 56 then -a.1 else if op = 61 then flagI (decide (a.1 = 0)) else a.1, true)
def nodeV (env : List Bind) (k o : Int) (s : ByteArray) (vs : List (Int × Bool)) : Int × Bool :=
  if k = 1 then boundV (varOf s env) else if k = 2 then (numV s, numB s) else if k = 11 then unV o (vs.getD 0 (0, false))
  else if k = 14 then (if (vs.getD 0 (0, false)).2 = false then (0, false) else if (vs.getD 0 (0, false)).1 = 0 then vs.getD 2 (0, false) else vs.getD 1 (0, false))
  else if k = 12 then binV o (vs.getD 0 (0, false)) (vs.getD 1 (0, false)) else (0, false)
mutual
def Tree.ev (env : List Bind) : Tree → Int × Bool
  | .mk k o s _ l => nodeV env k o s (Tree.evL env l)
def Tree.evL (env : List Bind) : List Tree → List (Int × Bool)
  | [] => []
  | t :: l => t.ev env :: Tree.evL env l
end
theorem Tree.evL_eq (env : List Bind) (l : List Tree) : Tree.evL env l = l.map (Tree.ev env) := by
  induction l with
  | nil => rw [Tree.evL]; rfl
  | cons t l ih => rw [Tree.evL, ih]; rfl
theorem Tree.ev_eq (env : List Bind) (t : Tree) : t.ev env = nodeV env t.kind t.op t.text (t.kids.map (Tree.ev env)) := by
  cases t; rw [Tree.ev, Tree.evL_eq]; rfl
/-- A value that is one is no greater than the limit; one that is none is 0. -/
def FineV (a : Int × Bool) : Prop := (a.2 = true → -1000000000 ≤ a.1 ∧ a.1 ≤ 1000000000) ∧ (a.2 = false → a.1 = 0)
theorem FineV.none : FineV (0, false) := ⟨by simp, by simp⟩
theorem FineV.flag (b : Bool) : FineV (flagI b, true) := by unfold flagI; cases b <;> exact ⟨by simp, by simp⟩
theorem FineV.bound (v : Int) : FineV (boundV v) := by
  unfold boundV
  split
  · rename_i h
    unfold inB at h
    simp only [Bool.and_eq_true, decide_eq_true_eq] at h
    exact ⟨fun _ => h, by simp⟩
  · exact .none
theorem FineV.num (s : ByteArray) : FineV (numV s, numB s) := by
  refine ⟨fun h => ?_, (numV_facts s).2⟩
  have h0 := (numV_facts s).1
  simp only at h
  unfold numB at h
  simp only [Bool.and_eq_true] at h
  have h2 := rdOk_isDec h.1
  have h3 : numV s = rdVal s.data.toList := by unfold numV; rw [h.1, h.2]; rfl
  simp only
  rw [h3]
  have := h2.2
  omega
theorem FineV.comb (op a b : Int) : FineV (combV op a b) := by
  unfold combV
  split
  · exact .bound _
  · exact .none
theorem FineV.un (op : Int) {a : Int × Bool} (h : FineV a) : FineV (unV op a) := by
  unfold unV
  split
  · exact .none
  · rename_i h2
    have h1 := h.1 (by simpa using h2)
    refine ⟨fun _ => ?_, by simp⟩
    simp only
    split
    · omega
    · split
      · unfold flagI; split <;> omega
      · exact h1
theorem FineV.bin (op : Int) {a b : Int × Bool} (ha : FineV a) (hb : FineV b) : FineV (binV op a b) := by
  unfold binV
  split
  · exact .none
  · split
    · split
      · exact .flag _
      · split
        · exact .none
        · exact .flag _
    · split
      · exact .none
      · exact .comb _ _ _
theorem FineV.getD {vs : List (Int × Bool)} (h : ∀ a ∈ vs, FineV a) (k : Nat) : FineV (vs.getD k (0, false)) := by
  rw [List.getD_eq_getElem?_getD]
  cases hk : vs[k]? with
  | none => exact .none
  | some a => exact h a (List.mem_of_getElem? hk)
theorem FineV.node (env : List Bind) (k o : Int) (s : ByteArray) {vs : List (Int × Bool)} (h : ∀ a ∈ vs, FineV a) : FineV (nodeV env k o s vs) := by
  unfold nodeV
  split
  · exact .bound _
  split
  · exact .num _
  split
  · exact .un _ (.getD h 0)
  split
  · split
    · exact .none
    · split <;> exact .getD h _
  split
  · exact .bin _ (.getD h 0) (.getD h 1)
  · exact .none
theorem Tree.ev_fineN (env : List Bind) (n : Nat) : ∀ (t : Tree), SizeOf.sizeOf t < n → FineV (t.ev env) := by
  induction n with
  | zero => intro t h; omega
  | succ n ih =>
    intro t h
    rw [t.ev_eq]
    refine .node env _ _ _ fun a ha => ?_
    obtain ⟨u, hu, rfl⟩ := List.mem_map.1 ha
    exact ih u (by have := Tree.kid_lt hu; omega)
theorem Tree.ev_fine (env : List Bind) (t : Tree) : FineV (t.ev env) := Tree.ev_fineN env _ t (Nat.lt_succ_self _)
theorem wrap_fine {v : Int} (h : -4000000000000000000 ≤ v ∧ v ≤ 4000000000000000000) : wrap64 v = v := by unfold wrap64; omega
theorem mul_fine {a b : Int} (ha : -1000000000 ≤ a ∧ a ≤ 1000000000) (hb : -1000000000 ≤ b ∧ b ≤ 1000000000) : -1000000000000000000 ≤ a * b ∧ a * b ≤ 1000000000000000000 := by
  have h1 : (a * b).natAbs ≤ 1000000000 * 1000000000 := by rw [Int.natAbs_mul]; exact Nat.mul_le_mul (by omega) (by omega)
  omega
def evalV (l : List Node) (env : List Bind) : Int × Bool := if exprOkB l = true then (rootTree l).ev env else (0, false)
end Go.Proofs.YtmemgmcopnaogaaGreatDoor
/- Walks and lemmas of this seat (FComb): what each theorem says of the functions that it names. Conditions: those that each theorem states. -/
namespace Go.Proofs.YtmemgmcopnaogaaGreatDoor
set_option linter.unusedVariables false
set_option linter.unusedSimpArgs false
open Go.RowKit Go.Lib

theorem combO_55 (a b : Int) : combO 55 a b = some (a + b) := rfl
theorem combO_56 (a b : Int) : combO 56 a b = some (a - b) := rfl
theorem combO_57 (a b : Int) : combO 57 a b = some (a * b) := rfl
theorem combO_59 (a b : Int) : combO 59 a b = if b = 0 then none else some (a.tmod b) := rfl
theorem combO_63 (a b : Int) : combO 63 a b = some (flagI (decide (a < b))) := rfl
theorem combO_48 (a b : Int) : combO 48 a b = some (flagI (decide (a ≤ b))) := rfl
theorem combO_47 (a b : Int) : combO 47 a b = some (flagI (a == b)) := rfl
theorem combO_50 (a b : Int) : combO 50 a b = some (flagI (a != b)) := rfl
theorem combO_62 (a b : Int) : combO 62 a b = some (flagI (decide (a > b))) := rfl
theorem combO_49 (a b : Int) : combO 49 a b = some (flagI (decide (a ≥ b))) := rfl
theorem combO_no {op : Int} (a b : Int) (h : op ≠ 55 ∧ op ≠ 56 ∧ op ≠ 57 ∧ op ≠ 59 ∧ op ≠ 63 ∧ op ≠ 48 ∧ op ≠ 47 ∧ op ≠ 50 ∧ op ≠ 62 ∧ op ≠ 49) : combO op a b = none := by
  obtain ⟨h1, h2, h3, h4, h5, h6, h7, h8, h9, h10⟩ := h
  unfold combO
  rw [if_neg h1, if_neg h2, if_neg h3, if_neg h4, if_neg h5, if_neg h6, if_neg h7, if_neg h8, if_neg h9, if_neg h10]
theorem tmod_fine {a b : Int} (ha : -1000000000 ≤ a ∧ a ≤ 1000000000) (hb : b ≠ 0) : -1000000000 ≤ a.tmod b ∧ a.tmod b ≤ 1000000000 := by
  have h1 : (a.tmod b).natAbs ≤ a.natAbs := by rw [Int.natAbs_tmod]; exact Nat.mod_le _ _
  omega
theorem wrapI {v : Int} (h : -4000000000000000000 ≤ v ∧ v ≤ 4000000000000000000) : IntKind.wrap .i64 v = v := wrap_in _ (by unfold I64; omega)
theorem two_end {v v' : Int} {b b' : Bool} (h1 : v = v') (h2 : b = b') : Ending.returned (.tuple #[.int .i64 v, .bool b]) = pairEnd v' b' := by rw [h1, h2]; rfl
set_option maxRecDepth 100000 in
theorem implflag_any (b : Bool) (w : World) : Calls Tryz.prog 142 #[.bool b] w fun e w' => e = .returned (.int .i64 (flagI b)) ∧ w' = w := by
  cases b
  · go_enter Tryz.func142, Tryz.ntmps142
    go_wp2
    go_ret
    exact ⟨rfl, rfl⟩
  · go_enter Tryz.func142, Tryz.ntmps142
    go_wp2
    go_ret
    exact ⟨rfl, rfl⟩
set_option maxRecDepth 100000 in
theorem specl27Bool_any (b : Bool) (w : World) : Calls Tryz.prog 238 #[.bool b] w fun e w' => e = .returned (.int .i64 (flagI b)) ∧ w' = w := by
  cases b
  · go_enter Tryz.func238, Tryz.ntmps238
    go_wp2
    go_ret
    exact ⟨rfl, rfl⟩
  · go_enter Tryz.func238, Tryz.ntmps238
    go_wp2
    go_ret
    exact ⟨rfl, rfl⟩
/-- What l27Two makes of an operator. -/
def twoV (op a b : Int) : Int × Bool := match combO op a b with | some v => (v, true) | none => (0, false)
theorem flagI_fine (b : Bool) : 0 ≤ flagI b ∧ flagI b ≤ 1 := by unfold flagI; split <;> omega

set_option maxRecDepth 100000 in
set_option maxHeartbeats 6400000 in
theorem specl27Two_any (op a b : Int) (w : World) (ha : -1000000000 ≤ a ∧ a ≤ 1000000000) (hb : -1000000000 ≤ b ∧ b ≤ 1000000000) : Calls Tryz.prog 240 #[.int .i64 op, .int .i64 a, .int .i64 b] w fun e w' => e = pairEnd (twoV op a b).1 (twoV op a b).2 ∧ w' = w := by
  have ha1 := ha.1
  have ha2 := ha.2
  have hb1 := hb.1
  have hb2 := hb.2
  have hmul := mul_fine ha hb
  have hm1 := hmul.1
  have hm2 := hmul.2
  have hwm : IntKind.wrap .i64 (a * b) = a * b := wrapI (by omega)
  have hwm2 : wrap64 (a * b) = a * b := wrap_fine (by omega)
  by_cases h55 : op = 55
  · subst h55
    have hR : Hid (twoV 55 a b = (a + b, true)) := hid (by unfold twoV; rw [combO_55])
    generalize hTT : twoV 55 a b = TT at hR ⊢
    clear hTT
    go_enter Tryz.func240, Tryz.ntmps240
    go_wp2_with (first | (go_at_call 238; refine (specl27Bool_any _ _).mono ?_; rintro e w9 ⟨rfl, hw9⟩; subst w9))
    all_goals go_ret2
    all_goals exact ⟨by rw [hR.out]; exact two_end (by first | rfl | (unfold wrap64; omega) | (simp_all; done) | (rw [hwm]; done)) rfl, rfl⟩
  by_cases h56 : op = 56
  · subst h56
    have hR : Hid (twoV 56 a b = (a - b, true)) := hid (by unfold twoV; rw [combO_56])
    generalize hTT : twoV 56 a b = TT at hR ⊢
    clear hTT
    go_enter Tryz.func240, Tryz.ntmps240
    go_wp2_with (first | (go_at_call 238; refine (specl27Bool_any _ _).mono ?_; rintro e w9 ⟨rfl, hw9⟩; subst w9))
    all_goals go_ret2
    all_goals exact ⟨by rw [hR.out]; exact two_end (by first | rfl | (unfold wrap64; omega) | (simp_all; done) | (rw [hwm]; done)) rfl, rfl⟩
  by_cases h57 : op = 57
  · subst h57
    have hR : Hid (twoV 57 a b = (a * b, true)) := hid (by unfold twoV; rw [combO_57])
    generalize hTT : twoV 57 a b = TT at hR ⊢
    clear hTT
    go_enter Tryz.func240, Tryz.ntmps240
    go_wp2_with (first | (go_at_call 238; refine (specl27Bool_any _ _).mono ?_; rintro e w9 ⟨rfl, hw9⟩; subst w9))
    all_goals go_ret2
    all_goals exact ⟨by rw [hR.out]; exact two_end (by first | rfl | (unfold wrap64; omega) | (simp_all; done) | (rw [hwm]; done)) rfl, rfl⟩
  by_cases h59 : op = 59
  · subst h59
    by_cases hb0 : b = 0
    · subst hb0
      have hR : Hid (twoV 59 a 0 = (0, false)) := hid rfl
      generalize hTT : twoV 59 a 0 = TT at hR ⊢
      clear hTT
      go_enter Tryz.func240, Tryz.ntmps240
      go_wp2
      go_ret2
      exact ⟨by rw [hR.out]; rfl, rfl⟩
    · have hb0b : (b == 0) = false := by simpa using hb0
      have htm := tmod_fine ha hb0
      have ht1 := htm.1
      have ht2 := htm.2
      have hwt : IntKind.wrap .i64 (a.tmod b) = a.tmod b := wrapI (by omega)
      have hR : Hid (twoV 59 a b = (a.tmod b, true)) := hid (by unfold twoV; rw [combO_59, if_neg hb0])
      generalize hTT : twoV 59 a b = TT at hR ⊢
      clear hTT
      go_enter Tryz.func240, Tryz.ntmps240
      go_wp2_with (first | (go_at_call 238; refine (specl27Bool_any _ _).mono ?_; rintro e w9 ⟨rfl, hw9⟩; subst w9))
      all_goals go_ret2
      all_goals exact ⟨by rw [hR.out]; exact two_end (by first | rfl | (unfold wrap64; omega) | (simp_all; done) | (rw [hwm]; done)) rfl, rfl⟩
  by_cases h63 : op = 63
  · subst h63
    have hR : Hid (twoV 63 a b = (flagI (decide (a < b)), true)) := hid (by unfold twoV; rw [combO_63])
    generalize hTT : twoV 63 a b = TT at hR ⊢
    clear hTT
    go_enter Tryz.func240, Tryz.ntmps240
    go_wp2_with (first | (go_at_call 238; refine (specl27Bool_any _ _).mono ?_; rintro e w9 ⟨rfl, hw9⟩; subst w9))
    all_goals go_ret2
    all_goals exact ⟨by rw [hR.out]; exact two_end (by first | rfl | (unfold wrap64; omega) | (simp_all; done) | (rw [hwm]; done)) rfl, rfl⟩
  by_cases h48 : op = 48
  · subst h48
    have hR : Hid (twoV 48 a b = (flagI (decide (a ≤ b)), true)) := hid (by unfold twoV; rw [combO_48])
    generalize hTT : twoV 48 a b = TT at hR ⊢
    clear hTT
    go_enter Tryz.func240, Tryz.ntmps240
    go_wp2_with (first | (go_at_call 238; refine (specl27Bool_any _ _).mono ?_; rintro e w9 ⟨rfl, hw9⟩; subst w9))
    all_goals go_ret2
    all_goals exact ⟨by rw [hR.out]; exact two_end (by first | rfl | (unfold wrap64; omega) | (simp_all; done) | (rw [hwm]; done)) rfl, rfl⟩
  by_cases h47 : op = 47
  · subst h47
    have hR : Hid (twoV 47 a b = (flagI (a == b), true)) := hid (by unfold twoV; rw [combO_47])
    generalize hTT : twoV 47 a b = TT at hR ⊢
    clear hTT
    go_enter Tryz.func240, Tryz.ntmps240
    go_wp2_with (first | (go_at_call 238; refine (specl27Bool_any _ _).mono ?_; rintro e w9 ⟨rfl, hw9⟩; subst w9))
    all_goals go_ret2
    all_goals exact ⟨by rw [hR.out]; exact two_end (by first | rfl | (unfold wrap64; omega) | (simp_all; done) | (rw [hwm]; done)) rfl, rfl⟩
  by_cases h50 : op = 50
  · subst h50
    have hR : Hid (twoV 50 a b = (flagI (a != b), true)) := hid (by unfold twoV; rw [combO_50])
    generalize hTT : twoV 50 a b = TT at hR ⊢
    clear hTT
    go_enter Tryz.func240, Tryz.ntmps240
    go_wp2_with (first | (go_at_call 238; refine (specl27Bool_any _ _).mono ?_; rintro e w9 ⟨rfl, hw9⟩; subst w9))
    all_goals go_ret2
    all_goals exact ⟨by rw [hR.out]; exact two_end (by first | rfl | (unfold wrap64; omega) | (simp_all; done) | (rw [hwm]; done)) rfl, rfl⟩
  by_cases h62 : op = 62
  · subst h62
    have hR : Hid (twoV 62 a b = (flagI (decide (a > b)), true)) := hid (by unfold twoV; rw [combO_62])
    generalize hTT : twoV 62 a b = TT at hR ⊢
    clear hTT
    go_enter Tryz.func240, Tryz.ntmps240
    go_wp2_with (first | (go_at_call 238; refine (specl27Bool_any _ _).mono ?_; rintro e w9 ⟨rfl, hw9⟩; subst w9))
    all_goals go_ret2
    all_goals exact ⟨by rw [hR.out]; exact two_end (by first | rfl | (unfold wrap64; omega) | (simp_all; done) | (rw [hwm]; done)) rfl, rfl⟩
  by_cases h49 : op = 49
  · subst h49
    have hR : Hid (twoV 49 a b = (flagI (decide (a ≥ b)), true)) := hid (by unfold twoV; rw [combO_49])
    generalize hTT : twoV 49 a b = TT at hR ⊢
    clear hTT
    go_enter Tryz.func240, Tryz.ntmps240
    go_wp2_with (first | (go_at_call 238; refine (specl27Bool_any _ _).mono ?_; rintro e w9 ⟨rfl, hw9⟩; subst w9))
    all_goals go_ret2
    all_goals exact ⟨by rw [hR.out]; exact two_end (by first | rfl | (unfold wrap64; omega) | (simp_all; done) | (rw [hwm]; done)) rfl, rfl⟩
  have hR : Hid (twoV op a b = (0, false)) := hid (by unfold twoV; rw [combO_no a b ⟨h55, h56, h57, h59, h63, h48, h47, h50, h62, h49⟩])
  generalize hTT : twoV op a b = TT at hR ⊢
  clear hTT
  have g55 : (op == 55) = false := by simpa using h55
  have g56 : (op == 56) = false := by simpa using h56
  have g57 : (op == 57) = false := by simpa using h57
  have g59 : (op == 59) = false := by simpa using h59
  have g63 : (op == 63) = false := by simpa using h63
  have g48 : (op == 48) = false := by simpa using h48
  have g47 : (op == 47) = false := by simpa using h47
  have g50 : (op == 50) = false := by simpa using h50
  have g62 : (op == 62) = false := by simpa using h62
  have g49 : (op == 49) = false := by simpa using h49
  clear h55 h56 h57 h59 h63 h48 h47 h50 h62 h49
  go_enter Tryz.func240, Tryz.ntmps240
  go_wp2
  go_ret2
  exact ⟨by rw [hR.out]; rfl, rfl⟩

set_option maxRecDepth 100000 in
set_option maxHeartbeats 6400000 in
theorem implcombine_any (op a b : Int) (w : World) (ha : -1000000000 ≤ a ∧ a ≤ 1000000000) (hb : -1000000000 ≤ b ∧ b ≤ 1000000000) : Calls Tryz.prog 184 #[.int .i64 op, .int .i64 a, .int .i64 b] w fun e w' => e = pairEnd (combV op a b).1 (combV op a b).2 ∧ w' = w := by
  have ha1 := ha.1
  have ha2 := ha.2
  have hb1 := hb.1
  have hb2 := hb.2
  have hmul := mul_fine ha hb
  have hm1 := hmul.1
  have hm2 := hmul.2
  have hwm : IntKind.wrap .i64 (a * b) = a * b := wrapI (by omega)
  have hwm2 : wrap64 (a * b) = a * b := wrap_fine (by omega)
  by_cases h55 : op = 55
  · subst h55
    have hR : Hid (combV 55 a b = boundV (a + b)) := hid (by unfold combV; rw [combO_55])
    generalize hTT : combV 55 a b = TT at hR ⊢
    clear hTT
    by_cases hin : inB (a + b) (-1000000000) 1000000000 = true
    · have hR2 : Hid (boundV (a + b) = (a + b, true)) := hid (by unfold boundV; rw [if_pos hin])
      go_enter Tryz.func184, Tryz.ntmps184
      go_wp2_with (first | (go_at_call 83; refine (implwithin_any _ _ _ _).mono ?_; rintro e w8 ⟨rfl, hw8⟩; subst w8; rw [hin]))
      all_goals go_ret2
      all_goals exact ⟨by rw [hR.out, hR2.out]; exact two_end (by first | rfl | (unfold wrap64; omega) | (simp_all; done) | (rw [hwm]; done)) rfl, rfl⟩
    · have hR2 : Hid (boundV (a + b) = (0, false)) := hid (by unfold boundV; rw [if_neg hin])
      have hin : inB (a + b) (-1000000000) 1000000000 = false := by simpa using hin
      go_enter Tryz.func184, Tryz.ntmps184
      go_wp2_with (first | (go_at_call 83; refine (implwithin_any _ _ _ _).mono ?_; rintro e w8 ⟨rfl, hw8⟩; subst w8; rw [hin]))
      all_goals go_ret2
      all_goals exact ⟨by rw [hR.out, hR2.out]; exact two_end (by first | rfl | (unfold wrap64; omega) | (simp_all; done) | (rw [hwm]; done)) rfl, rfl⟩
  by_cases h56 : op = 56
  · subst h56
    have hR : Hid (combV 56 a b = boundV (a - b)) := hid (by unfold combV; rw [combO_56])
    generalize hTT : combV 56 a b = TT at hR ⊢
    clear hTT
    by_cases hin : inB (a - b) (-1000000000) 1000000000 = true
    · have hR2 : Hid (boundV (a - b) = (a - b, true)) := hid (by unfold boundV; rw [if_pos hin])
      go_enter Tryz.func184, Tryz.ntmps184
      go_wp2_with (first | (go_at_call 83; refine (implwithin_any _ _ _ _).mono ?_; rintro e w8 ⟨rfl, hw8⟩; subst w8; rw [hin]))
      all_goals go_ret2
      all_goals exact ⟨by rw [hR.out, hR2.out]; exact two_end (by first | rfl | (unfold wrap64; omega) | (simp_all; done) | (rw [hwm]; done)) rfl, rfl⟩
    · have hR2 : Hid (boundV (a - b) = (0, false)) := hid (by unfold boundV; rw [if_neg hin])
      have hin : inB (a - b) (-1000000000) 1000000000 = false := by simpa using hin
      go_enter Tryz.func184, Tryz.ntmps184
      go_wp2_with (first | (go_at_call 83; refine (implwithin_any _ _ _ _).mono ?_; rintro e w8 ⟨rfl, hw8⟩; subst w8; rw [hin]))
      all_goals go_ret2
      all_goals exact ⟨by rw [hR.out, hR2.out]; exact two_end (by first | rfl | (unfold wrap64; omega) | (simp_all; done) | (rw [hwm]; done)) rfl, rfl⟩
  by_cases h57 : op = 57
  · subst h57
    have hR : Hid (combV 57 a b = boundV (a * b)) := hid (by unfold combV; rw [combO_57])
    generalize hTT : combV 57 a b = TT at hR ⊢
    clear hTT
    by_cases hin : inB (a * b) (-1000000000) 1000000000 = true
    · have hR2 : Hid (boundV (a * b) = (a * b, true)) := hid (by unfold boundV; rw [if_pos hin])
      go_enter Tryz.func184, Tryz.ntmps184
      go_wp2_with (first | (go_at_call 83; refine (implwithin_any _ _ _ _).mono ?_; rintro e w8 ⟨rfl, hw8⟩; subst w8; rw [hin]))
      all_goals go_ret2
      all_goals exact ⟨by rw [hR.out, hR2.out]; exact two_end (by first | rfl | (unfold wrap64; omega) | (simp_all; done) | (rw [hwm]; done)) rfl, rfl⟩
    · have hR2 : Hid (boundV (a * b) = (0, false)) := hid (by unfold boundV; rw [if_neg hin])
      have hin : inB (a * b) (-1000000000) 1000000000 = false := by simpa using hin
      go_enter Tryz.func184, Tryz.ntmps184
      go_wp2_with (first | (go_at_call 83; refine (implwithin_any _ _ _ _).mono ?_; rintro e w8 ⟨rfl, hw8⟩; subst w8; rw [hin]))
      all_goals go_ret2
      all_goals exact ⟨by rw [hR.out, hR2.out]; exact two_end (by first | rfl | (unfold wrap64; omega) | (simp_all; done) | (rw [hwm]; done)) rfl, rfl⟩
  by_cases h59 : op = 59
  · subst h59
    by_cases hb0 : b = 0
    · subst hb0
      have hR : Hid (combV 59 a 0 = (0, false)) := hid rfl
      generalize hTT : combV 59 a 0 = TT at hR ⊢
      clear hTT
      go_enter Tryz.func184, Tryz.ntmps184
      go_wp2
      go_ret2
      exact ⟨by rw [hR.out]; rfl, rfl⟩
    · have hb0b : (b == 0) = false := by simpa using hb0
      have htm := tmod_fine ha hb0
      have ht1 := htm.1
      have ht2 := htm.2
      have hwt : IntKind.wrap .i64 (a.tmod b) = a.tmod b := wrapI (by omega)
      have hR : Hid (combV 59 a b = boundV (a.tmod b)) := hid (by unfold combV; rw [combO_59, if_neg hb0])
      generalize hTT : combV 59 a b = TT at hR ⊢
      clear hTT
      by_cases hin : inB (a.tmod b) (-1000000000) 1000000000 = true
      · have hR2 : Hid (boundV (a.tmod b) = (a.tmod b, true)) := hid (by unfold boundV; rw [if_pos hin])
        go_enter Tryz.func184, Tryz.ntmps184
        go_wp2_with (first | (go_at_call 83; refine (implwithin_any _ _ _ _).mono ?_; rintro e w8 ⟨rfl, hw8⟩; subst w8; rw [hin]))
        all_goals go_ret2
        all_goals exact ⟨by rw [hR.out, hR2.out]; exact two_end (by first | rfl | (unfold wrap64; omega) | (simp_all; done) | (rw [hwm]; done)) rfl, rfl⟩
      · have hR2 : Hid (boundV (a.tmod b) = (0, false)) := hid (by unfold boundV; rw [if_neg hin])
        have hin : inB (a.tmod b) (-1000000000) 1000000000 = false := by simpa using hin
        go_enter Tryz.func184, Tryz.ntmps184
        go_wp2_with (first | (go_at_call 83; refine (implwithin_any _ _ _ _).mono ?_; rintro e w8 ⟨rfl, hw8⟩; subst w8; rw [hin]))
        all_goals go_ret2
        all_goals exact ⟨by rw [hR.out, hR2.out]; exact two_end (by first | rfl | (unfold wrap64; omega) | (simp_all; done) | (rw [hwm]; done)) rfl, rfl⟩
  by_cases h63 : op = 63
  · subst h63
    have hR : Hid (combV 63 a b = boundV (flagI (decide (a < b)))) := hid (by unfold combV; rw [combO_63])
    generalize hTT : combV 63 a b = TT at hR ⊢
    clear hTT
    have hfi := flagI_fine
    have hin : Hid (∀ c : Bool, inB (flagI c) (-1000000000) 1000000000 = true) := hid (fun c => by unfold inB; have := flagI_fine c; simp; omega)
    go_enter Tryz.func184, Tryz.ntmps184
    go_wp2_with (first | (go_at_call 142; refine (implflag_any _ _).mono ?_; rintro e w9 ⟨rfl, hw9⟩; subst w9) | (go_at_call 83; refine (implwithin_any _ _ _ _).mono ?_; rintro e w8 ⟨rfl, hw8⟩; subst w8; rw [hin.out]))
    all_goals go_ret2
    all_goals exact ⟨by rw [hR.out]; unfold boundV; rw [if_pos (hin.out _)]; exact two_end (by first | rfl | (simp_all; done)) rfl, rfl⟩
  by_cases h48 : op = 48
  · subst h48
    have hR : Hid (combV 48 a b = boundV (flagI (decide (a ≤ b)))) := hid (by unfold combV; rw [combO_48])
    generalize hTT : combV 48 a b = TT at hR ⊢
    clear hTT
    have hfi := flagI_fine
    have hin : Hid (∀ c : Bool, inB (flagI c) (-1000000000) 1000000000 = true) := hid (fun c => by unfold inB; have := flagI_fine c; simp; omega)
    go_enter Tryz.func184, Tryz.ntmps184
    go_wp2_with (first | (go_at_call 142; refine (implflag_any _ _).mono ?_; rintro e w9 ⟨rfl, hw9⟩; subst w9) | (go_at_call 83; refine (implwithin_any _ _ _ _).mono ?_; rintro e w8 ⟨rfl, hw8⟩; subst w8; rw [hin.out]))
    all_goals go_ret2
    all_goals exact ⟨by rw [hR.out]; unfold boundV; rw [if_pos (hin.out _)]; exact two_end (by first | rfl | (simp_all; done)) rfl, rfl⟩
  by_cases h47 : op = 47
  · subst h47
    have hR : Hid (combV 47 a b = boundV (flagI (a == b))) := hid (by unfold combV; rw [combO_47])
    generalize hTT : combV 47 a b = TT at hR ⊢
    clear hTT
    have hfi := flagI_fine
    have hin : Hid (∀ c : Bool, inB (flagI c) (-1000000000) 1000000000 = true) := hid (fun c => by unfold inB; have := flagI_fine c; simp; omega)
    go_enter Tryz.func184, Tryz.ntmps184
    go_wp2_with (first | (go_at_call 142; refine (implflag_any _ _).mono ?_; rintro e w9 ⟨rfl, hw9⟩; subst w9) | (go_at_call 83; refine (implwithin_any _ _ _ _).mono ?_; rintro e w8 ⟨rfl, hw8⟩; subst w8; rw [hin.out]))
    all_goals go_ret2
    all_goals exact ⟨by rw [hR.out]; unfold boundV; rw [if_pos (hin.out _)]; exact two_end (by first | rfl | (simp_all; done)) rfl, rfl⟩
  by_cases h50 : op = 50
  · subst h50
    have hR : Hid (combV 50 a b = boundV (flagI (a != b))) := hid (by unfold combV; rw [combO_50])
    generalize hTT : combV 50 a b = TT at hR ⊢
    clear hTT
    have hfi := flagI_fine
    have hin : Hid (∀ c : Bool, inB (flagI c) (-1000000000) 1000000000 = true) := hid (fun c => by unfold inB; have := flagI_fine c; simp; omega)
    go_enter Tryz.func184, Tryz.ntmps184
    go_wp2_with (first | (go_at_call 142; refine (implflag_any _ _).mono ?_; rintro e w9 ⟨rfl, hw9⟩; subst w9) | (go_at_call 83; refine (implwithin_any _ _ _ _).mono ?_; rintro e w8 ⟨rfl, hw8⟩; subst w8; rw [hin.out]))
    all_goals go_ret2
    all_goals exact ⟨by rw [hR.out]; unfold boundV; rw [if_pos (hin.out _)]; exact two_end (by first | rfl | (simp_all; done)) rfl, rfl⟩
  by_cases h62 : op = 62
  · subst h62
    have hR : Hid (combV 62 a b = boundV (flagI (decide (a > b)))) := hid (by unfold combV; rw [combO_62])
    generalize hTT : combV 62 a b = TT at hR ⊢
    clear hTT
    have hfi := flagI_fine
    have hin : Hid (∀ c : Bool, inB (flagI c) (-1000000000) 1000000000 = true) := hid (fun c => by unfold inB; have := flagI_fine c; simp; omega)
    go_enter Tryz.func184, Tryz.ntmps184
    go_wp2_with (first | (go_at_call 142; refine (implflag_any _ _).mono ?_; rintro e w9 ⟨rfl, hw9⟩; subst w9) | (go_at_call 83; refine (implwithin_any _ _ _ _).mono ?_; rintro e w8 ⟨rfl, hw8⟩; subst w8; rw [hin.out]))
    all_goals go_ret2
    all_goals exact ⟨by rw [hR.out]; unfold boundV; rw [if_pos (hin.out _)]; exact two_end (by first | rfl | (simp_all; done)) rfl, rfl⟩
  by_cases h49 : op = 49
  · subst h49
    have hR : Hid (combV 49 a b = boundV (flagI (decide (a ≥ b)))) := hid (by unfold combV; rw [combO_49])
    generalize hTT : combV 49 a b = TT at hR ⊢
    clear hTT
    have hfi := flagI_fine
    have hin : Hid (∀ c : Bool, inB (flagI c) (-1000000000) 1000000000 = true) := hid (fun c => by unfold inB; have := flagI_fine c; simp; omega)
    go_enter Tryz.func184, Tryz.ntmps184
    go_wp2_with (first | (go_at_call 142; refine (implflag_any _ _).mono ?_; rintro e w9 ⟨rfl, hw9⟩; subst w9) | (go_at_call 83; refine (implwithin_any _ _ _ _).mono ?_; rintro e w8 ⟨rfl, hw8⟩; subst w8; rw [hin.out]))
    all_goals go_ret2
    all_goals exact ⟨by rw [hR.out]; unfold boundV; rw [if_pos (hin.out _)]; exact two_end (by first | rfl | (simp_all; done)) rfl, rfl⟩
  have hR : Hid (combV op a b = (0, false)) := hid (by unfold combV; rw [combO_no a b ⟨h55, h56, h57, h59, h63, h48, h47, h50, h62, h49⟩])
  generalize hTT : combV op a b = TT at hR ⊢
  clear hTT
  have g55 : (op == 55) = false := by simpa using h55
  have g56 : (op == 56) = false := by simpa using h56
  have g57 : (op == 57) = false := by simpa using h57
  have g59 : (op == 59) = false := by simpa using h59
  have g63 : (op == 63) = false := by simpa using h63
  have g48 : (op == 48) = false := by simpa using h48
  have g47 : (op == 47) = false := by simpa using h47
  have g50 : (op == 50) = false := by simpa using h50
  have g62 : (op == 62) = false := by simpa using h62
  have g49 : (op == 49) = false := by simpa using h49
  clear h55 h56 h57 h59 h63 h48 h47 h50 h62 h49
  go_enter Tryz.func184, Tryz.ntmps184
  go_wp2
  go_ret2
  exact ⟨by rw [hR.out]; rfl, rfl⟩

end Go.Proofs.YtmemgmcopnaogaaGreatDoor
/- Walks and lemmas of this seat (FEvalS): what each theorem says of the functions that it names. Conditions: those that each theorem states. -/
namespace Go.Proofs.YtmemgmcopnaogaaGreatDoor
set_option linter.unusedVariables false
set_option linter.unusedSimpArgs false
open Go.RowKit Go.Lib

/-- What l27At makes of what l27Node says. -/
def atV (p : Int × Bool) : Int × Bool := if p.2 = true ∧ inB p.1 (-1000000000) 1000000000 = true then (p.1, true) else (0, false)
theorem atV_no (v : Int) : atV (v, false) = (0, false) := by unfold atV; rw [if_neg (by simp)]
theorem atV_yes {v : Int} (h : -1000000000 ≤ v ∧ v ≤ 1000000000) : atV (v, true) = (v, true) := by unfold atV; rw [if_pos ⟨rfl, by unfold inB; simp; omega⟩]
theorem atV_bound (v : Int) : atV (v, true) = boundV v := by unfold atV boundV; simp
theorem atV_fine {p : Int × Bool} (h : FineV p) : atV p = p := by
  obtain ⟨v, b⟩ := p
  cases b
  · rw [atV_no]; rw [show v = 0 from h.2 rfl]
  · exact atV_yes (h.1 rfl)
/-- What the node's contract says: a value that At makes the node's. -/
def RawPost (w : World) (r : Int × Bool) (e : Ending) (w' : World) : Prop := ∃ p : Int × Bool, e = pairEnd p.1 p.2 ∧ atV p = r ∧ Below w.heap.size w w'
theorem nodeV_1 (env : List Bind) (o : Int) (s : ByteArray) (vs : List (Int × Bool)) : nodeV env 1 o s vs = boundV (varOf s env) := rfl
theorem nodeV_2 (env : List Bind) (o : Int) (s : ByteArray) (vs : List (Int × Bool)) : nodeV env 2 o s vs = (numV s, numB s) := rfl
theorem nodeV_11 (env : List Bind) (o : Int) (s : ByteArray) (vs : List (Int × Bool)) : nodeV env 11 o s vs = unV o (vs.getD 0 (0, false)) := rfl
theorem nodeV_14 (env : List Bind) (o : Int) (s : ByteArray) (vs : List (Int × Bool)) : nodeV env 14 o s vs = (if (vs.getD 0 (0, false)).2 = false then (0, false) else if (vs.getD 0 (0, false)).1 = 0 then vs.getD 2 (0, false) else vs.getD 1 (0, false)) := rfl
theorem nodeV_12 (env : List Bind) (o : Int) (s : ByteArray) (vs : List (Int × Bool)) : nodeV env 12 o s vs = binV o (vs.getD 0 (0, false)) (vs.getD 1 (0, false)) := rfl
theorem nodeV_no (env : List Bind) {k : Int} (o : Int) (s : ByteArray) (vs : List (Int × Bool)) (h : k ≠ 1 ∧ k ≠ 2 ∧ k ≠ 11 ∧ k ≠ 14 ∧ k ≠ 12) : nodeV env k o s vs = (0, false) := by
  obtain ⟨h1, h2, h3, h4, h5⟩ := h
  unfold nodeV
  rw [if_neg h1, if_neg h2, if_neg h3, if_neg h4, if_neg h5]
theorem getD_kid (F : Int → Int × Bool) {ks : List Int} {j : Nat} {k : Int} (h : ks[j]? = some k) : (ks.map F).getD j (0, false) = F k := by rw [List.getD_eq_getElem?_getD, List.getElem?_map, h]; rfl
theorem getD_tree (F : Tree → Int × Bool) {ks : List Tree} {j : Nat} {k : Tree} (h : ks[j]? = some k) : (ks.map F).getD j (0, false) = F k := by rw [List.getD_eq_getElem?_getD, List.getElem?_map, h]; rfl
theorem unV_no (o v : Int) : unV o (v, false) = (0, false) := by unfold unV; rw [if_pos rfl]
theorem unV_56 (v : Int) : unV 56 (v, true) = (-v, true) := rfl
theorem unV_61 (v : Int) : unV 61 (v, true) = (flagI (decide (v = 0)), true) := rfl
theorem unV_id {o : Int} (v : Int) (h1 : o ≠ 56) (h2 : o ≠ 61) : unV o (v, true) = (v, true) := by unfold unV; rw [if_neg (by simp), if_neg h1, if_neg h2]
theorem binV_no (o v : Int) (b : Int × Bool) : binV o (v, false) b = (0, false) := by unfold binV; rw [if_pos rfl]
/-- A logical operator. -/
def lazyV (o : Int) (a b : Int × Bool) : Int × Bool := if a.2 = false then (0, false) else if (decide (a.1 ≠ 0)) = (decide (o = 44)) then (flagI (decide (a.1 ≠ 0)), true) else if b.2 = false then (0, false) else (flagI (decide (b.1 ≠ 0)), true)
theorem binV_lazy {o : Int} (h : o = 45 ∨ o = 44) (a b : Int × Bool) : binV o a b = lazyV o a b := by unfold binV lazyV; rw [if_pos h]
theorem binV_comb {o : Int} (h : ¬ (o = 45 ∨ o = 44)) (a c : Int) : binV o (a, true) (c, true) = combV o a c := by unfold binV; rw [if_neg (by simp), if_neg h, if_neg (by simp)]
theorem binV_comb2 {o : Int} (h : ¬ (o = 45 ∨ o = 44)) (a c : Int) : binV o (a, true) (c, false) = (0, false) := by unfold binV; rw [if_neg (by simp), if_neg h, if_pos rfl]
theorem two_comb (o a b : Int) : atV (twoV o a b) = combV o a b := by
  unfold twoV combV
  cases combO o a b with
  | none => exact atV_no 0
  | some v => exact atV_bound v

/-- What a node's kids say, in memory: kid k has the value F k. -/
def KidsV (v0 venv : Value) (ks : List Int) (F : Int → Int × Bool) (w : World) : Prop := ∀ k ∈ ks, FineV (F k) ∧ ∀ W, Below w.heap.size w W → Calls Tryz.prog 154 #[v0, .int .i64 k, venv] W fun e w' => e = pairEnd (F k).1 (F k).2 ∧ Below W.heap.size W w'

set_option maxRecDepth 100000 in
set_option maxHeartbeats 3200000 in
theorem specl27Lazy_any (n : Node) (v0 venv : Value) (ka : Option Addr) (kc : Nat) (F : Int → Int × Bool) (w : World) (h0 : ∃ a m c, v0 = .slice a m c) (h1 : ∃ a m c, venv = .slice a m c) (hkd : Slc w (.slice ka n.kids.length kc) 1 n.kids.length (n.kids.flatMap int1)) (hK : KidsV v0 venv n.kids F w) (h2 : 2 ≤ n.kids.length) (hop : n.op = 45 ∨ n.op = 44) :
    Calls Tryz.prog 239 #[v0, .agg #[.int .i64 n.kind, .int .i64 n.op, .string n.text, .string n.other, .slice ka n.kids.length kc], venv] w fun e w' => RawPost w (lazyV n.op ((n.kids.map F).getD 0 (0, false)) ((n.kids.map F).getD 1 (0, false))) e w' := by
  obtain ⟨va, vn, vc, rfl⟩ := h0
  obtain ⟨ea, en, ec, rfl⟩ := h1
  obtain ⟨k0, hk0⟩ := get_of_lt (show 0 < n.kids.length by omega)
  obtain ⟨k1, hk1⟩ := get_of_lt (show 1 < n.kids.length by omega)
  rw [getD_kid F hk0, getD_kid F hk1]
  obtain ⟨f0, K0⟩ := hK k0 (List.mem_of_getElem? hk0)
  obtain ⟨f1, K1⟩ := hK k1 (List.mem_of_getElem? hk1)
  obtain ⟨_, _, _, hve, hkc, hkm, hkrow⟩ := hkd
  simp at hve
  obtain ⟨rfl, rfl⟩ := hve
  unfold maxLen at hkm
  obtain ⟨kb, koff, rfl, hkro⟩ := slc_some hkrow (by omega)
  have D0 := hkro.one int1_len hk0 rfl
  have D1 := hkro.one int1_len hk1 rfl
  rw [Nat.add_zero] at D0
  have d0 := fun o => keepc ((Below.refl w.heap.size w).alloc (Nat.le_refl _) o) D0
  replace K0 := hid K0
  replace K1 := hid K1
  generalize F k0 = p0 at *
  generalize F k1 = p1 at *
  obtain ⟨a0, b0⟩ := p0
  obtain ⟨a1, b1⟩ := p1
  have hKl : (1 : Int) < (n.kids.length : Int) := by omega
  have hKl0 : (0 : Int) < (n.kids.length : Int) := by omega
  generalize n.kids.length = K at *
  clear hK hk0 hk1 hkrow hkro
  cases b0
  · have hR : Hid (lazyV n.op (a0, false) (a1, b1) = (0, false)) := hid (by unfold lazyV; rw [if_pos rfl])
    go_enter Tryz.func239, Tryz.ntmps239
    go_wp2_with (go_at_call 154; refine (K0.out _ (by repeat (first | exact Below.refl _ _ | refine Below.alloc ?_ (by first | omega | (simp; done) | (simp; omega)) _ | refine Below.drew ?_))).mono ?_; rintro e w3 ⟨he, hb3⟩; unfold pairEnd at he; subst he)
    go_ret2
    exact ⟨(0, false), rfl, by rw [hR.out]; exact atV_no 0, (by repeat (first | exact Below.refl _ _ | refine Below.alloc ?_ (by first | omega | (simp; done) | (simp; omega)) _ | refine Below.drew ?_) : Below w.heap.size w _).trans (hb3.mono (by simp))⟩
  · by_cases hz : (decide (a0 ≠ 0)) = (decide (n.op = 44))
    · have hR : Hid (lazyV n.op (a0, true) (a1, b1) = (flagI (decide (a0 ≠ 0)), true)) := hid (by unfold lazyV; rw [if_neg (by simp), if_pos hz])
      by_cases ha : a0 = 0
      · subst ha
        have hop2 : n.op = 45 := by
          rcases hop with h | h
          · exact h
          · rw [h] at hz; simp at hz
        rw [hop2] at hR ⊢
        go_enter Tryz.func239, Tryz.ntmps239
        go_wp2_with (first | (go_at_call 154; refine (K0.out _ (by repeat (first | exact Below.refl _ _ | refine Below.alloc ?_ (by first | omega | (simp; done) | (simp; omega)) _ | refine Below.drew ?_))).mono ?_; rintro e w3 ⟨he, hb3⟩; unfold pairEnd at he; subst he; have hbx := (hb3.block w.heap.size (by simp)).trans (heap_alloc_new w _); obtain ⟨s0, s1, s2, s3, s4⟩ := box_cells hbx) | (go_at_call 238; refine (specl27Bool_any _ _).mono ?_; rintro e w' ⟨rfl, hw9⟩; subst w'))
        go_ret2
        exact ⟨(0, true), rfl, by rw [hR.out]; exact atV_yes (by omega), (by repeat (first | exact Below.refl _ _ | refine Below.alloc ?_ (by first | omega | (simp; done) | (simp; omega)) _ | refine Below.drew ?_) : Below w.heap.size w _).trans (hb3.mono (by simp))⟩
      · have hop2 : n.op = 44 := by
          rcases hop with h | h
          · rw [h] at hz; simp [ha] at hz
          · exact h
        rw [hop2] at hR ⊢
        have ha2 : (a0 == 0) = false := by simpa using ha
        have ha3 : (a0 != 0) = true := by simpa using ha
        go_enter Tryz.func239, Tryz.ntmps239
        go_wp2_with (first | (go_at_call 154; refine (K0.out _ (by repeat (first | exact Below.refl _ _ | refine Below.alloc ?_ (by first | omega | (simp; done) | (simp; omega)) _ | refine Below.drew ?_))).mono ?_; rintro e w3 ⟨he, hb3⟩; unfold pairEnd at he; subst he; have hbx := (hb3.block w.heap.size (by simp)).trans (heap_alloc_new w _); obtain ⟨s0, s1, s2, s3, s4⟩ := box_cells hbx) | (go_at_call 238; refine (specl27Bool_any _ _).mono ?_; rintro e w' ⟨rfl, hw9⟩; subst w'))
        go_ret2
        exact ⟨(1, true), by simp [flagI, ha, pairEnd], by rw [hR.out]; simp [flagI, ha, atV_yes], (by repeat (first | exact Below.refl _ _ | refine Below.alloc ?_ (by first | omega | (simp; done) | (simp; omega)) _ | refine Below.drew ?_) : Below w.heap.size w _).trans (hb3.mono (by simp))⟩
    · have hR : Hid (lazyV n.op (a0, true) (a1, b1) = if b1 = false then (0, false) else (flagI (decide (a1 ≠ 0)), true)) := hid (by unfold lazyV; rw [if_neg (by simp), if_neg hz])
      by_cases ha : a0 = 0
      · subst ha
        have hop2 : n.op = 44 := by
          rcases hop with h | h
          · rw [h] at hz; simp at hz
          · exact h
        rw [hop2] at hR ⊢
        go_enter Tryz.func239, Tryz.ntmps239
        go_wp2_with fail
        refine (K0.out _ (by repeat (first | exact Below.refl _ _ | refine Below.alloc ?_ (by first | omega | (simp; done) | (simp; omega)) _ | refine Below.drew ?_))).mono ?_; rintro e w3 ⟨he, hb3⟩
        unfold pairEnd at he; subst he
        have hbx := (hb3.block w.heap.size (by simp)).trans (heap_alloc_new w _)
        obtain ⟨s0, s1, s2, s3, s4⟩ := box_cells hbx
        have hB3 : Below w.heap.size w w3 := (by repeat (first | exact Below.refl _ _ | refine Below.alloc ?_ (by first | omega | (simp; done) | (simp; omega)) _ | refine Below.drew ?_) : Below w.heap.size w _).trans (hb3.mono (by simp))
        have d1 := keepc hB3 D1
        go_wp2_with fail
        refine (K1.out _ hB3).mono ?_; rintro e w5 ⟨he, hb5⟩
        unfold pairEnd at he; subst he
        have hB5 := hB3.trans (hb5.mono hB3.size)
        cases b1
        · obtain rfl : a1 = 0 := f1.2 rfl
          go_wp2_with (go_at_call 238; refine (specl27Bool_any _ _).mono ?_; rintro e w' ⟨rfl, hw9⟩; subst w')
          go_ret2
          exact ⟨(0, false), rfl, by rw [hR.out]; exact atV_no 0, hB5⟩
        · by_cases hz1 : a1 = 0
          · subst hz1
            go_wp2_with (go_at_call 238; refine (specl27Bool_any _ _).mono ?_; rintro e w' ⟨rfl, hw9⟩; subst w')
            go_ret2
            exact ⟨(0, true), rfl, by rw [hR.out]; exact atV_yes (by omega), hB5⟩
          · have hz2 : (a1 == 0) = false := by simpa using hz1
            have hz3 : (a1 != 0) = true := by simpa using hz1
            go_wp2_with (go_at_call 238; refine (specl27Bool_any _ _).mono ?_; rintro e w' ⟨rfl, hw9⟩; subst w')
            go_ret2
            exact ⟨(1, true), by simp [flagI, hz1, pairEnd], by rw [hR.out]; simp [flagI, hz1, atV_yes], hB5⟩
      · have hop2 : n.op = 45 := by
          rcases hop with h | h
          · exact h
          · rw [h] at hz; simp [ha] at hz
        rw [hop2] at hR ⊢
        have ha2 : (a0 == 0) = false := by simpa using ha
        have ha3 : (a0 != 0) = true := by simpa using ha
        go_enter Tryz.func239, Tryz.ntmps239
        go_wp2_with fail
        refine (K0.out _ (by repeat (first | exact Below.refl _ _ | refine Below.alloc ?_ (by first | omega | (simp; done) | (simp; omega)) _ | refine Below.drew ?_))).mono ?_; rintro e w3 ⟨he, hb3⟩
        unfold pairEnd at he; subst he
        have hbx := (hb3.block w.heap.size (by simp)).trans (heap_alloc_new w _)
        obtain ⟨s0, s1, s2, s3, s4⟩ := box_cells hbx
        have hB3 : Below w.heap.size w w3 := (by repeat (first | exact Below.refl _ _ | refine Below.alloc ?_ (by first | omega | (simp; done) | (simp; omega)) _ | refine Below.drew ?_) : Below w.heap.size w _).trans (hb3.mono (by simp))
        have d1 := keepc hB3 D1
        go_wp2_with fail
        refine (K1.out _ hB3).mono ?_; rintro e w5 ⟨he, hb5⟩
        unfold pairEnd at he; subst he
        have hB5 := hB3.trans (hb5.mono hB3.size)
        cases b1
        · obtain rfl : a1 = 0 := f1.2 rfl
          go_wp2_with (go_at_call 238; refine (specl27Bool_any _ _).mono ?_; rintro e w' ⟨rfl, hw9⟩; subst w')
          go_ret2
          exact ⟨(0, false), rfl, by rw [hR.out]; exact atV_no 0, hB5⟩
        · by_cases hz1 : a1 = 0
          · subst hz1
            go_wp2_with (go_at_call 238; refine (specl27Bool_any _ _).mono ?_; rintro e w' ⟨rfl, hw9⟩; subst w')
            go_ret2
            exact ⟨(0, true), rfl, by rw [hR.out]; exact atV_yes (by omega), hB5⟩
          · have hz2 : (a1 == 0) = false := by simpa using hz1
            have hz3 : (a1 != 0) = true := by simpa using hz1
            go_wp2_with (go_at_call 238; refine (specl27Bool_any _ _).mono ?_; rintro e w' ⟨rfl, hw9⟩; subst w')
            go_ret2
            exact ⟨(1, true), by simp [flagI, hz1, pairEnd], by rw [hR.out]; simp [flagI, hz1, atV_yes], hB5⟩
end Go.Proofs.YtmemgmcopnaogaaGreatDoor
/- Walks and lemmas of this seat (FEvalN): what each theorem says of the functions that it names. Conditions: those that each theorem states. -/
namespace Go.Proofs.YtmemgmcopnaogaaGreatDoor
set_option linter.unusedVariables false
set_option linter.unusedSimpArgs false
open Go.RowKit Go.Lib

theorem fine_abs {p : Int × Bool} (h : FineV p) : -1000000000 ≤ p.1 ∧ p.1 ≤ 1000000000 := by
  obtain ⟨v, b⟩ := p
  cases b
  · rw [show v = 0 from h.2 rfl]; simp
  · exact h.1 rfl

set_option maxRecDepth 100000 in
set_option maxHeartbeats 6400000 in
theorem specl27Node_any (n : Node) (v0 venv : Value) (ka : Option Addr) (kc : Nat) (env : List Bind) (F : Int → Int × Bool) (w : World) (h0 : ∃ a m c, v0 = .slice a m c) (henv : Slc w venv 2 env.length (env.flatMap Bind.cells)) (hxe : ∀ x ∈ env, x.Ok) (hne : bulk Bind.sizes env ≤ 1048576) (ht : n.text.size ≤ 1048576)
    (hkd : Slc w (.slice ka n.kids.length kc) 1 n.kids.length (n.kids.flatMap int1)) (hK : KidsV v0 venv n.kids F w) (hk11 : n.kind = 11 → 1 ≤ n.kids.length) (hk14 : n.kind = 14 → 3 ≤ n.kids.length) (hk12 : n.kind = 12 → 2 ≤ n.kids.length) :
    Calls Tryz.prog 204 #[v0, .agg #[.int .i64 n.kind, .int .i64 n.op, .string n.text, .string n.other, .slice ka n.kids.length kc], venv] w fun e w' => RawPost w (nodeV env n.kind n.op n.text (n.kids.map F)) e w' := by
  have h1 : ∃ a m c, venv = .slice a m c := by obtain ⟨_, a, c, e, _⟩ := henv; exact ⟨a, _, c, e⟩
  have hvar := hid fun W (hb : Below w.heap.size w W) => specVarOf_any env venv n.text W hxe hne (henv.mono hb (Nat.le_refl _)) ht
  have hnum := hid fun W => specNumeral_any n.text W ht
  have hlazy := hid fun W (hb : Below w.heap.size w W) (hop : n.op = 45 ∨ n.op = 44) (h2 : 2 ≤ n.kids.length) => specl27Lazy_any n v0 venv ka kc F W h0 h1 (hkd.mono hb (Nat.le_refl _)) (fun k hk => ⟨(hK k hk).1, fun W2 hb2 => (hK k hk).2 W2 (hb.trans (hb2.mono hb.size))⟩) h2 hop
  obtain ⟨va, vn, vc, rfl⟩ := h0
  obtain ⟨ea, en, ec, rfl⟩ := h1
  obtain ⟨_, _, _, hve, hkc, hkm, hkrow⟩ := hkd
  simp at hve
  obtain ⟨rfl, rfl⟩ := hve
  unfold maxLen at hkm
  clear henv
  by_cases hk1 : n.kind = 1
  · have hR : Hid (nodeV env n.kind n.op n.text (n.kids.map F) = boundV (varOf n.text env)) := hid (by rw [hk1, nodeV_1])
    generalize nodeV env n.kind n.op n.text (n.kids.map F) = ans at hR ⊢
    generalize varOf n.text env = vv at hR hvar
    rw [hk1]
    clear hk1 hk11 hk12 hk14 hK hkrow
    go_enter Tryz.func204, Tryz.ntmps204
    go_wp2_with fail
    refine (hvar.out _ (by repeat (first | exact Below.refl _ _ | refine Below.alloc ?_ (by first | omega | (simp; done) | (simp; omega)) _ | refine Below.drew ?_))).mono ?_; rintro e w3 ⟨rfl, hb3⟩
    go_wp2
    go_ret2
    exact ⟨(vv, true), rfl, by rw [hR.out]; exact atV_bound vv, (by repeat (first | exact Below.refl _ _ | refine Below.alloc ?_ (by first | omega | (simp; done) | (simp; omega)) _ | refine Below.drew ?_) : Below w.heap.size w _).trans (hb3.mono (by simp))⟩
  by_cases hk2 : n.kind = 2
  · have hR : Hid (nodeV env n.kind n.op n.text (n.kids.map F) = (numV n.text, numB n.text)) := hid (by rw [hk2, nodeV_2])
    have hF := hid (FineV.num n.text)
    generalize nodeV env n.kind n.op n.text (n.kids.map F) = ans at hR ⊢
    rw [hk2]
    clear hk1 hk2 hk11 hk12 hk14 hK hkrow
    go_enter Tryz.func204, Tryz.ntmps204
    go_wp2_with fail
    refine (hnum.out _).mono ?_; rintro e w3 ⟨he, hb3⟩
    rw [numeralEnd_eq] at he
    unfold pairEnd at he; subst he
    generalize numV n.text = nv at hR hF ⊢
    generalize numB n.text = nb at hR hF ⊢
    go_wp2
    go_ret2
    exact ⟨(nv, nb), rfl, by rw [hR.out]; exact atV_fine hF.out, (by repeat (first | exact Below.refl _ _ | refine Below.alloc ?_ (by first | omega | (simp; done) | (simp; omega)) _ | refine Below.drew ?_) : Below w.heap.size w _).trans (hb3.mono (by simp))⟩
  by_cases hk3 : n.kind = 11
  · have hkl := hk11 hk3
    obtain ⟨k0, hk0⟩ := get_of_lt (show 0 < n.kids.length by omega)
    have hR : nodeV env n.kind n.op n.text (n.kids.map F) = unV n.op (F k0) := by rw [hk3, nodeV_11, getD_kid F hk0]
    obtain ⟨f0, K0⟩ := hK k0 (List.mem_of_getElem? hk0)
    obtain ⟨kb, koff, rfl, hkro⟩ := slc_some hkrow (by omega)
    have D0 := hkro.one int1_len hk0 rfl
    rw [Nat.add_zero] at D0
    have d0 := fun o => keepc ((Below.refl w.heap.size w).alloc (Nat.le_refl _) o) D0
    replace K0 := hid K0
    generalize nodeV env n.kind n.op n.text (n.kids.map F) = ans at hR ⊢
    generalize F k0 = p0 at *
    obtain ⟨a0, b0⟩ := p0
    have hKl0 : (0 : Int) < (n.kids.length : Int) := by omega
    have ab := fine_abs f0
    simp only at ab
    have ab1 := ab.1
    have ab2 := ab.2
    rw [hk3]
    clear hk1 hk2 hk3 hk11 hk12 hk14 hK hkrow hkro hk0
    go_enter Tryz.func204, Tryz.ntmps204
    go_wp2_with fail
    refine (K0.out _ (by repeat (first | exact Below.refl _ _ | refine Below.alloc ?_ (by first | omega | (simp; done) | (simp; omega)) _ | refine Below.drew ?_))).mono ?_; rintro e w3 ⟨he, hb3⟩
    unfold pairEnd at he; subst he
    have hbx := (hb3.block w.heap.size (by simp)).trans (heap_alloc_new w _)
    obtain ⟨s0, s1, s2, s3, s4⟩ := box_cells hbx
    have hB3 : Below w.heap.size w w3 := (by repeat (first | exact Below.refl _ _ | refine Below.alloc ?_ (by first | omega | (simp; done) | (simp; omega)) _ | refine Below.drew ?_) : Below w.heap.size w _).trans (hb3.mono (by simp))
    cases b0
    · obtain rfl : a0 = 0 := f0.2 rfl
      have hR2 : Hid (ans = (0, false)) := hid (by rw [hR, unV_no])
      clear hR
      by_cases h61 : n.op = 61
      · simp only [h61] at s1
        go_wp2_with (go_at_call 238; refine (specl27Bool_any _ _).mono ?_; rintro e w' ⟨rfl, hw9⟩; subst w')
        go_ret2
        exact ⟨(0, false), rfl, by rw [hR2.out]; exact atV_no 0, hB3⟩
      · have h61b : (n.op == 61) = false := by simpa using h61
        by_cases h56 : n.op = 56
        · simp only [h56] at s1
          go_wp2
          go_ret2
          exact ⟨(0, false), rfl, by rw [hR2.out]; exact atV_no 0, hB3⟩
        · have h56b : (n.op == 56) = false := by simpa using h56
          go_wp2
          go_ret2
          exact ⟨(0, false), rfl, by rw [hR2.out]; exact atV_no 0, hB3⟩
    · by_cases h61 : n.op = 61
      · simp only [h61] at s1
        have hR2 : Hid (ans = (flagI (decide (a0 = 0)), true)) := hid (by rw [hR, h61, unV_61])
        clear hR
        by_cases hz1 : a0 = 0
        · subst hz1
          go_wp2_with (go_at_call 238; refine (specl27Bool_any _ _).mono ?_; rintro e w' ⟨rfl, hw9⟩; subst w')
          go_ret2
          exact ⟨(1, true), rfl, by rw [hR2.out]; exact atV_yes (by omega), hB3⟩
        · have hz2 : (a0 == 0) = false := by simpa using hz1
          go_wp2_with (go_at_call 238; refine (specl27Bool_any _ _).mono ?_; rintro e w' ⟨rfl, hw9⟩; subst w')
          go_ret2
          exact ⟨(0, true), rfl, by rw [hR2.out]; simp [flagI, hz1, atV_yes], hB3⟩
      · have h61b : (n.op == 61) = false := by simpa using h61
        by_cases h56 : n.op = 56
        · simp only [h56] at s1
          have hR2 : Hid (ans = (-a0, true)) := hid (by rw [hR, h56, unV_56])
          clear hR
          have hwn : IntKind.wrap .i64 (-a0) = -a0 := wrapI (by omega)
          go_wp2
          go_ret2
          exact ⟨(-a0, true), two_end (by first | rfl | (unfold wrap64; omega)) rfl, by rw [hR2.out]; exact atV_yes (by omega), hB3⟩
        · have h56b : (n.op == 56) = false := by simpa using h56
          have hR2 : Hid (ans = (a0, true)) := hid (by rw [hR, unV_id _ h56 h61])
          clear hR
          go_wp2
          go_ret2
          exact ⟨(a0, true), rfl, by rw [hR2.out]; exact atV_yes (by omega), hB3⟩
  by_cases hk4 : n.kind = 14
  · have hkl := hk14 hk4
    obtain ⟨k0, hk0⟩ := get_of_lt (show 0 < n.kids.length by omega)
    obtain ⟨k1, hk1'⟩ := get_of_lt (show 1 < n.kids.length by omega)
    obtain ⟨k2, hk2'⟩ := get_of_lt (show 2 < n.kids.length by omega)
    have hR : nodeV env n.kind n.op n.text (n.kids.map F) = if (F k0).2 = false then (0, false) else if (F k0).1 = 0 then F k2 else F k1 := by rw [hk4, nodeV_14, getD_kid F hk0, getD_kid F hk1', getD_kid F hk2']
    obtain ⟨f0, K0⟩ := hK k0 (List.mem_of_getElem? hk0)
    obtain ⟨f1, K1⟩ := hK k1 (List.mem_of_getElem? hk1')
    obtain ⟨f2, K2⟩ := hK k2 (List.mem_of_getElem? hk2')
    obtain ⟨kb, koff, rfl, hkro⟩ := slc_some hkrow (by omega)
    have D0 := hkro.one int1_len hk0 rfl
    have D1 := hkro.one int1_len hk1' rfl
    have D2 := hkro.one int1_len hk2' rfl
    rw [Nat.add_zero] at D0
    have d0 := fun o => keepc ((Below.refl w.heap.size w).alloc (Nat.le_refl _) o) D0
    replace K0 := hid K0
    replace K1 := hid K1
    replace K2 := hid K2
    generalize nodeV env n.kind n.op n.text (n.kids.map F) = ans at hR ⊢
    generalize F k0 = p0 at *
    generalize F k1 = p1 at *
    generalize F k2 = p2 at *
    obtain ⟨a0, b0⟩ := p0
    have hKl0 : (0 : Int) < (n.kids.length : Int) := by omega
    have hKl1 : (1 : Int) < (n.kids.length : Int) := by omega
    have hKl2 : (2 : Int) < (n.kids.length : Int) := by omega
    rw [hk4]
    clear hk1 hk2 hk3 hk4 hk11 hk12 hk14 hK hkrow hkro hk0 hk1' hk2'
    go_enter Tryz.func204, Tryz.ntmps204
    go_wp2_with fail
    refine (K0.out _ (by repeat (first | exact Below.refl _ _ | refine Below.alloc ?_ (by first | omega | (simp; done) | (simp; omega)) _ | refine Below.drew ?_))).mono ?_; rintro e w3 ⟨he, hb3⟩
    unfold pairEnd at he; subst he
    have hbx := (hb3.block w.heap.size (by simp)).trans (heap_alloc_new w _)
    obtain ⟨s0, s1, s2, s3, s4⟩ := box_cells hbx
    have hB3 : Below w.heap.size w w3 := (by repeat (first | exact Below.refl _ _ | refine Below.alloc ?_ (by first | omega | (simp; done) | (simp; omega)) _ | refine Below.drew ?_) : Below w.heap.size w _).trans (hb3.mono (by simp))
    have e1 := keepc hB3 D1
    have e2 := keepc hB3 D2
    cases b0
    · obtain rfl : a0 = 0 := f0.2 rfl
      have hR2 : Hid (ans = (0, false)) := hid (by rw [hR]; rfl)
      clear hR
      go_wp2
      go_ret2
      exact ⟨(0, false), rfl, by rw [hR2.out]; exact atV_no 0, hB3⟩
    · by_cases hz1 : a0 = 0
      · subst hz1
        have hR2 : Hid (ans = p2) := hid (by rw [hR]; rfl)
        clear hR
        obtain ⟨a2, b2⟩ := p2
        go_wp2_with fail
        refine (K2.out _ hB3).mono ?_; rintro e w5 ⟨he, hb5⟩
        unfold pairEnd at he; subst he
        go_wp2
        go_ret2
        exact ⟨(a2, b2), rfl, by rw [hR2.out]; exact atV_fine f2, hB3.trans (hb5.mono hB3.size)⟩
      · have hz2 : (a0 == 0) = false := by simpa using hz1
        have hz3 : (a0 != 0) = true := by simpa using hz1
        have hR2 : Hid (ans = p1) := hid (by rw [hR, if_neg (by simp), if_neg hz1])
        clear hR
        obtain ⟨a1, b1⟩ := p1
        go_wp2_with fail
        refine (K1.out _ hB3).mono ?_; rintro e w5 ⟨he, hb5⟩
        unfold pairEnd at he; subst he
        go_wp2
        go_ret2
        exact ⟨(a1, b1), rfl, by rw [hR2.out]; exact atV_fine f1, hB3.trans (hb5.mono hB3.size)⟩
  by_cases hk5 : n.kind = 12
  · have hkl := hk12 hk5
    obtain ⟨k0, hk0⟩ := get_of_lt (show 0 < n.kids.length by omega)
    obtain ⟨k1, hk1'⟩ := get_of_lt (show 1 < n.kids.length by omega)
    have hR : nodeV env n.kind n.op n.text (n.kids.map F) = binV n.op (F k0) (F k1) := by rw [hk5, nodeV_12, getD_kid F hk0, getD_kid F hk1']
    by_cases hop : n.op = 45 ∨ n.op = 44
    · have hl2 := hid fun W hb => hlazy.out W hb hop hkl
      rw [getD_kid F hk0, getD_kid F hk1', ← binV_lazy hop, ← hR] at hl2
      generalize nodeV env n.kind n.op n.text (n.kids.map F) = ans at hl2 ⊢
      rw [hk5] at hl2 ⊢
      clear hk1 hk2 hk3 hk4 hk5 hk11 hk12 hk14 hK hkrow hk0 hk1' hR hlazy
      rcases hop with h | h
      all_goals (
        rw [h] at hl2 ⊢
        go_enter Tryz.func204, Tryz.ntmps204
        go_wp2_with fail
        refine (hl2.out _ (by repeat (first | exact Below.refl _ _ | refine Below.alloc ?_ (by first | omega | (simp; done) | (simp; omega)) _ | refine Below.drew ?_))).mono ?_; rintro e w3 ⟨p, he, hat, hb3⟩
        obtain ⟨pv, pb⟩ := p
        unfold pairEnd at he; subst he
        go_wp2
        go_ret2
        exact ⟨(pv, pb), rfl, hat, (by repeat (first | exact Below.refl _ _ | refine Below.alloc ?_ (by first | omega | (simp; done) | (simp; omega)) _ | refine Below.drew ?_) : Below w.heap.size w _).trans (hb3.mono (by simp))⟩)
    · have h45 : (n.op == 45) = false := by simp; omega
      have h44 : (n.op == 44) = false := by simp; omega
      obtain ⟨f0, K0⟩ := hK k0 (List.mem_of_getElem? hk0)
      obtain ⟨f1, K1⟩ := hK k1 (List.mem_of_getElem? hk1')
      obtain ⟨kb, koff, rfl, hkro⟩ := slc_some hkrow (by omega)
      have D0 := hkro.one int1_len hk0 rfl
      have D1 := hkro.one int1_len hk1' rfl
      rw [Nat.add_zero] at D0
      have d0 := fun o => keepc ((Below.refl w.heap.size w).alloc (Nat.le_refl _) o) D0
      replace K0 := hid K0
      replace K1 := hid K1
      generalize nodeV env n.kind n.op n.text (n.kids.map F) = ans at hR ⊢
      generalize F k0 = p0 at *
      generalize F k1 = p1 at *
      obtain ⟨a0, b0⟩ := p0
      obtain ⟨a1, b1⟩ := p1
      have hKl0 : (0 : Int) < (n.kids.length : Int) := by omega
      have hKl1 : (1 : Int) < (n.kids.length : Int) := by omega
      have htwo := hid fun W => specl27Two_any n.op a0 a1 W (fine_abs f0) (fine_abs f1)
      have hcomb := hid (two_comb n.op a0 a1)
      replace hR := hid hR
      rw [hk5]
      clear hk1 hk2 hk3 hk4 hk5 hk11 hk12 hk14 hK hkrow hkro hk0 hk1' hlazy f0 f1
      go_enter Tryz.func204, Tryz.ntmps204
      go_wp2_with fail
      refine (K0.out _ (by repeat (first | exact Below.refl _ _ | refine Below.alloc ?_ (by first | omega | (simp; done) | (simp; omega)) _ | refine Below.drew ?_))).mono ?_; rintro e w3 ⟨he, hb3⟩
      unfold pairEnd at he; subst he
      have hbx := (hb3.block w.heap.size (by simp)).trans (heap_alloc_new w _)
      obtain ⟨s0, s1, s2, s3, s4⟩ := box_cells hbx
      have hB3 : Below w.heap.size w w3 := (by repeat (first | exact Below.refl _ _ | refine Below.alloc ?_ (by first | omega | (simp; done) | (simp; omega)) _ | refine Below.drew ?_) : Below w.heap.size w _).trans (hb3.mono (by simp))
      have e1 := keepc hB3 D1
      go_wp2_with fail
      refine (K1.out _ hB3).mono ?_; rintro e w5 ⟨he, hb5⟩
      unfold pairEnd at he; subst he
      have hbx5 := (hb5.block w.heap.size (Array.getElem?_eq_some_iff.1 hbx).1).trans hbx
      obtain ⟨t0, t1, t2, t3, t4⟩ := box_cells hbx5
      have hB5 := hB3.trans (hb5.mono hB3.size)
      go_wp2_with fail
      refine (htwo.out _).mono ?_; rintro e w6 ⟨he, hw6⟩
      subst w6
      generalize twoV n.op a0 a1 = tt at he hcomb
      obtain ⟨tv, tb⟩ := tt
      unfold pairEnd at he; subst he
      cases b0
      · have hR2 : Hid (ans = (0, false)) := hid (by rw [hR.out, binV_no])
        cases tb <;> (
          go_wp2
          go_ret2
          exact ⟨(tv, false), rfl, by rw [hR2.out]; exact atV_no tv, hB5⟩)
      · cases b1
        · have hR2 : Hid (ans = (0, false)) := hid (by rw [hR.out, binV_comb2 hop])
          cases tb <;> (
            go_wp2
            go_ret2
            exact ⟨(tv, false), rfl, by rw [hR2.out]; exact atV_no tv, hB5⟩)
        · have hR2 : Hid (ans = combV n.op a0 a1) := hid (by rw [hR.out, binV_comb hop])
          cases tb <;> (
            go_wp2
            go_ret2
            exact ⟨(tv, _), rfl, by rw [hR2.out, ← hcomb.out], hB5⟩)
  have hR : Hid (nodeV env n.kind n.op n.text (n.kids.map F) = (0, false)) := hid (nodeV_no _ _ _ _ ⟨hk1, hk2, hk3, hk4, hk5⟩)
  generalize nodeV env n.kind n.op n.text (n.kids.map F) = ans at hR ⊢
  have g1 : (n.kind == 1) = false := by simpa using hk1
  have g2 : (n.kind == 2) = false := by simpa using hk2
  have g3 : (n.kind == 11) = false := by simpa using hk3
  have g4 : (n.kind == 14) = false := by simpa using hk4
  have g5 : (n.kind == 12) = false := by simpa using hk5
  clear hk1 hk2 hk3 hk4 hk5 hk11 hk12 hk14 hK hkrow
  go_enter Tryz.func204, Tryz.ntmps204
  go_wp2
  go_ret2
  exact ⟨(0, false), rfl, by rw [hR.out]; exact atV_no 0, by repeat (first | exact Below.refl _ _ | refine Below.alloc ?_ (by first | omega | (simp; done) | (simp; omega)) _ | refine Below.drew ?_)⟩
end Go.Proofs.YtmemgmcopnaogaaGreatDoor
/- Walks and lemmas of this seat (FEvalA): what each theorem says of the functions that it names. Conditions: those that each theorem states. -/
namespace Go.Proofs.YtmemgmcopnaogaaGreatDoor
set_option linter.unusedVariables false
set_option linter.unusedSimpArgs false
open Go.RowKit Go.Lib

/-- How many kids a node of a valid tree has. -/
theorem kids_least {x : Node} (h : nodeFields x = true) : (x.kind = 11 → 1 ≤ x.kids.length) ∧ (x.kind = 14 → 3 ≤ x.kids.length) ∧ (x.kind = 12 → 2 ≤ x.kids.length) := by
  have h1 := fields_kids h
  refine ⟨fun hk => ?_, fun hk => ?_, fun hk => ?_⟩ <;> (rw [hk] at h1; simp [inB, most, least] at h1; omega)
theorem ev_at {l : List Node} (h : Ahead l) (env : List Bind) {i : Nat} {x : Node} (hx : l[i]? = some x) : (treeIx l i).ev env = nodeV env x.kind x.op x.text (x.kids.map fun k => (treeIx l k.toNat).ev env) := by
  rw [treeIx_eq h hx, Tree.ev_eq]
  show nodeV env x.kind x.op x.text ((x.kids.map fun k => treeIx l k.toNat).map (Tree.ev env)) = _
  rw [List.map_map]
  rfl

set_option maxRecDepth 100000 in
set_option maxHeartbeats 3200000 in
theorem specl27At_any (l0 : List Node) (v0 : Value) (w0 : World) (hv00 : NodeSlc w0 v0 l0) (hx0 : ∀ x ∈ l0, x.Ok) (hn0 : bulk Node.sizes l0 ≤ 1048576) (hok : treeOk l0 = true) (env : List Bind) (venv : Value) (henv : Slc w0 venv 2 env.length (env.flatMap Bind.cells)) (hxe : ∀ x ∈ env, x.Ok) (hne : bulk Bind.sizes env ≤ 1048576) :
    ∀ (i : Nat), i < l0.length → ∀ (w : World), Below w0.heap.size w0 w → Calls Tryz.prog 154 #[v0, .int .i64 i, venv] w fun e w' => e = pairEnd ((treeIx l0 i).ev env).1 ((treeIx l0 i).ev env).2 ∧ Below w.heap.size w w' := by
  have h0 : ∃ a m c, v0 = .slice a m c := by obtain ⟨a, c, e, _⟩ := hv00.shape; exact ⟨a, _, c, e⟩
  have h1 : ∃ a m c, venv = .slice a m c := by obtain ⟨_, a, c, e, _⟩ := henv; exact ⟨a, _, c, e⟩
  have ha := shapeOk_ahead (treeOk_shape hok)
  obtain ⟨a, cap, rfl, hm, hc, hsl⟩ := hv00.shape
  obtain ⟨ea, en, ec, rfl⟩ := h1
  intro i
  induction i using Nat.strongRecOn with
  | _ i ih =>
  intro hi w hbw
  obtain ⟨x, ka, kc, b, off, hx, rfl, C0, C1, C2, C3, C4, hkd⟩ := hsl.at hbw (Nat.le_refl _) hi
  have hev := ev_at ha env hx
  obtain ⟨l11, l14, l12⟩ := kids_least (treeOk_node hok (List.mem_of_getElem? hx)).1
  have hts := Nat.le_trans (bulk_mem Node.sizes (List.mem_of_getElem? hx)) hn0
  unfold Node.sizes at hts
  have hK : KidsV (.slice (some ⟨b, off, none⟩) l0.length cap) (.slice ea en ec) x.kids (fun k => (treeIx l0 k.toNat).ev env) w := fun k hk => by
    have hk2 := ha i x hx k hk
    refine ⟨Tree.ev_fine env _, fun W hb => ?_⟩
    have := ih k.toNat hk2.2 (by omega) W (hbw.trans (hb.mono hbw.size))
    rw [show ((k.toNat : Nat) : Int) = k by omega] at this
    exact this
  have hnode := hid (specl27Node_any x _ _ ka kc env (fun k => (treeIx l0 k.toNat).ev env) w h0 (henv.mono hbw (Nat.le_refl _)) hxe hne (by omega) hkd hK l11 l14 l12)
  rw [← hev] at hnode
  generalize (treeIx l0 i).ev env = ans at hnode ⊢
  have hil : (i : Int) < (l0.length : Int) := by omega
  clear hev hK ih hkd l11 l14 l12 henv h0
  replace hsl := hid hsl
  replace hv00 := hid hv00
  go_enter Tryz.func154, Tryz.ntmps154
  go_wp2_with fail
  refine hnode.out.mono ?_; rintro e w3 ⟨p, he, hat, hb3⟩
  obtain ⟨pv, pb⟩ := p
  unfold pairEnd at he; subst he
  cases pb
  · have hR : Hid (ans = (0, false)) := hid (by rw [← hat]; exact atV_no pv)
    clear hat
    go_wp2
    go_ret2
    exact ⟨by rw [hR.out]; rfl, hb3⟩
  · by_cases hin : inB pv (-1000000000) 1000000000 = true
    · have hR : Hid (ans = (pv, true)) := hid (by rw [← hat, atV_bound]; unfold boundV; rw [if_pos hin])
      clear hat
      go_wp2_with (go_at_call 90; refine (specl1In_any _ _ _ _).mono ?_; rintro e w' ⟨rfl, hw9⟩; subst w'; rw [hin])
      go_ret2
      exact ⟨by rw [hR.out]; rfl, hb3⟩
    · have hR : Hid (ans = (0, false)) := hid (by rw [← hat, atV_bound]; unfold boundV; rw [if_neg hin])
      have hin : inB pv (-1000000000) 1000000000 = false := by simpa using hin
      clear hat
      go_wp2_with (go_at_call 90; refine (specl1In_any _ _ _ _).mono ?_; rintro e w' ⟨rfl, hw9⟩; subst w'; rw [hin])
      go_ret2
      exact ⟨by rw [hR.out]; rfl, hb3⟩

theorem exprOk_tree {l : List Node} (h : exprOkB l = true) : treeOk l = true := by unfold exprOkB at h; simp only [Bool.and_eq_true] at h; exact h.1
set_option maxRecDepth 100000 in
set_option maxHeartbeats 3200000 in
theorem specEval_any (l0 : List Node) (v0 : Value) (l1 : List Bind) (v1 : Value) (w : World) (hx0 : ∀ x ∈ l0, x.Ok) (hn0 : bulk Node.sizes l0 ≤ 1048576) (hv0 : NodeSlc w v0 l0) (hx1 : ∀ x ∈ l1, x.Ok) (hn1 : bulk Bind.sizes l1 ≤ 1048576) (hv1 : Slc w v1 2 l1.length (l1.flatMap Bind.cells)) :
    Calls Tryz.prog 117 #[v0, v1] w fun e w' => e = pairEnd (evalV l0 l1).1 (evalV l0 l1).2 ∧ Below w.heap.size w w' := by
  have hv := hv0
  have h1 : ∃ a m c, v1 = .slice a m c := by obtain ⟨_, a, c, e, _⟩ := hv1; exact ⟨a, _, c, e⟩
  have hcall := specExprOk_any l0 v0 w hx0 hn0 hv0
  obtain ⟨ea, en, ec, rfl⟩ := h1
  obtain ⟨a, cap, rfl, hm, hc, hsl⟩ := hv0.shape
  by_cases hp : exprOkB l0 = true
  · have hok := exprOk_tree hp
    obtain ⟨h1, h2, _⟩ := shapeOk_yes (treeOk_shape hok)
    obtain ⟨n, hn⟩ : ∃ n : Nat, n = l0.length - 1 := ⟨_, rfl⟩
    have hnl : n < l0.length := by omega
    have hni : (l0.length : Int) - 1 = (n : Int) := by omega
    have hat := hid fun W (hb : Below w.heap.size w W) => specl27At_any l0 _ w hv hx0 hn0 hok l1 _ hv1 hx1 hn1 n hnl W hb
    have hR : Hid (evalV l0 l1 = (treeIx l0 n).ev l1) := hid (by unfold evalV rootTree; rw [if_pos hp, ← hn])
    generalize evalV l0 l1 = ans at hR ⊢
    generalize (treeIx l0 n).ev l1 = r at hat hR
    obtain ⟨rv, rb⟩ := r
    rw [hp] at hcall
    clear hp hok hn
    go_enter Tryz.func117, Tryz.ntmps117
    go_wp2_with fail
    refine hcall.mono ?_; rintro e w1 ⟨rfl, hb1⟩
    go_wp2_with fail
    refine (hat.out _ hb1).mono ?_; rintro e w2 ⟨he, hb2⟩
    unfold pairEnd at he; subst he
    go_wp2
    go_ret2
    exact ⟨by rw [hR.out]; rfl, hb1.trans (hb2.mono hb1.size)⟩
  · have hR : Hid (evalV l0 l1 = (0, false)) := hid (by unfold evalV; rw [if_neg hp])
    have hp : exprOkB l0 = false := by simpa using hp
    rw [hp] at hcall
    clear hp
    go_enter Tryz.func117, Tryz.ntmps117
    go_wp2_with fail
    refine hcall.mono ?_; rintro e w1 ⟨rfl, hb1⟩
    go_wp2
    go_ret2
    exact ⟨by rw [hR.out]; rfl, hb1⟩
end Go.Proofs.YtmemgmcopnaogaaGreatDoor
/- Walks and lemmas of this seat (FEvalI): what each theorem says of the functions that it names. Conditions: those that each theorem states. -/
namespace Go.Proofs.YtmemgmcopnaogaaGreatDoor
set_option linter.unusedVariables false
set_option linter.unusedSimpArgs false
open Go.RowKit Go.Lib

mutual
/-- Nodes with as many kids as their operators take. -/
def Tree.Wide : Tree → Prop
  | .mk k _ _ _ l => ((k = 11 → 1 ≤ l.length) ∧ (k = 14 → 3 ≤ l.length) ∧ (k = 12 → 2 ≤ l.length)) ∧ Tree.WideL l
def Tree.WideL : List Tree → Prop
  | [] => True
  | t :: l => t.Wide ∧ Tree.WideL l
end
theorem Tree.wide_eq (t : Tree) : t.Wide ↔ ((t.kind = 11 → 1 ≤ t.kids.length) ∧ (t.kind = 14 → 3 ≤ t.kids.length) ∧ (t.kind = 12 → 2 ≤ t.kids.length)) ∧ Tree.WideL t.kids := by cases t; rw [Tree.Wide]; rfl
theorem Tree.wideL_mem {l : List Tree} : Tree.WideL l ↔ ∀ t ∈ l, t.Wide := by
  induction l with
  | nil => simp [Tree.WideL]
  | cons t l ih => rw [Tree.WideL, ih]; simp
theorem treeIx_wide {l : List Node} (hok : treeOk l = true) : ∀ (i : Nat), i < l.length → (treeIx l i).Wide := by
  have h := shapeOk_ahead (treeOk_shape hok)
  intro i
  induction i using Nat.strongRecOn with
  | _ i ih =>
    intro hi
    obtain ⟨x, hxi⟩ := get_of_lt hi
    have hk := kids_least (treeOk_node hok (List.mem_of_getElem? hxi)).1
    rw [treeIx_eq h hxi, Tree.Wide, List.length_map]
    refine ⟨hk, Tree.wideL_mem.2 fun t ht => ?_⟩
    obtain ⟨k, hk, rfl⟩ := List.mem_map.1 ht
    have hk2 := h i x hxi k hk
    exact ih k.toNat hk2.2 (by omega)

/-- What a tree's kids say, in memory. -/
def KidsT (venv : Value) (q : List (Tree × Value)) (env : List Bind) (w : World) : Prop := ∀ p ∈ q, (∃ a n c, p.2 = .slice a n c) ∧ ∀ W, Below w.heap.size w W → Calls Tryz.prog 104 #[.agg #[.int .i64 p.1.kind, .int .i64 p.1.op, .string p.1.text, .string p.1.other, p.2], venv] W fun e w' => e = pairEnd (p.1.ev env).1 (p.1.ev env).2 ∧ Below W.heap.size W w'
theorem evs_at {q : List (Tree × Value)} {ts : List Tree} (hq : q.map Prod.fst = ts) (env : List Bind) {j : Nat} {p : Tree × Value} (h : q[j]? = some p) : (ts.map (Tree.ev env)).getD j (0, false) = p.1.ev env :=
  getD_tree _ (by rw [← hq, List.getElem?_map, h]; rfl)

set_option maxRecDepth 100000 in
set_option maxHeartbeats 6400000 in
theorem implevalBin_any (t : Tree) (ka : Option Addr) (kc : Nat) (venv : Value) (q : List (Tree × Value)) (env : List Bind) (w : World) (h1 : ∃ a m c, venv = .slice a m c) (hrow : Slc w (.slice ka q.length kc) 5 q.length (q.flatMap Tree.cells)) (hK : KidsT venv q env w) (h2 : 2 ≤ q.length) :
    Calls Tryz.prog 143 #[.agg #[.int .i64 t.kind, .int .i64 t.op, .string t.text, .string t.other, .slice ka q.length kc], venv] w fun e w' => ∃ r, e = pairEnd r.1 r.2 ∧ (∀ (p0 p1 : Tree × Value), q[0]? = some p0 → q[1]? = some p1 → r = binV t.op (p0.1.ev env) (p1.1.ev env)) ∧ Below w.heap.size w w' := by
  obtain ⟨ea, en, ec, rfl⟩ := h1
  obtain ⟨_, _, _, hve, hkc, hkm, hkrow⟩ := hrow
  simp at hve
  obtain ⟨rfl, rfl⟩ := hve
  unfold maxLen at hkm
  obtain ⟨kb, koff, rfl, hkro⟩ := hkrow.resolve_left (by omega)
  obtain ⟨⟨u0, uv0⟩, hu0⟩ := get_of_lt (show 0 < q.length by omega)
  obtain ⟨⟨ua0, un0, uc0, hus0⟩, K0⟩ := hK _ (List.mem_of_getElem? hu0)
  simp only at hus0 K0
  subst hus0
  have D00 := hkro.flat0 5 Tree.len hu0 rfl
  have D01 := hkro.flat 5 Tree.len hu0 1 rfl
  have D02 := hkro.flat 5 Tree.len hu0 2 rfl
  have D03 := hkro.flat 5 Tree.len hu0 3 rfl
  have D04 := hkro.flat 5 Tree.len hu0 4 rfl
  simp only [Nat.zero_mul, Nat.one_mul, Nat.add_zero, Nat.reduceMul] at D00 D01 D02 D03 D04
  obtain ⟨⟨u1, uv1⟩, hu1⟩ := get_of_lt (show 1 < q.length by omega)
  obtain ⟨⟨ua1, un1, uc1, hus1⟩, K1⟩ := hK _ (List.mem_of_getElem? hu1)
  simp only at hus1 K1
  subst hus1
  have D10 := hkro.flat0 5 Tree.len hu1 rfl
  have D11 := hkro.flat 5 Tree.len hu1 1 rfl
  have D12 := hkro.flat 5 Tree.len hu1 2 rfl
  have D13 := hkro.flat 5 Tree.len hu1 3 rfl
  have D14 := hkro.flat 5 Tree.len hu1 4 rfl
  simp only [Nat.zero_mul, Nat.one_mul, Nat.add_zero, Nat.reduceMul] at D10 D11 D12 D13 D14
  have d00 := fun o => keepc ((Below.refl w.heap.size w).alloc (Nat.le_refl _) o) D00
  have d01 := fun o => keepc ((Below.refl w.heap.size w).alloc (Nat.le_refl _) o) D01
  have d02 := fun o => keepc ((Below.refl w.heap.size w).alloc (Nat.le_refl _) o) D02
  have d03 := fun o => keepc ((Below.refl w.heap.size w).alloc (Nat.le_refl _) o) D03
  have d04 := fun o => keepc ((Below.refl w.heap.size w).alloc (Nat.le_refl _) o) D04
  have hfin : ∀ r, r = binV t.op (u0.ev env) (u1.ev env) → (∀ (p0 p1 : Tree × Value), q[0]? = some p0 → q[1]? = some p1 → r = binV t.op (p0.1.ev env) (p1.1.ev env)) := fun r hr p0 p1 e0 e1 => by
    rw [hu0] at e0; rw [hu1] at e1
    obtain rfl := Option.some.inj e0
    obtain rfl := Option.some.inj e1
    exact hr
  have f0 := u0.ev_fine env
  have f1 := u1.ev_fine env
  replace K0 := hid K0
  replace K1 := hid K1
  replace hfin := hid hfin
  generalize u0.ev env = p0 at *
  generalize u1.ev env = p1 at *
  obtain ⟨a0, b0⟩ := p0
  obtain ⟨a1, b1⟩ := p1
  have hKl0 : (0 : Int) < (q.length : Int) := by omega
  have hKl1 : (1 : Int) < (q.length : Int) := by omega
  have hcmb := hid fun (W : World) => implcombine_any t.op a0 a1 W (fine_abs f0) (fine_abs f1)
  clear hK hu0 hu1 hkrow hkro
  go_enter Tryz.func143, Tryz.ntmps143
  go_wp2_with fail
  refine (K0.out _ (by repeat (first | exact Below.refl _ _ | refine Below.alloc ?_ (by first | omega | (simp; done) | (simp; omega)) _ | refine Below.drew ?_))).mono ?_; rintro e w3 ⟨he, hb3⟩
  unfold pairEnd at he; subst he
  have hbx := (hb3.block w.heap.size (by simp)).trans (heap_alloc_new w _)
  obtain ⟨s0, s1, s2, s3, s4⟩ := box_cells hbx
  have hB3 : Below w.heap.size w w3 := (by repeat (first | exact Below.refl _ _ | refine Below.alloc ?_ (by first | omega | (simp; done) | (simp; omega)) _ | refine Below.drew ?_) : Below w.heap.size w _).trans (hb3.mono (by simp))
  have e10 := keepc hB3 D10
  have e11 := keepc hB3 D11
  have e12 := keepc hB3 D12
  have e13 := keepc hB3 D13
  have e14 := keepc hB3 D14
  cases b0
  · have hR : Hid (binV t.op (a0, false) (a1, b1) = (0, false)) := hid (binV_no _ _ _)
    go_wp2
    go_ret2
    exact ⟨(0, false), rfl, hfin.out _ hR.out.symm, hB3⟩
  by_cases hop : t.op = 45 ∨ t.op = 44
  · have hL := hid (binV_lazy hop (a0, true) (a1, b1))
    by_cases hz : (decide (a0 ≠ 0)) = (decide (t.op = 44))
    · have hR : Hid (binV t.op (a0, true) (a1, b1) = (flagI (decide (a0 ≠ 0)), true)) := hid (by rw [hL.out]; unfold lazyV; rw [if_neg (by simp), if_pos hz])
      by_cases ha : a0 = 0
      · subst ha
        have hop2 : t.op = 45 := by
          rcases hop with h | h
          · exact h
          · rw [h] at hz; simp at hz
        simp only [hop2] at s1
        go_wp2_with (go_at_call 142; refine (implflag_any _ _).mono ?_; rintro e w' ⟨rfl, hw9⟩; subst w')
        go_ret2
        exact ⟨(0, true), rfl, hfin.out _ (by rw [hR.out]; rfl), hB3⟩
      · have hop2 : t.op = 44 := by
          rcases hop with h | h
          · rw [h] at hz; simp [ha] at hz
          · exact h
        have ha2 : (a0 == 0) = false := by simpa using ha
        have ha3 : (a0 != 0) = true := by simpa using ha
        simp only [hop2] at s1
        go_wp2_with (go_at_call 142; refine (implflag_any _ _).mono ?_; rintro e w' ⟨rfl, hw9⟩; subst w')
        go_ret2
        exact ⟨(1, true), by simp [flagI, ha, pairEnd], hfin.out _ (by rw [hR.out]; simp [flagI, ha]), hB3⟩
    · have hR : Hid (binV t.op (a0, true) (a1, b1) = if b1 = false then (0, false) else (flagI (decide (a1 ≠ 0)), true)) := hid (by rw [hL.out]; unfold lazyV; rw [if_neg (by simp), if_neg hz])
      have hab : (a0 = 0 ∧ t.op = 44) ∨ (a0 ≠ 0 ∧ t.op = 45) := by
        rcases hop with h | h
        · refine .inr ⟨fun e => hz ?_, h⟩
          rw [h, e]; simp
        · refine .inl ⟨?_, h⟩
          by_cases e : a0 = 0
          · exact e
          · exact absurd (by rw [h]; simp [e]) hz
      have ha2 : (a0 == 0) = decide (t.op = 44) := by
        rcases hab with ⟨h1, h2⟩ | ⟨h1, h2⟩
        · rw [h1, h2]; rfl
        · rw [h2]; simp [h1]
      rcases hab with ⟨ha, hop2⟩ | ⟨ha, hop2⟩
      · subst ha
        simp only [hop2] at s1
        clear ha2
        go_wp2_with fail
        refine (K1.out _ hB3).mono ?_; rintro e w5 ⟨he, hb5⟩
        unfold pairEnd at he; subst he
        have hB5 := hB3.trans (hb5.mono hB3.size)
        cases b1
        · go_wp2
          go_ret2
          exact ⟨(0, false), rfl, hfin.out _ (by rw [hR.out]; rfl), hB5⟩
        · by_cases hz1 : a1 = 0
          · subst hz1
            go_wp2_with (go_at_call 142; refine (implflag_any _ _).mono ?_; rintro e w' ⟨rfl, hw9⟩; subst w')
            go_ret2
            exact ⟨(0, true), rfl, hfin.out _ (by rw [hR.out]; rfl), hB5⟩
          · have hz2 : (a1 == 0) = false := by simpa using hz1
            have hz3 : (a1 != 0) = true := by simpa using hz1
            go_wp2_with (go_at_call 142; refine (implflag_any _ _).mono ?_; rintro e w' ⟨rfl, hw9⟩; subst w')
            go_ret2
            exact ⟨(1, true), by simp [flagI, hz1, pairEnd], hfin.out _ (by rw [hR.out]; simp [flagI, hz1]), hB5⟩
      · have ha4 : (a0 == 0) = false := by simpa using ha
        have ha3 : (a0 != 0) = true := by simpa using ha
        simp only [hop2] at s1
        clear ha2
        go_wp2_with fail
        refine (K1.out _ hB3).mono ?_; rintro e w5 ⟨he, hb5⟩
        unfold pairEnd at he; subst he
        have hB5 := hB3.trans (hb5.mono hB3.size)
        cases b1
        · go_wp2
          go_ret2
          exact ⟨(0, false), rfl, hfin.out _ (by rw [hR.out]; rfl), hB5⟩
        · by_cases hz1 : a1 = 0
          · subst hz1
            go_wp2_with (go_at_call 142; refine (implflag_any _ _).mono ?_; rintro e w' ⟨rfl, hw9⟩; subst w')
            go_ret2
            exact ⟨(0, true), rfl, hfin.out _ (by rw [hR.out]; rfl), hB5⟩
          · have hz2 : (a1 == 0) = false := by simpa using hz1
            have hz3 : (a1 != 0) = true := by simpa using hz1
            go_wp2_with (go_at_call 142; refine (implflag_any _ _).mono ?_; rintro e w' ⟨rfl, hw9⟩; subst w')
            go_ret2
            exact ⟨(1, true), by simp [flagI, hz1, pairEnd], hfin.out _ (by rw [hR.out]; simp [flagI, hz1]), hB5⟩
  · have h45 : (t.op == 45) = false := by simp; omega
    have h44 : (t.op == 44) = false := by simp; omega
    go_wp2_with fail
    refine (K1.out _ hB3).mono ?_; rintro e w5 ⟨he, hb5⟩
    unfold pairEnd at he; subst he
    have hbx5 := (hb5.block w.heap.size (Array.getElem?_eq_some_iff.1 hbx).1).trans hbx
    obtain ⟨t0, t1, t2, t3, t4⟩ := box_cells hbx5
    have hB5 := hB3.trans (hb5.mono hB3.size)
    cases b1
    · have hR : Hid (binV t.op (a0, true) (a1, false) = (0, false)) := hid (binV_comb2 hop a0 a1)
      go_wp2
      go_ret2
      exact ⟨(0, false), rfl, hfin.out _ hR.out.symm, hB5⟩
    · have hR : Hid (binV t.op (a0, true) (a1, true) = combV t.op a0 a1) := hid (binV_comb hop a0 a1)
      go_wp2_with fail
      refine (hcmb.out _).mono ?_; rintro e w6 ⟨he, hw6⟩
      subst w6
      generalize combV t.op a0 a1 = tt at he hR
      obtain ⟨tv, tb⟩ := tt
      unfold pairEnd at he; subst he
      go_wp2
      go_ret2
      exact ⟨(tv, tb), rfl, hfin.out _ hR.out.symm, hB5⟩

set_option maxRecDepth 100000 in
set_option maxHeartbeats 6400000 in
theorem impleval_any (env : List Bind) (venv : Value) (hxe : ∀ x ∈ env, x.Ok) (hne : bulk Bind.sizes env ≤ 1048576) (n : Nat) : ∀ (t : Tree) (kv : Value) (w : World) (S : Nat → Prop), SizeOf.sizeOf t < n → t.weight ≤ 1048576 → t.Wide → TreeIs S w t kv → Slc w venv 2 env.length (env.flatMap Bind.cells) → NumEnv w →
    Calls Tryz.prog 104 #[.agg #[.int .i64 t.kind, .int .i64 t.op, .string t.text, .string t.other, kv], venv] w fun e w' => e = pairEnd (t.ev env).1 (t.ev env).2 ∧ Below w.heap.size w w' := by
  induction n with
  | zero => intro t kv w S h; omega
  | succ n ih =>
  intro t kv w S hsz hwt hwd htr henv hE
  have h1 : ∃ a m c, venv = .slice a m c := by obtain ⟨_, a, c, e, _⟩ := henv; exact ⟨a, _, c, e⟩
  obtain ⟨q, hq, hSl, hsub⟩ := htr.open
  have hrow := hSl.slc
  obtain ⟨⟨hk11, hk14, hk12⟩, hwl⟩ := t.wide_eq.1 hwd
  have hwe := t.weight_eq
  have hql : q.length = t.kids.length := by rw [← hq]; simp
  rw [← hql] at hk11 hk14 hk12
  have hK : KidsT venv q env w := fun p hp => by
    have hm : p.1 ∈ t.kids := by rw [← hq]; exact List.mem_map_of_mem hp
    have h3 := Tree.kid_lt hm
    have h4 := Tree.weightL_mem hm
    refine ⟨(hsub p hp).shape, fun W hb => ?_⟩
    exact ih p.1 p.2 W S (by omega) (by omega) (Tree.wideL_mem.1 hwl _ hm) ((hsub p hp).mono hb (Nat.le_refl _)) (henv.mono hb (Nat.le_refl _)) (hE.below hb)
  have hev := t.ev_eq env
  have hts : t.text.size ≤ 1048576 := by omega
  have hvar := hid fun W (hb : Below w.heap.size w W) => implVarOf_any env venv t.text W hxe hne (henv.mono hb (Nat.le_refl _)) hts
  have hnum := hid fun W (hb : Below w.heap.size w W) => implNumeral_any t.text W hts (hE.below hb)
  have hat := hid fun (j : Nat) (p : Tree × Value) (h : q[j]? = some p) => evs_at hq env h
  obtain ⟨_, ka, kc, rfl, hkc, hkm, hkrow⟩ := hrow
  have hbin := hid fun W (hb : Below w.heap.size w W) (h2 : 2 ≤ q.length) => implevalBin_any t ka kc venv q env W h1 (hSl.slc.mono hb (Nat.le_refl _)) (fun p hp => ⟨(hK p hp).1, fun W2 hb2 => (hK p hp).2 W2 (hb.trans (hb2.mono hb.size))⟩) h2
  obtain ⟨ea, en, ec, rfl⟩ := h1
  unfold maxLen at hkm
  clear henv hE hwd hwl htr hsub hSl ih hsz hwe hwt hql
  by_cases hk1 : t.kind = 1
  · have hR : Hid (t.ev env = boundV (varOf t.text env)) := hid (by rw [hev, hk1, nodeV_1])
    generalize t.ev env = ans at hR ⊢
    generalize varOf t.text env = vv at hR hvar
    rw [hk1]
    clear hk1 hk11 hk12 hk14 hK hkrow hev
    by_cases hin : inB vv (-1000000000) 1000000000 = true
    · have hR2 : Hid (ans = (vv, true)) := hid (by rw [hR.out]; unfold boundV; rw [if_pos hin])
      go_enter Tryz.func104, Tryz.ntmps104
      go_wp2_with (first | (go_at_call 141; refine (hvar.out _ (by repeat (first | exact Below.refl _ _ | refine Below.alloc ?_ (by first | omega | (simp; done) | (simp; omega)) _ | refine Below.drew ?_))).mono ?_; rintro e w3 ⟨rfl, hb3⟩) | (go_at_call 83; refine (implwithin_any _ _ _ _).mono ?_; rintro e w8 ⟨rfl, hw8⟩; subst w8; rw [hin]))
      go_ret2
      exact ⟨by rw [hR2.out]; rfl, (by repeat (first | exact Below.refl _ _ | refine Below.alloc ?_ (by first | omega | (simp; done) | (simp; omega)) _ | refine Below.drew ?_) : Below w.heap.size w _).trans (hb3.mono (by simp))⟩
    · have hR2 : Hid (ans = (0, false)) := hid (by rw [hR.out]; unfold boundV; rw [if_neg hin])
      have hin : inB vv (-1000000000) 1000000000 = false := by simpa using hin
      go_enter Tryz.func104, Tryz.ntmps104
      go_wp2_with (first | (go_at_call 141; refine (hvar.out _ (by repeat (first | exact Below.refl _ _ | refine Below.alloc ?_ (by first | omega | (simp; done) | (simp; omega)) _ | refine Below.drew ?_))).mono ?_; rintro e w3 ⟨rfl, hb3⟩) | (go_at_call 83; refine (implwithin_any _ _ _ _).mono ?_; rintro e w8 ⟨rfl, hw8⟩; subst w8; rw [hin]))
      go_ret2
      exact ⟨by rw [hR2.out]; rfl, (by repeat (first | exact Below.refl _ _ | refine Below.alloc ?_ (by first | omega | (simp; done) | (simp; omega)) _ | refine Below.drew ?_) : Below w.heap.size w _).trans (hb3.mono (by simp))⟩
  by_cases hk2 : t.kind = 2
  · have hR : Hid (t.ev env = (numV t.text, numB t.text)) := hid (by rw [hev, hk2, nodeV_2])
    generalize t.ev env = ans at hR ⊢
    rw [hk2]
    clear hk1 hk2 hk11 hk12 hk14 hK hkrow hev
    go_enter Tryz.func104, Tryz.ntmps104
    go_wp2_with fail
    refine (hnum.out _ (by repeat (first | exact Below.refl _ _ | refine Below.alloc ?_ (by first | omega | (simp; done) | (simp; omega)) _ | refine Below.drew ?_))).mono ?_; rintro e w3 ⟨he, hb3⟩
    rw [numeralEnd_eq] at he
    unfold pairEnd at he; subst he
    generalize numV t.text = nv at hR ⊢
    generalize numB t.text = nb at hR ⊢
    go_wp2
    go_ret2
    exact ⟨by rw [hR.out]; rfl, (by repeat (first | exact Below.refl _ _ | refine Below.alloc ?_ (by first | omega | (simp; done) | (simp; omega)) _ | refine Below.drew ?_) : Below w.heap.size w _).trans (hb3.mono (by simp))⟩
  by_cases hk3 : t.kind = 11
  · have hkl := hk11 hk3
    obtain ⟨kb, koff, rfl, hkro⟩ := hkrow.resolve_left (by omega)
    obtain ⟨⟨u0, uv0⟩, hu0⟩ := get_of_lt (show 0 < q.length by omega)
    obtain ⟨⟨ua0, un0, uc0, hus0⟩, K0⟩ := hK _ (List.mem_of_getElem? hu0)
    simp only at hus0 K0
    subst hus0
    have D00 := hkro.flat0 5 Tree.len hu0 rfl
    have D01 := hkro.flat 5 Tree.len hu0 1 rfl
    have D02 := hkro.flat 5 Tree.len hu0 2 rfl
    have D03 := hkro.flat 5 Tree.len hu0 3 rfl
    have D04 := hkro.flat 5 Tree.len hu0 4 rfl
    simp only [Nat.zero_mul, Nat.one_mul, Nat.add_zero, Nat.reduceMul] at D00 D01 D02 D03 D04
    have d00 := fun o => keepc ((Below.refl w.heap.size w).alloc (Nat.le_refl _) o) D00
    have d01 := fun o => keepc ((Below.refl w.heap.size w).alloc (Nat.le_refl _) o) D01
    have d02 := fun o => keepc ((Below.refl w.heap.size w).alloc (Nat.le_refl _) o) D02
    have d03 := fun o => keepc ((Below.refl w.heap.size w).alloc (Nat.le_refl _) o) D03
    have d04 := fun o => keepc ((Below.refl w.heap.size w).alloc (Nat.le_refl _) o) D04
    have hR : t.ev env = unV t.op (u0.ev env) := by rw [hev, hk3, nodeV_11, hat.out 0 _ hu0]
    have f0 := u0.ev_fine env
    replace K0 := hid K0
    generalize t.ev env = ans at hR ⊢
    generalize u0.ev env = p0 at *
    obtain ⟨a0, b0⟩ := p0
    have hKl0 : (0 : Int) < (q.length : Int) := by omega
    have ab := fine_abs f0
    simp only at ab
    have ab1 := ab.1
    have ab2 := ab.2
    rw [hk3]
    clear hk1 hk2 hk3 hk11 hk12 hk14 hK hkrow hkro hu0 hev
    go_enter Tryz.func104, Tryz.ntmps104
    go_wp2_with fail
    refine (K0.out _ (by repeat (first | exact Below.refl _ _ | refine Below.alloc ?_ (by first | omega | (simp; done) | (simp; omega)) _ | refine Below.drew ?_))).mono ?_; rintro e w3 ⟨he, hb3⟩
    unfold pairEnd at he; subst he
    have hbx := (hb3.block w.heap.size (by simp)).trans (heap_alloc_new w _)
    obtain ⟨s0, s1, s2, s3, s4⟩ := box_cells hbx
    have hB3 : Below w.heap.size w w3 := (by repeat (first | exact Below.refl _ _ | refine Below.alloc ?_ (by first | omega | (simp; done) | (simp; omega)) _ | refine Below.drew ?_) : Below w.heap.size w _).trans (hb3.mono (by simp))
    cases b0
    · have hR2 : Hid (ans = (0, false)) := hid (by rw [hR, unV_no])
      clear hR
      go_wp2
      go_ret2
      exact ⟨by rw [hR2.out]; rfl, hB3⟩
    · by_cases h61 : t.op = 61
      · simp only [h61] at s1
        have hR2 : Hid (ans = (flagI (decide (a0 = 0)), true)) := hid (by rw [hR, h61, unV_61])
        clear hR
        by_cases hz1 : a0 = 0
        · subst hz1
          go_wp2_with (go_at_call 142; refine (implflag_any _ _).mono ?_; rintro e w' ⟨rfl, hw9⟩; subst w')
          go_ret2
          exact ⟨by rw [hR2.out]; rfl, hB3⟩
        · have hz2 : (a0 == 0) = false := by simpa using hz1
          go_wp2_with (go_at_call 142; refine (implflag_any _ _).mono ?_; rintro e w' ⟨rfl, hw9⟩; subst w')
          go_ret2
          exact ⟨by rw [hR2.out]; simp [flagI, hz1, pairEnd], hB3⟩
      · have h61b : (t.op == 61) = false := by simpa using h61
        by_cases h56 : t.op = 56
        · simp only [h56] at s1
          have hR2 : Hid (ans = (-a0, true)) := hid (by rw [hR, h56, unV_56])
          clear hR
          have hwn : IntKind.wrap .i64 (-a0) = -a0 := wrapI (by omega)
          go_wp2
          go_ret2
          exact ⟨by rw [hR2.out]; exact two_end (by first | rfl | (unfold wrap64; omega)) rfl, hB3⟩
        · have h56b : (t.op == 56) = false := by simpa using h56
          have hR2 : Hid (ans = (a0, true)) := hid (by rw [hR, unV_id _ h56 h61])
          clear hR
          go_wp2
          go_ret2
          exact ⟨by rw [hR2.out]; rfl, hB3⟩
  by_cases hk4 : t.kind = 14
  · have hkl := hk14 hk4
    obtain ⟨kb, koff, rfl, hkro⟩ := hkrow.resolve_left (by omega)
    obtain ⟨⟨u0, uv0⟩, hu0⟩ := get_of_lt (show 0 < q.length by omega)
    obtain ⟨⟨ua0, un0, uc0, hus0⟩, K0⟩ := hK _ (List.mem_of_getElem? hu0)
    simp only at hus0 K0
    subst hus0
    have D00 := hkro.flat0 5 Tree.len hu0 rfl
    have D01 := hkro.flat 5 Tree.len hu0 1 rfl
    have D02 := hkro.flat 5 Tree.len hu0 2 rfl
    have D03 := hkro.flat 5 Tree.len hu0 3 rfl
    have D04 := hkro.flat 5 Tree.len hu0 4 rfl
    simp only [Nat.zero_mul, Nat.one_mul, Nat.add_zero, Nat.reduceMul] at D00 D01 D02 D03 D04
    obtain ⟨⟨u1, uv1⟩, hu1⟩ := get_of_lt (show 1 < q.length by omega)
    obtain ⟨⟨ua1, un1, uc1, hus1⟩, K1⟩ := hK _ (List.mem_of_getElem? hu1)
    simp only at hus1 K1
    subst hus1
    have D10 := hkro.flat0 5 Tree.len hu1 rfl
    have D11 := hkro.flat 5 Tree.len hu1 1 rfl
    have D12 := hkro.flat 5 Tree.len hu1 2 rfl
    have D13 := hkro.flat 5 Tree.len hu1 3 rfl
    have D14 := hkro.flat 5 Tree.len hu1 4 rfl
    simp only [Nat.zero_mul, Nat.one_mul, Nat.add_zero, Nat.reduceMul] at D10 D11 D12 D13 D14
    obtain ⟨⟨u2, uv2⟩, hu2⟩ := get_of_lt (show 2 < q.length by omega)
    obtain ⟨⟨ua2, un2, uc2, hus2⟩, K2⟩ := hK _ (List.mem_of_getElem? hu2)
    simp only at hus2 K2
    subst hus2
    have D20 := hkro.flat0 5 Tree.len hu2 rfl
    have D21 := hkro.flat 5 Tree.len hu2 1 rfl
    have D22 := hkro.flat 5 Tree.len hu2 2 rfl
    have D23 := hkro.flat 5 Tree.len hu2 3 rfl
    have D24 := hkro.flat 5 Tree.len hu2 4 rfl
    simp only [Nat.zero_mul, Nat.one_mul, Nat.add_zero, Nat.reduceMul] at D20 D21 D22 D23 D24
    have d00 := fun o => keepc ((Below.refl w.heap.size w).alloc (Nat.le_refl _) o) D00
    have d01 := fun o => keepc ((Below.refl w.heap.size w).alloc (Nat.le_refl _) o) D01
    have d02 := fun o => keepc ((Below.refl w.heap.size w).alloc (Nat.le_refl _) o) D02
    have d03 := fun o => keepc ((Below.refl w.heap.size w).alloc (Nat.le_refl _) o) D03
    have d04 := fun o => keepc ((Below.refl w.heap.size w).alloc (Nat.le_refl _) o) D04
    have hR : t.ev env = if (u0.ev env).2 = false then (0, false) else if (u0.ev env).1 = 0 then u2.ev env else u1.ev env := by rw [hev, hk4, nodeV_14, hat.out 0 _ hu0, hat.out 1 _ hu1, hat.out 2 _ hu2]
    replace K0 := hid K0
    replace K1 := hid K1
    replace K2 := hid K2
    generalize t.ev env = ans at hR ⊢
    generalize u0.ev env = p0 at *
    generalize u1.ev env = p1 at *
    generalize u2.ev env = p2 at *
    obtain ⟨a0, b0⟩ := p0
    have hKl0 : (0 : Int) < (q.length : Int) := by omega
    have hKl1 : (1 : Int) < (q.length : Int) := by omega
    have hKl2 : (2 : Int) < (q.length : Int) := by omega
    rw [hk4]
    clear hk1 hk2 hk3 hk4 hk11 hk12 hk14 hK hkrow hkro hu0 hu1 hu2 hev
    go_enter Tryz.func104, Tryz.ntmps104
    go_wp2_with fail
    refine (K0.out _ (by repeat (first | exact Below.refl _ _ | refine Below.alloc ?_ (by first | omega | (simp; done) | (simp; omega)) _ | refine Below.drew ?_))).mono ?_; rintro e w3 ⟨he, hb3⟩
    unfold pairEnd at he; subst he
    have hbx := (hb3.block w.heap.size (by simp)).trans (heap_alloc_new w _)
    obtain ⟨s0, s1, s2, s3, s4⟩ := box_cells hbx
    have hB3 : Below w.heap.size w w3 := (by repeat (first | exact Below.refl _ _ | refine Below.alloc ?_ (by first | omega | (simp; done) | (simp; omega)) _ | refine Below.drew ?_) : Below w.heap.size w _).trans (hb3.mono (by simp))
    have e10 := keepc hB3 D10
    have e11 := keepc hB3 D11
    have e12 := keepc hB3 D12
    have e13 := keepc hB3 D13
    have e14 := keepc hB3 D14
    have e20 := keepc hB3 D20
    have e21 := keepc hB3 D21
    have e22 := keepc hB3 D22
    have e23 := keepc hB3 D23
    have e24 := keepc hB3 D24
    cases b0
    · have hR2 : Hid (ans = (0, false)) := hid (by rw [hR]; rfl)
      clear hR
      go_wp2
      go_ret2
      exact ⟨by rw [hR2.out]; rfl, hB3⟩
    · by_cases hz1 : a0 = 0
      · subst hz1
        have hR2 : Hid (ans = p2) := hid (by rw [hR]; rfl)
        clear hR
        obtain ⟨a2, b2⟩ := p2
        go_wp2_with fail
        refine (K2.out _ hB3).mono ?_; rintro e w5 ⟨he, hb5⟩
        unfold pairEnd at he; subst he
        go_wp2
        go_ret2
        exact ⟨by rw [hR2.out]; rfl, hB3.trans (hb5.mono hB3.size)⟩
      · have hz2 : (a0 == 0) = false := by simpa using hz1
        have hz3 : (a0 != 0) = true := by simpa using hz1
        have hR2 : Hid (ans = p1) := hid (by rw [hR, if_neg (by simp), if_neg hz1])
        clear hR
        obtain ⟨a1, b1⟩ := p1
        go_wp2_with fail
        refine (K1.out _ hB3).mono ?_; rintro e w5 ⟨he, hb5⟩
        unfold pairEnd at he; subst he
        go_wp2
        go_ret2
        exact ⟨by rw [hR2.out]; rfl, hB3.trans (hb5.mono hB3.size)⟩
  by_cases hk5 : t.kind = 12
  · have hkl := hk12 hk5
    obtain ⟨p0, hu0⟩ := get_of_lt (show 0 < q.length by omega)
    obtain ⟨p1, hu1⟩ := get_of_lt (show 1 < q.length by omega)
    have hR : t.ev env = binV t.op (p0.1.ev env) (p1.1.ev env) := by rw [hev, hk5, nodeV_12, hat.out 0 _ hu0, hat.out 1 _ hu1]
    have hb2 := hid fun W hb => hbin.out W hb hkl
    have hfin := hid fun (r : Int × Bool) (h : ∀ (p0 p1 : Tree × Value), q[0]? = some p0 → q[1]? = some p1 → r = binV t.op (p0.1.ev env) (p1.1.ev env)) => show r = t.ev env by rw [h p0 p1 hu0 hu1, hR]
    generalize t.ev env = ans at hfin ⊢
    rw [hk5] at hb2 ⊢
    clear hk1 hk2 hk3 hk4 hk5 hk11 hk12 hk14 hK hkrow hev hR hbin hat hu0 hu1
    go_enter Tryz.func104, Tryz.ntmps104
    go_wp2_with fail
    refine (hb2.out _ (by repeat (first | exact Below.refl _ _ | refine Below.alloc ?_ (by first | omega | (simp; done) | (simp; omega)) _ | refine Below.drew ?_))).mono ?_; rintro e w3 ⟨r, he, hr, hb3⟩
    have hr2 := hid (hfin.out r hr)
    clear hr hfin
    obtain ⟨rv, rb⟩ := r
    unfold pairEnd at he; subst he
    go_wp2
    go_ret2
    exact ⟨by rw [← hr2.out]; rfl, (by repeat (first | exact Below.refl _ _ | refine Below.alloc ?_ (by first | omega | (simp; done) | (simp; omega)) _ | refine Below.drew ?_) : Below w.heap.size w _).trans (hb3.mono (by simp))⟩
  have hR : Hid (t.ev env = (0, false)) := hid (by rw [hev]; exact nodeV_no _ _ _ _ ⟨hk1, hk2, hk3, hk4, hk5⟩)
  generalize t.ev env = ans at hR ⊢
  have g1 : (t.kind == 1) = false := by simpa using hk1
  have g2 : (t.kind == 2) = false := by simpa using hk2
  have g3 : (t.kind == 11) = false := by simpa using hk3
  have g4 : (t.kind == 14) = false := by simpa using hk4
  have g5 : (t.kind == 12) = false := by simpa using hk5
  clear hk1 hk2 hk3 hk4 hk5 hk11 hk12 hk14 hK hkrow hev
  go_enter Tryz.func104, Tryz.ntmps104
  go_wp2
  go_ret2
  exact ⟨by rw [hR.out]; rfl, by repeat (first | exact Below.refl _ _ | refine Below.alloc ?_ (by first | omega | (simp; done) | (simp; omega)) _ | refine Below.drew ?_)⟩
/-- What the program's side of Eval reads: its words, and the library's table and errors. -/
def EvalEnv (w : World) : Prop := WordEnv w ∧ NumEnv w
theorem EvalEnv.below {w w' : World} (h : EvalEnv w) (hb : Below w.heap.size w w') : EvalEnv w' := ⟨h.1.below hb, h.2.below hb⟩
end Go.Proofs.YtmemgmcopnaogaaGreatDoor
