/- Walks and lemmas of this seat (FFormX): what each theorem says of the functions that it names. Conditions: those that each theorem states. -/
import Derived.Test.YtkelhmgdajiocaaGreatDoorGF
import Derived.Test.YtkelhmgdajiocaaGreatDoorFFormN2
import Derived.Test.YtkelhmgdajiocaaGreatDoorFFormN3
import Derived.Test.YtkelhmgdajiocaaGreatDoorFFormN4
import Derived.Test.YtkelhmgdajiocaaGreatDoorGST
import Derived.Test.YtkelhmgdajiocaaGreatDoorFStmtI
namespace Go.Proofs.YtkelhmgdajiocaaGreatDoor
set_option linter.unusedVariables false
set_option linter.unusedSimpArgs false
open Go.RowKit Go.Lib

theorem implexprForm_any (k op : Int) (text other : ByteArray) (ka : Option Addr) (kn kc : Nat) (w : World) (h0 : 1 ≤ k) (h1 : k ≤ 15) (ht : text.size ≤ 1048576) (hE : WordEnv w) : Calls Tryz.prog 142 #[.agg #[.int .i64 k, .int .i64 op, .string text, .string other, .slice ka kn kc]] w fun e w' => e = .returned (formV k op text other false) ∧ Below w.heap.size w w' := by
  rcases expr_cases h0 h1 with rfl | rfl | rfl | rfl | rfl | rfl | rfl | rfl | rfl | rfl | rfl | rfl | rfl | rfl | rfl
  · exact implexprForm_1 op text other ka kn kc w ht hE
  · exact implexprForm_2 op text other ka kn kc w ht hE
  · exact implexprForm_3 op text other ka kn kc w ht hE
  · exact implexprForm_4 op text other ka kn kc w ht hE
  · exact implexprForm_5 op text other ka kn kc w ht hE
  · exact implexprForm_6 op text other ka kn kc w ht hE
  · exact implexprForm_7 op text other ka kn kc w ht hE
  · exact implexprForm_8 op text other ka kn kc w ht hE
  · exact implexprForm_9 op text other ka kn kc w ht hE
  · exact implexprForm_10 op text other ka kn kc w ht hE
  · exact implexprForm_11 op text other ka kn kc w ht hE
  · exact implexprForm_12 op text other ka kn kc w ht hE
  · exact implexprForm_13 op text other ka kn kc w ht hE
  · exact implexprForm_14 op text other ka kn kc w ht hE
  · exact implexprForm_15 op text other ka kn kc w ht hE
end Go.Proofs.YtkelhmgdajiocaaGreatDoor
/- Walks and lemmas of this seat (FStmtX): what each theorem says of the functions that it names. Conditions: those that each theorem states. -/
namespace Go.Proofs.YtkelhmgdajiocaaGreatDoor
set_option linter.unusedVariables false
set_option linter.unusedSimpArgs false
open Go.RowKit Go.Lib

theorem implstmtForm_any (k : Int) (op : Int) (text other : ByteArray) (ka : Option Addr) (kn kc : Nat) (w : World) (h0 : 20 ≤ k) (h1 : k ≤ 34) (ht : text.size ≤ 1048576) (ho : other.size ≤ 1048576) (hE : WordEnv w) : Calls Tryz.prog 144 #[.agg #[.int .i64 k, .int .i64 op, .string text, .string other, .slice ka kn kc]] w fun e w' => e = .returned (formW k op text other) ∧ Below w.heap.size w w' := by
  rcases (show k = 20 ∨ k = 21 ∨ k = 22 ∨ k = 23 ∨ k = 24 ∨ k = 25 ∨ k = 26 ∨ k = 27 ∨ k = 28 ∨ k = 29 ∨ k = 30 ∨ k = 31 ∨ k = 32 ∨ k = 33 ∨ k = 34 by omega) with rfl | rfl | rfl | rfl | rfl | rfl | rfl | rfl | rfl | rfl | rfl | rfl | rfl | rfl | rfl
  · exact implstmtForm_20 op text other ka kn kc w ht ho hE
  · exact implstmtForm_21 op text other ka kn kc w ht ho hE
  · exact implstmtForm_22 op text other ka kn kc w ht ho hE
  · exact implstmtForm_23 op text other ka kn kc w ht ho hE
  · exact implstmtForm_24 op text other ka kn kc w ht ho hE
  · exact implstmtForm_25 op text other ka kn kc w ht ho hE
  · exact implstmtForm_26 op text other ka kn kc w ht ho hE
  · exact implstmtForm_27 op text other ka kn kc w ht ho hE
  · exact implstmtForm_28 op text other ka kn kc w ht ho hE
  · exact implstmtForm_29 op text other ka kn kc w ht ho hE
  · exact implstmtForm_30 op text other ka kn kc w ht ho hE
  · exact implstmtForm_31 op text other ka kn kc w ht ho hE
  · exact implstmtForm_32 op text other ka kn kc w ht ho hE
  · exact implstmtForm_33 op text other ka kn kc w ht ho hE
  · exact implstmtForm_34 op text other ka kn kc w ht ho hE
theorem implitemForm_any (k : Int) (op : Int) (text other : ByteArray) (ka : Option Addr) (kn kc : Nat) (w : World) (h0 : 40 ≤ k) (h1 : k ≤ 45) (ht : text.size ≤ 1048576) (ho : other.size ≤ 1048576) (hE : WordEnv w) : Calls Tryz.prog 145 #[.agg #[.int .i64 k, .int .i64 op, .string text, .string other, .slice ka kn kc]] w fun e w' => e = .returned (formW k op text other) ∧ Below w.heap.size w w' := by
  rcases (show k = 40 ∨ k = 41 ∨ k = 42 ∨ k = 43 ∨ k = 44 ∨ k = 45 by omega) with rfl | rfl | rfl | rfl | rfl | rfl
  · exact implitemForm_40 op text other ka kn kc w ht ho hE
  · exact implitemForm_41 op text other ka kn kc w ht ho hE
  · exact implitemForm_42 op text other ka kn kc w ht ho hE
  · exact implitemForm_43 op text other ka kn kc w ht ho hE
  · exact implitemForm_44 op text other ka kn kc w ht ho hE
  · exact implitemForm_45 op text other ka kn kc w ht ho hE
end Go.Proofs.YtkelhmgdajiocaaGreatDoor
/- Walks and lemmas of this seat (FFieldsOk2): what each theorem says of the functions that it names. Conditions: those that each theorem states. -/
namespace Go.Proofs.YtkelhmgdajiocaaGreatDoor
set_option linter.unusedVariables false
set_option linter.unusedSimpArgs false
open Go.RowKit Go.Lib

/-! May a node be as it is: the program's side. -/
theorem leastI_eq {k op n : Int} {s : Says} (h : opOk k op = true) : inB n (leastI k op s.emp2) (most k op s.emp2) = inB n (least k op s.emp2) (most k op s.emp2) := by
  unfold leastI
  by_cases h21 : k = 21
  · subst h21
    have h1 : op = 0 ∨ op = 1 := by simpa [opOk] using h
    rcases h1 with rfl | rfl <;> cases s.emp2 <;> simp [least, most, wrap64]
  · rw [if_neg h21]
theorem fieldsI (k op n : Int) (s : Says) : fieldsOk k op s n = (knownB k && (opOk k op && (textE k s && (otherE k s && inB n (leastI k op s.emp2) (most k op s.emp2))))) := by
  unfold fieldsOk
  rw [texts_split, Bool.and_assoc, Bool.and_assoc]
  congr 1
  cases ho : opOk k op with
  | false => rfl
  | true => rw [Bool.true_and, Bool.true_and, Bool.and_assoc, leastI_eq ho]
theorem form_boxA {w W : World} {o1 o2 : Obj} (hb : Below ((w.alloc o1).alloc o2).heap.size ((w.alloc o1).alloc o2) W) : W.heap[w.heap.size]? = some o1 ∧ W.heap[w.heap.size + 1]? = some o2 := ⟨(hb.block _ (by simp; omega)).trans ((Below.heap_alloc (w.alloc o1) o2 _ (by simp)).trans (heap_alloc_new w o1)), (hb.block _ (by simp)).trans (heap_alloc_new1 w o1 o2)⟩
theorem five_other {W : World} {b b' : Nat} {u0 u1 u2 u3 u4 : Value} (h : b' ≠ b) : (((((W.setCell ⟨b, 0, none⟩ u0).setCell ⟨b, 1, none⟩ u1).setCell ⟨b, 2, none⟩ u2).setCell ⟨b, 3, none⟩ u3).setCell ⟨b, 4, none⟩ u4).heap[b']? = W.heap[b']? := by
  rw [heap_setCell_other _ _ _ _ h, heap_setCell_other _ _ _ _ h, heap_setCell_other _ _ _ _ h, heap_setCell_other _ _ _ _ h, heap_setCell_other _ _ _ _ h]
theorem stopS {K : Act → World → Prop} {a : Act} {w w1 : World} {b : Nat} {o0 : Obj} {T : TypeId} {v0 v1 v2 v3 v4 u0 u1 u2 u3 u4 : Value} (hN0 : w1.heap[b]? = some o0) (hN1 : w1.heap[b + 1]? = some (.cells #[v0, v1, v2, v3, v4] T (0, 0))) (hB : Below b w w1)
    (h : ∀ W2 : World, W2.heap[b]? = some o0 → W2.heap[b + 1]? = some (.cells #[u0, u1, u2, u3, u4] T (0, 0)) → Below b w W2 → K a W2) :
    K a (((((w1.setCell ⟨b + 1, 0, none⟩ u0).setCell ⟨b + 1, 1, none⟩ u1).setCell ⟨b + 1, 2, none⟩ u2).setCell ⟨b + 1, 3, none⟩ u3).setCell ⟨b + 1, 4, none⟩ u4) :=
  h _ ((five_other (by omega)).trans hN0) (five u0 u1 u2 u3 u4 hN1) (five_below hB (by omega))
theorem stopE {K : Act → World → Prop} {a : Act} {w w1 : World} {b : Nat} {o0 : Obj} {T : TypeId} {v0 v1 v2 v3 v4 u0 u1 u2 u3 u4 u5 : Value} (hN0 : w1.heap[b]? = some o0) (hN1 : w1.heap[b + 1]? = some (.cells #[v0, v1, v2, v3, v4] T (0, 0))) (hB : Below b w w1)
    (h : ∀ W2 : World, W2.heap[b]? = some o0 → W2.heap[b + 1]? = some (.cells #[u0, u1, u5, u3, u4] T (0, 0)) → Below b w W2 → K a W2) :
    K a ((((((w1.setCell ⟨b + 1, 0, none⟩ u0).setCell ⟨b + 1, 1, none⟩ u1).setCell ⟨b + 1, 2, none⟩ u2).setCell ⟨b + 1, 3, none⟩ u3).setCell ⟨b + 1, 4, none⟩ u4).setCell ⟨b + 1, 2, none⟩ u5) :=
  h _ ((heap_setCell_other _ ⟨b + 1, 2, none⟩ _ _ (show b ≠ b + 1 by omega)).trans ((five_other (by omega)).trans hN0)) (heap_setCell_at (j := 2) (u := u5) (five u0 u1 u2 u3 u4 hN1)) ((five_below hB (by omega)).setCell (p := ⟨b + 1, 2, none⟩) (by show b ≤ b + 1; omega) _)
theorem four (a b c : Bool) : a = false ∨ (a = true ∧ b = false) ∨ (a = true ∧ b = true ∧ c = false) ∨ (a = true ∧ b = true ∧ c = true) := by cases a <;> cases b <;> cases c <;> simp
theorem node_cases (k : Int) : (1 ≤ k ∧ k ≤ 15) ∨ k = 16 ∨ (20 ≤ k ∧ k ≤ 34) ∨ (40 ≤ k ∧ k ≤ 45) ∨ ((k < 1 ∨ 16 < k) ∧ (k < 20 ∨ 34 < k) ∧ (k < 40 ∨ 45 < k)) := by omega
set_option maxRecDepth 100000 in
set_option maxHeartbeats 6400000 in
theorem implFieldsOk_any (k op : Int) (text other : ByteArray) (ka : Option Addr) (kn kc : Nat) (w : World) (h1 : text.size ≤ 1048576) (h2 : other.size ≤ 1048576) (hop : I64 op) (hn : kn ≤ 400) (hE : WordEnv w) : Calls Tryz.prog 118 #[.agg #[.int .i64 k, .int .i64 op, .string text, .string other, .slice ka kn kc]] w fun e w' => e = .returned (.bool (fieldsOk k op (saysOf text other) kn)) ∧ Below w.heap.size w w' := by
  have hR := fieldsI k op kn (saysOf text other)
  rw [show (saysOf text other).emp2 = (other.size == 0) from rfl] at hR
  have hX := implIsExpr_any k
  have hS := implIsStmt_any k
  have hI := fun w => implwithin_any k 40 45 w
  rcases node_cases k with hk | hk | hk | hk | hk
  · rw [show knownB k = true from by unfold knownB inB; simp; omega, Bool.true_and] at hR
    rw [show isExprB k = true from by unfold isExprB inB; simp; omega] at hX
    have hcall := hid fun W (hb : Below w.heap.size w W) => implexprForm_any k op text other ka kn kc W hk.1 hk.2 h1 (hE.below hb)
    unfold formV at hcall
    rw [show leastI k op (other.size == 0) = least k op (other.size == 0) from by unfold leastI; rw [if_neg (by omega)], show otherE k (saysOf text other) = other.toList.isEmpty from by unfold otherE; rw [if_neg (by omega), if_neg (by omega), isEmp_iff]; rfl] at hR
    have hW := implwithin_any (kn : Int) (least k op (other.size == 0)) (most k op (other.size == 0))
    generalize fieldsOk k op (saysOf text other) kn = ans at hR ⊢
    generalize opOk k op = b1 at hcall hR
    generalize textE k (saysOf text other) = b2 at hcall hR
    generalize inB (kn : Int) (least k op (other.size == 0)) (most k op (other.size == 0)) = b4 at hW hR
    generalize least k op (other.size == 0) = le at hW hcall
    generalize most k op (other.size == 0) = mo at hW hcall
    replace hR := hid hR
    replace hW := hid hW
    clear hk h1 h2 hop
    go_enter Tryz.func118, Tryz.ntmps118
    go_wp2_with (first | (go_at_call 87; refine (hX _).mono ?_; rintro e w' ⟨rfl, rfl⟩) | (go_at_call 143; refine (hS _).mono ?_; rintro e w' ⟨rfl, rfl⟩) | (go_at_call 45; refine (hI _).mono ?_; rintro e w' ⟨rfl, rfl⟩))
    refine (hcall.out _ (by repeat (first | exact Below.refl _ _ | refine Below.alloc ?_ (by first | omega | (simp; done) | (simp; omega)) _ | refine Below.drew ?_))).mono ?_; rintro e w1 ⟨rfl, hb1⟩
    have hB : Below w.heap.size w w1 := (by repeat (first | exact Below.refl _ _ | refine Below.alloc ?_ (by first | omega | (simp; done) | (simp; omega)) _ | refine Below.drew ?_) : Below w.heap.size w _).trans (hb1.mono (by simp; omega))
    obtain ⟨hN0, hN1⟩ := form_boxA hb1
    obtain ⟨p0, p1, p2, p3, p4⟩ := box_cells hN0
    obtain ⟨r0, r1, r2, r3, r4⟩ := box_cells hN1
    have fr := box_frozen hN1
    replace hN0 := hid hN0
    replace hN1 := hid hN1
    clear hb1 hcall hX hS hI
    rename_i QQ K2 A2 K1 A1 K0 A0
    replace A2 := hid A2
    go_wp2
    refine stopE hN0.out hN1.out hB ?_
    clear hB p0 p1 p2 p3 p4 r0 r1 r2 r3 r4 fr hN0 hN1
    intro W2 hN0 hN1 hB
    obtain ⟨p0, p1, p2, p3, p4⟩ := box_cells hN0
    obtain ⟨r0, r1, r2, r3, r4⟩ := box_cells hN1
    clear hN0 hN1
    refine A2.out _ _ ?_
    clear A2
    generalize other.toList.isEmpty = b3 at hR r2 ⊢
    rcases four b1 b2 b3 with rfl | ⟨rfl, rfl⟩ | ⟨rfl, rfl, rfl⟩ | ⟨rfl, rfl, rfl⟩
    all_goals go_wp2_with (go_at_call 45; refine (hW.out _).mono ?_; rintro e w' ⟨rfl, rfl⟩)
    all_goals first | go_ret | fail
    all_goals exact ⟨ret_bool (hR.out.trans rfl).symm, hB⟩
  · subst hk
    rw [show knownB 16 = true from rfl, Bool.true_and, show opOk 16 op = (op == 0) from rfl, show textE 16 (saysOf text other) = text.toList.isEmpty from by rw [isEmp_iff]; rfl, show otherE 16 (saysOf text other) = other.toList.isEmpty from by rw [isEmp_iff]; rfl, show leastI 16 op (other.size == 0) = 0 from rfl, show most 16 op (other.size == 0) = 0 from rfl] at hR
    rw [show isExprB 16 = false from rfl] at hX
    have hW := implwithin_any (kn : Int) 0 0
    generalize fieldsOk 16 op (saysOf text other) kn = ans at hR ⊢
    generalize inB (kn : Int) 0 0 = b4 at hW hR
    replace hR := hid hR
    replace hW := hid hW
    clear h1 h2 hop hS hI
    go_enter Tryz.func118, Tryz.ntmps118
    go_wp2_with fail
    refine (hX _).mono ?_; rintro e w' ⟨rfl, rfl⟩
    clear hX
    rename_i QQ K2 A2 K1 A1 K0 A0
    replace A2 := hid A2
    go_wp2
    generalize (op == 0) = b1 at hR ⊢
    generalize text.toList.isEmpty = b2 at hR ⊢
    generalize other.toList.isEmpty = b3 at hR ⊢
    refine A2.out _ _ ?_
    clear A2
    rcases four b1 b2 b3 with rfl | ⟨rfl, rfl⟩ | ⟨rfl, rfl, rfl⟩ | ⟨rfl, rfl, rfl⟩
    all_goals go_wp2_with (go_at_call 45; refine (hW.out _).mono ?_; rintro e w' ⟨rfl, rfl⟩)
    all_goals first | go_ret | fail
    all_goals exact ⟨ret_bool (hR.out.trans rfl).symm, by repeat (first | exact Below.refl _ _ | refine Below.alloc ?_ (by first | omega | (simp; done) | (simp; omega)) _ | refine Below.drew ?_)⟩
  · rw [show knownB k = true from by unfold knownB inB; simp; omega, Bool.true_and] at hR
    rw [show isExprB k = false from by unfold isExprB inB; simp; omega] at hX
    rw [show isStmtB k = true from by unfold isStmtB inB; simp; omega] at hS
    have hk16 : (k == 16) = false := by simp; omega
    have hcall := hid fun W (hb : Below w.heap.size w W) => implstmtForm_any k op text other ka kn kc W hk.1 hk.2 h1 h2 (hE.below hb)
    unfold formW at hcall
    have hW := implwithin_any (kn : Int) (leastI k op (other.size == 0)) (most k op (other.size == 0))
    generalize fieldsOk k op (saysOf text other) kn = ans at hR ⊢
    generalize opOk k op = b1 at hcall hR
    generalize textE k (saysOf text other) = b2 at hcall hR
    generalize otherE k (saysOf text other) = b3 at hcall hR
    generalize inB (kn : Int) (leastI k op (other.size == 0)) (most k op (other.size == 0)) = b4 at hW hR
    generalize leastI k op (other.size == 0) = le at hW hcall
    generalize most k op (other.size == 0) = mo at hW hcall
    replace hR := hid hR
    replace hW := hid hW
    clear hk h1 h2 hop
    go_enter Tryz.func118, Tryz.ntmps118
    go_wp2_with (first | (go_at_call 87; refine (hX _).mono ?_; rintro e w' ⟨rfl, rfl⟩) | (go_at_call 143; refine (hS _).mono ?_; rintro e w' ⟨rfl, rfl⟩) | (go_at_call 45; refine (hI _).mono ?_; rintro e w' ⟨rfl, rfl⟩))
    refine (hcall.out _ (by repeat (first | exact Below.refl _ _ | refine Below.alloc ?_ (by first | omega | (simp; done) | (simp; omega)) _ | refine Below.drew ?_))).mono ?_; rintro e w1 ⟨rfl, hb1⟩
    have hB : Below w.heap.size w w1 := (by repeat (first | exact Below.refl _ _ | refine Below.alloc ?_ (by first | omega | (simp; done) | (simp; omega)) _ | refine Below.drew ?_) : Below w.heap.size w _).trans (hb1.mono (by simp; omega))
    obtain ⟨hN0, hN1⟩ := form_boxA hb1
    obtain ⟨p0, p1, p2, p3, p4⟩ := box_cells hN0
    obtain ⟨r0, r1, r2, r3, r4⟩ := box_cells hN1
    have fr := box_frozen hN1
    replace hN0 := hid hN0
    replace hN1 := hid hN1
    clear hb1 hcall hX hS hI
    rename_i QQ K2 A2 K0 A0
    replace A2 := hid A2
    go_wp2
    refine stopS hN0.out hN1.out hB ?_
    clear hB p0 p1 p2 p3 p4 r0 r1 r2 r3 r4 fr hN0 hN1
    intro W2 hN0 hN1 hB
    obtain ⟨p0, p1, p2, p3, p4⟩ := box_cells hN0
    obtain ⟨r0, r1, r2, r3, r4⟩ := box_cells hN1
    clear hN0 hN1
    refine A2.out _ _ ?_
    clear A2
    rcases four b1 b2 b3 with rfl | ⟨rfl, rfl⟩ | ⟨rfl, rfl, rfl⟩ | ⟨rfl, rfl, rfl⟩
    all_goals go_wp2_with (go_at_call 45; refine (hW.out _).mono ?_; rintro e w' ⟨rfl, rfl⟩)
    all_goals first | go_ret | fail
    all_goals exact ⟨ret_bool (hR.out.trans rfl).symm, hB⟩
  · rw [show knownB k = true from by unfold knownB inB; simp; omega, Bool.true_and] at hR
    rw [show isExprB k = false from by unfold isExprB inB; simp; omega] at hX
    rw [show isStmtB k = false from by unfold isStmtB inB; simp; omega] at hS
    rw [show inB k 40 45 = true from by unfold inB; simp; omega] at hI
    have hk16 : (k == 16) = false := by simp; omega
    have hcall := hid fun W (hb : Below w.heap.size w W) => implitemForm_any k op text other ka kn kc W hk.1 hk.2 h1 h2 (hE.below hb)
    unfold formW at hcall
    have hW := implwithin_any (kn : Int) (leastI k op (other.size == 0)) (most k op (other.size == 0))
    generalize fieldsOk k op (saysOf text other) kn = ans at hR ⊢
    generalize opOk k op = b1 at hcall hR
    generalize textE k (saysOf text other) = b2 at hcall hR
    generalize otherE k (saysOf text other) = b3 at hcall hR
    generalize inB (kn : Int) (leastI k op (other.size == 0)) (most k op (other.size == 0)) = b4 at hW hR
    generalize leastI k op (other.size == 0) = le at hW hcall
    generalize most k op (other.size == 0) = mo at hW hcall
    replace hR := hid hR
    replace hW := hid hW
    clear hk h1 h2 hop
    go_enter Tryz.func118, Tryz.ntmps118
    go_wp2_with (first | (go_at_call 87; refine (hX _).mono ?_; rintro e w' ⟨rfl, rfl⟩) | (go_at_call 143; refine (hS _).mono ?_; rintro e w' ⟨rfl, rfl⟩) | (go_at_call 45; refine (hI _).mono ?_; rintro e w' ⟨rfl, rfl⟩))
    refine (hcall.out _ (by repeat (first | exact Below.refl _ _ | refine Below.alloc ?_ (by first | omega | (simp; done) | (simp; omega)) _ | refine Below.drew ?_))).mono ?_; rintro e w1 ⟨rfl, hb1⟩
    have hB : Below w.heap.size w w1 := (by repeat (first | exact Below.refl _ _ | refine Below.alloc ?_ (by first | omega | (simp; done) | (simp; omega)) _ | refine Below.drew ?_) : Below w.heap.size w _).trans (hb1.mono (by simp; omega))
    obtain ⟨hN0, hN1⟩ := form_boxA hb1
    obtain ⟨p0, p1, p2, p3, p4⟩ := box_cells hN0
    obtain ⟨r0, r1, r2, r3, r4⟩ := box_cells hN1
    have fr := box_frozen hN1
    replace hN0 := hid hN0
    replace hN1 := hid hN1
    clear hb1 hcall hX hS hI
    rename_i QQ K2 A2 K0 A0
    replace A2 := hid A2
    go_wp2
    refine stopS hN0.out hN1.out hB ?_
    clear hB p0 p1 p2 p3 p4 r0 r1 r2 r3 r4 fr hN0 hN1
    intro W2 hN0 hN1 hB
    obtain ⟨p0, p1, p2, p3, p4⟩ := box_cells hN0
    obtain ⟨r0, r1, r2, r3, r4⟩ := box_cells hN1
    clear hN0 hN1
    refine A2.out _ _ ?_
    clear A2
    rcases four b1 b2 b3 with rfl | ⟨rfl, rfl⟩ | ⟨rfl, rfl, rfl⟩ | ⟨rfl, rfl, rfl⟩
    all_goals go_wp2_with (go_at_call 45; refine (hW.out _).mono ?_; rintro e w' ⟨rfl, rfl⟩)
    all_goals first | go_ret | fail
    all_goals exact ⟨ret_bool (hR.out.trans rfl).symm, hB⟩
  · rw [show knownB k = false from by unfold knownB inB; simp; omega, Bool.false_and] at hR
    rw [show isExprB k = false from by unfold isExprB inB; simp; omega] at hX
    rw [show isStmtB k = false from by unfold isStmtB inB; simp; omega] at hS
    rw [show inB k 40 45 = false from by unfold inB; simp; omega] at hI
    have hk16 : (k == 16) = false := by simp; omega
    generalize fieldsOk k op (saysOf text other) kn = ans at hR ⊢
    replace hR := hid hR
    clear hk h1 h2 hop
    go_enter Tryz.func118, Tryz.ntmps118
    go_wp2_with (first | (go_at_call 87; refine (hX _).mono ?_; rintro e w' ⟨rfl, rfl⟩) | (go_at_call 143; refine (hS _).mono ?_; rintro e w' ⟨rfl, rfl⟩) | (go_at_call 45; refine (hI _).mono ?_; rintro e w' ⟨rfl, rfl⟩))
    go_ret
    exact ⟨ret_bool hR.out.symm, by repeat (first | exact Below.refl _ _ | refine Below.alloc ?_ (by first | omega | (simp; done) | (simp; omega)) _ | refine Below.drew ?_)⟩
end Go.Proofs.YtkelhmgdajiocaaGreatDoor
