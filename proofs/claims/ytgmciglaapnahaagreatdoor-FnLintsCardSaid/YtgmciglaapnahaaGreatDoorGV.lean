/- Walks and lemmas of this seat (FFuncsOf): what each theorem says of the functions that it names. Conditions: those that each theorem states. -/
import Derived.Test.YtgmciglaapnahaaGreatDoorRows
import Derived.Test.YtgmciglaapnahaaGreatDoorGA
namespace Go.Proofs.YtgmciglaapnahaaGreatDoor
set_option linter.unusedVariables false
set_option linter.unusedSimpArgs false
open Go.RowKit

def funcsOf : Nat → List Node → List Int
  | _, [] => []
  | k, x :: l => if x.kind = 44 then (k : Int) :: funcsOf (k + 1) l else funcsOf (k + 1) l
theorem funcsOf_len (l : List Node) : ∀ k, (funcsOf k l).length ≤ l.length := by
  induction l with
  | nil => intro k; simp [funcsOf]
  | cons x l ih => intro k; have := ih (k + 1); unfold funcsOf; split <;> simp <;> omega

set_option maxRecDepth 100000 in
theorem specFuncsOf_any (l0 : List Node) (v0 : Value) (w : World) (hx0 : ∀ x ∈ l0, x.Ok) (hn0 : bulk Node.sizes l0 ≤ 1048576) (hv0 : NodeSlc w v0 l0) :
    Calls Tryz.prog 36 #[v0] w fun e w' => ∃ v', e = .returned v' ∧ Below w.heap.size w w' ∧ w'.ownsRow w.heap.size 3 1 v' (funcsOf 0 l0).length ((funcsOf 0 l0).flatMap int1) := by
  obtain ⟨a, cap, rfl, hm, hc, hsl⟩ := hv0.shape
  have hn := length_bulk Node.sizes l0
  obtain ⟨i0, hi, hz0, hz1, hz2⟩ := info_parts Tryz.info3
  go_enter Tryz.func36, Tryz.ntmps36
  go_wp2
  go_loopw [3, 4] (fun v i wr => ∃ (k : Nat) (acc : List Int), i = .int .i64 k ∧ k ≤ l0.length ∧ acc.length ≤ k ∧ Below w.heap.size w wr ∧ wr.ownsRow w.heap.size 3 1 v acc.length (acc.flatMap int1) ∧ Hid (funcsOf 0 l0 = acc ++ funcsOf k (l0.drop k))) (fun _ i _ => l0.length - (intOf i).toNat)
  case atStart => exact ⟨0, [], rfl, by omega, by simp, by repeat (first | exact Below.refl _ _ | refine Below.alloc ?_ (by first | omega | (simp; done) | (simp; omega)) _ | refine Below.drew ?_), own_new0 _ _ _, hid rfl⟩
  obtain ⟨k, acc, rfl, hk, hacc, hb, hown, hrel⟩ := hrel
  by_cases hlt : k < l0.length
  · obtain ⟨x, ka, kc, b, off, hx, rfl, c0, c1, c2, c3, c4, hkd⟩ := hsl.at hb (Nat.le_refl _) hlt
    have hmem := List.mem_of_getElem? hx
    rw [drop_cons hx] at hrel
    have HX := hid hx
    clear hx
    have hbs := hb.size
    go_wp2_with (at_builtin; refine wpList_append_own _ rfl _ _ 31 rfl w.heap.size 3 i0 _ 1 8 Tryz.underlying31 hi hz0 hz1 hz2 rfl (by decide) _ acc.length (acc.flatMap int1) rfl (hown.alloc _) _ _ _ (int1 (k : Int)) rfl rfl (new_cells_at _ _ _ _ _ rfl (by first | rfl | simp)) (by intro u hu; simp [int1] at hu; rcases hu with rfl | rfl | rfl | rfl | rfl <;> rfl) (by unfold maxLen; omega) (by omega) (by first | omega | (simp; done) | (simp; omega)) ?_; intro v2 w2 hown2 hgr2 hiff; clear hiff; have hb2 := app_below (hb.alloc (by first | omega | (simp; done) | (simp; omega)) _) (hown.alloc _) hgr2)
    all_goals go_roundw
    all_goals first
      | (simp [intOf]; omega)
      | exact ⟨k + 1, acc ++ [(k : Int)], by go_num, by omega, by simp; omega, hb2, by simpa using hown2, hid (by rw [hrel.out, funcsOf, if_pos (by simp_all)]; simp)⟩
      | exact ⟨k + 1, acc, by go_num, by omega, by omega, by repeat (first | exact hb | refine Below.alloc ?_ (by first | omega | (simp; done) | (simp; omega)) _ | refine Below.drew ?_), by repeat (first | exact hown | refine World.ownsRow.alloc ?_ _), hid (by rw [hrel.out, funcsOf, if_neg (by simp_all)])⟩
  · go_wp2
    go_ret
    rw [hrel.out, List.drop_of_length_le (by omega)]
    simp only [funcsOf, List.append_nil]
    exact ⟨_, rfl, hb, hown⟩

set_option maxRecDepth 100000 in
theorem implFuncsOf_any (l0 : List Node) (v0 : Value) (w : World) (hx0 : ∀ x ∈ l0, x.Ok) (hn0 : bulk Node.sizes l0 ≤ 1048576) (hv0 : NodeSlc w v0 l0) :
    Calls Tryz.prog 35 #[v0] w fun e w' => ∃ v', e = .returned v' ∧ Below w.heap.size w w' ∧ w'.ownsRow w.heap.size 3 1 v' (funcsOf 0 l0).length ((funcsOf 0 l0).flatMap int1) := by
  obtain ⟨a, cap, rfl, hm, hc, hsl⟩ := hv0.shape
  have hn := length_bulk Node.sizes l0
  obtain ⟨i0, hi, hz0, hz1, hz2⟩ := info_parts Tryz.info3
  go_enter Tryz.func35, Tryz.ntmps35
  go_wp2
  go_loopw [3, 9] (fun v i wr => ∃ (k : Nat) (acc : List Int), i = .int .i64 k ∧ k ≤ l0.length ∧ acc.length ≤ k ∧ Below w.heap.size w wr ∧ wr.ownsRow w.heap.size 3 1 v acc.length (acc.flatMap int1) ∧ Hid (funcsOf 0 l0 = acc ++ funcsOf k (l0.drop k))) (fun _ i _ => l0.length - (intOf i).toNat)
  case atStart => exact ⟨0, [], rfl, by omega, by simp, by repeat (first | exact Below.refl _ _ | refine Below.alloc ?_ (by first | omega | (simp; done) | (simp; omega)) _ | refine Below.drew ?_), own_new0 _ _ _, hid rfl⟩
  obtain ⟨k, acc, rfl, hk, hacc, hb, hown, hrel⟩ := hrel
  by_cases hlt : k < l0.length
  · obtain ⟨x, ka, kc, b, off, hx, rfl, c0, c1, c2, c3, c4, hkd⟩ := hsl.at hb (Nat.le_refl _) hlt
    have hmem := List.mem_of_getElem? hx
    rw [drop_cons hx] at hrel
    have HX := hid hx
    clear hx
    have hbs := hb.size
    go_wp2_with (at_builtin; refine wpList_append_own _ rfl _ _ 31 rfl w.heap.size 3 i0 _ 1 8 Tryz.underlying31 hi hz0 hz1 hz2 rfl (by decide) _ acc.length (acc.flatMap int1) rfl ((hown.alloc _).alloc _) _ _ _ (int1 (k : Int)) rfl rfl (new_cells_at _ _ _ _ _ rfl (by first | rfl | simp)) (by intro u hu; simp [int1] at hu; rcases hu with rfl | rfl | rfl | rfl | rfl <;> rfl) (by unfold maxLen; omega) (by omega) (by first | omega | (simp; done) | (simp; omega)) ?_; intro v2 w2 hown2 hgr2 hiff; clear hiff; have hb2 := app_below ((hb.alloc (by first | omega | (simp; done) | (simp; omega)) _).alloc (by first | omega | (simp; done) | (simp; omega)) _) ((hown.alloc _).alloc _) hgr2)
    all_goals go_roundw
    all_goals first
      | (simp [intOf]; omega)
      | exact ⟨k + 1, acc ++ [(k : Int)], by go_num, by omega, by simp; omega, hb2, by simpa using hown2, hid (by rw [hrel.out, funcsOf, if_pos (by simp_all)]; simp)⟩
      | exact ⟨k + 1, acc, by go_num, by omega, by omega, by repeat (first | exact hb | refine Below.alloc ?_ (by first | omega | (simp; done) | (simp; omega)) _ | refine Below.drew ?_), by repeat (first | exact hown | refine World.ownsRow.alloc ?_ _), hid (by rw [hrel.out, funcsOf, if_neg (by simp_all)])⟩
  · go_wp2
    go_ret
    rw [hrel.out, List.drop_of_length_le (by omega)]
    simp only [funcsOf, List.append_nil]
    exact ⟨_, rfl, hb, hown⟩

end Go.Proofs.YtgmciglaapnahaaGreatDoor
/- Walks and lemmas of this seat (FUsesOf): what each theorem says of the functions that it names. Conditions: those that each theorem states. -/
namespace Go.Proofs.YtgmciglaapnahaaGreatDoor
set_option linter.unusedVariables false
set_option linter.unusedSimpArgs false
open Go.RowKit

def isTextK (k : Int) : Bool := k == 1 || k == 5 || k == 13 || k == 27 || k == 32
def same01 (s name : ByteArray) : Nat := if (s.toList == name.toList) = true then 1 else 0
/-- How often a node names the variable. -/
def usesAt (name : ByteArray) (x : Node) : Nat := (if isTextK x.kind = true then same01 x.text name else 0) + (if x.kind = 32 then same01 x.other name else 0)
def usesOf (name : ByteArray) : List Node → Nat
  | [] => 0
  | x :: l => usesAt name x + usesOf name l
theorem same01_le (s n : ByteArray) : same01 s n ≤ 1 := by unfold same01; split <;> omega
theorem same01_t {x n : ByteArray} (h : (x.toList == n.toList) = true) : same01 x n = 1 := by rw [same01, if_pos h]
theorem same01_f {x n : ByteArray} (h : (x.toList == n.toList) = false) : same01 x n = 0 := by rw [same01, if_neg (by rw [h]; simp)]
theorem grown_cell {w w' : World} {g : Nat} (h : w.grownBy w' (some g)) {b o : Nat} {v : Value} (hc : w.cell? ⟨b, o, none⟩ = some v) (hne : b ≠ g) : w'.cell? ⟨b, o, none⟩ = some v :=
  (World.cell?_of_block (a := ⟨b, o, none⟩) (h.block b (World.block_lt_of_cell? w _ hc) (by simpa using hne))).trans hc
theorem grown_drewN (w : World) (n : Nat) (r : Option Nat) : w.grownBy (w.drewN n) r := ⟨rfl, rfl, rfl, Nat.le_refl _, fun _ _ _ => rfl⟩
theorem usesAt_le (n : ByteArray) (x : Node) : usesAt n x ≤ 2 := by
  unfold usesAt; have := same01_le x.text n; have := same01_le x.other n; split <;> split <;> omega

theorem specl23Text_any (k : Int) (w : World) : Calls Tryz.prog 112 #[.int .i64 k] w fun e w' => e = .returned (.bool (isTextK k)) ∧ w' = w := by
  go_enter Tryz.func112, Tryz.ntmps112
  go_wp2
  all_goals go_ret
  all_goals exact ⟨ret_bool (by unfold isTextK; simp_all), rfl⟩

set_option maxRecDepth 100000 in
set_option maxHeartbeats 800000 in
theorem specUsesOf_any (l0 : List Node) (v0 : Value) (s1 : ByteArray) (w : World) (hx0 : ∀ x ∈ l0, x.Ok) (hn0 : bulk Node.sizes l0 ≤ 1048576) (hv0 : NodeSlc w v0 l0) (hs1 : s1.size ≤ 1048576) :
    Calls Tryz.prog 53 #[v0, .string s1] w fun e w' => e = .returned (.int .i64 ((usesOf s1 l0 : Nat))) ∧ Below w.heap.size w w' := by
  obtain ⟨a, cap, rfl, hm, hc, hsl⟩ := hv0.shape
  have hn := length_bulk Node.sizes l0
  go_enter Tryz.func53, Tryz.ntmps53
  go_wp2
  go_loopw [5, 6] (fun n i wr => ∃ (k q : Nat), i = .int .i64 k ∧ k ≤ l0.length ∧ n = .int .i64 q ∧ q ≤ 2 * k ∧ Below w.heap.size w wr ∧ Hid (usesOf s1 l0 = q + usesOf s1 (l0.drop k))) (fun _ i _ => l0.length - (intOf i).toNat)
  case atStart => exact ⟨0, 0, rfl, by omega, rfl, by omega, by repeat (first | exact Below.refl _ _ | refine Below.alloc ?_ (by first | omega | (simp; done) | (simp; omega)) _ | refine Below.drew ?_), by show usesOf s1 l0 = 0 + usesOf s1 l0; omega⟩
  obtain ⟨k, q, rfl, hk, rfl, hq, hb, hrel⟩ := hrel
  have hbs := hb.size
  by_cases hlt : k < l0.length
  · obtain ⟨x, ka, kc, b, off, hx, rfl, c0, c1, c2, c3, c4, hkd⟩ := hsl.at hb (Nat.le_refl _) hlt
    have hmem := List.mem_of_getElem? hx
    rw [drop_cons hx] at hrel
    have HX := hid hx
    clear hx
    by_cases ht : isTextK x.kind = true
    · by_cases h32 : x.kind = 32
      · go_wp2_with (go_at_call 112; refine (specl23Text_any _ _).mono ?_; rintro e w' ⟨rfl, rfl⟩; first | rw [ht] | rw [show isTextK 32 = true from rfl])
        all_goals go_roundw
        all_goals first
          | (simp [intOf]; omega)
          | exact ⟨k + 1, q + 2, by go_num, by omega, by go_num, by omega, by repeat (first | exact hb | refine Below.alloc ?_ (by first | omega | (simp; done) | (simp; omega)) _ | refine Below.drew ?_), hid (by rw [hrel.out, usesOf, usesAt, if_pos ht, if_pos h32, same01_t (by assumption), same01_t (by assumption)]; omega)⟩
          | exact ⟨k + 1, q + 1, by go_num, by omega, by go_num, by omega, by repeat (first | exact hb | refine Below.alloc ?_ (by first | omega | (simp; done) | (simp; omega)) _ | refine Below.drew ?_), hid (by rw [hrel.out, usesOf, usesAt, if_pos ht, if_pos h32]; (first | rw [same01_t (x := x.text) (by assumption), same01_f (x := x.other) (by assumption)] | rw [same01_f (x := x.text) (by assumption), same01_t (x := x.other) (by assumption)]); omega)⟩
          | exact ⟨k + 1, q, by go_num, by omega, rfl, by omega, by repeat (first | exact hb | refine Below.alloc ?_ (by first | omega | (simp; done) | (simp; omega)) _ | refine Below.drew ?_), hid (by rw [hrel.out, usesOf, usesAt, if_pos ht, if_pos h32, same01_f (by assumption), same01_f (by assumption)]; omega)⟩
      · go_wp2_with (go_at_call 112; refine (specl23Text_any _ _).mono ?_; rintro e w' ⟨rfl, rfl⟩; rw [ht])
        all_goals go_roundw
        all_goals first
          | (simp [intOf]; omega)
          | exact ⟨k + 1, q + 1, by go_num, by omega, by go_num, by omega, by repeat (first | exact hb | refine Below.alloc ?_ (by first | omega | (simp; done) | (simp; omega)) _ | refine Below.drew ?_), hid (by rw [hrel.out, usesOf, usesAt, if_pos ht, if_neg h32, same01_t (by assumption)]; omega)⟩
          | exact ⟨k + 1, q, by go_num, by omega, rfl, by omega, by repeat (first | exact hb | refine Below.alloc ?_ (by first | omega | (simp; done) | (simp; omega)) _ | refine Below.drew ?_), hid (by rw [hrel.out, usesOf, usesAt, if_pos ht, if_neg h32, same01_f (by assumption)]; omega)⟩
    · have h32 : ¬ x.kind = 32 := by intro h; simp [isTextK, h] at ht
      have ht' : isTextK x.kind = false := by simpa using ht
      go_wp2_with (go_at_call 112; refine (specl23Text_any _ _).mono ?_; rintro e w' ⟨rfl, rfl⟩; rw [ht'])
      all_goals go_roundw
      all_goals first
        | (simp [intOf]; omega)
        | exact ⟨k + 1, q, by go_num, by omega, rfl, by omega, by repeat (first | exact hb | refine Below.alloc ?_ (by first | omega | (simp; done) | (simp; omega)) _ | refine Below.drew ?_), hid (by rw [hrel.out, usesOf, usesAt, if_neg ht, if_neg h32]; omega)⟩
  · go_wp2
    go_ret
    exact ⟨ret_int (by rw [hrel.out, List.drop_of_length_le (by omega)]; simp [usesOf]), hb⟩

end Go.Proofs.YtgmciglaapnahaaGreatDoor
/- Walks and lemmas of this seat (FUsesOf2): what each theorem says of the functions that it names. Conditions: those that each theorem states. -/
namespace Go.Proofs.YtgmciglaapnahaaGreatDoor
set_option linter.unusedVariables false
set_option linter.unusedSimpArgs false
open Go.RowKit

set_option maxRecDepth 100000 in
theorem usesClosure (s name : ByteArray) (c : Nat) (hc : c ≤ 4194304) (pb po nb cb : Nat) (w : World) (hp : w.cell? ⟨pb, po, none⟩ = some (.string s)) (hn : w.cell? ⟨nb, 0, none⟩ = some (.string name))
    (hcell : w.cell? ⟨cb, 0, none⟩ = some (.int .i64 c)) (hf : w.frozen? ⟨cb, 0, none⟩ = false) :
    Calls Tryz.prog 140 #[.pointer (some ⟨pb, po, none⟩), .pointer (some ⟨nb, 0, none⟩), .pointer (some ⟨cb, 0, none⟩)] w fun e w' => e = .returned (.tuple #[]) ∧ w.grownBy w' (some cb) ∧ w'.cell? ⟨cb, 0, none⟩ = some (.int .i64 (c + same01 s name : Nat)) ∧ w'.frozen? ⟨cb, 0, none⟩ = false := by
  go_enter Tryz.func140, Tryz.ntmps140
  by_cases h : (s.toList == name.toList) = true
  · rw [same01_t h]
    go_wp2_with fail
    go_quiet (fail)
    go_wp2
    go_end0
    exact ⟨rfl, grown_trans (grown_drewN _ _ _) (grown_set _ _ _ _), by rw [World.cell?_setCell_same _ _ _ (by rw [show (w.drewN nq).cell? _ = w.cell? _ from rfl, hcell])]; rfl, by rw [World.frozen?_setCell]; exact hf⟩
  · have h : (s.toList == name.toList) = false := by simpa using h
    rw [same01_f h]
    go_wp2_with fail
    go_quiet (fail)
    go_wp2
    go_end0
    exact ⟨rfl, grown_drewN _ _ _, hcell, hf⟩

theorem usesNot {name : ByteArray} {x : Node} (h : isTextK x.kind = false) : usesAt name x = 0 := by
  have h32 : ¬ x.kind = 32 := by intro h'; simp [isTextK, h'] at h
  rw [usesAt, if_neg (by rw [h]; simp), if_neg h32]
theorem uses1 {name : ByteArray} {x : Node} (h : isTextK x.kind = true) (h32 : ¬ x.kind = 32) : usesAt name x = same01 x.text name := by
  rw [usesAt, if_pos h, if_neg h32]; omega
theorem uses2 {name : ByteArray} {x : Node} (h32 : x.kind = 32) : usesAt name x = same01 x.text name + same01 x.other name := by
  rw [usesAt, if_pos (by simp [isTextK, h32]), if_pos h32]

theorem grown_below' {w w' : World} {g B : Nat} (h : w.grownBy w' (some g)) (hB : B ≤ g) (hw : B ≤ w.heap.size) : Below B w w' :=
  ⟨h.os, h.tape, h.output, h.size, fun i hi => h.block i (by omega) (by simp; omega)⟩

set_option maxRecDepth 100000 in
set_option maxHeartbeats 1600000 in
theorem usesNamesIn (x : Node) (name : ByteArray) (c : Nat) (hc : c ≤ 2097152) (pb nb cb : Nat) (w : World) (h0 : w.cell? ⟨pb, 0, none⟩ = some (.int .i64 x.kind)) (h2 : w.cell? ⟨pb, 2, none⟩ = some (.string x.text)) (h3 : w.cell? ⟨pb, 3, none⟩ = some (.string x.other)) (hn : w.cell? ⟨nb, 0, none⟩ = some (.string name))
    (hcell : w.cell? ⟨cb, 0, none⟩ = some (.int .i64 c)) (hf : w.frozen? ⟨cb, 0, none⟩ = false) (hpc : pb ≠ cb) (hnc : nb ≠ cb) :
    Calls Tryz.prog 136 #[.pointer (some ⟨pb, 0, none⟩), .func (.func 140) #[] #[.pointer (some ⟨nb, 0, none⟩), .pointer (some ⟨cb, 0, none⟩)]] w fun e w' => e = .returned (.tuple #[]) ∧ w.grownBy w' (some cb) ∧ w'.cell? ⟨cb, 0, none⟩ = some (.int .i64 (c + usesAt name x : Nat)) ∧ w'.frozen? ⟨cb, 0, none⟩ = false := by
  have hpl : pb < w.heap.size := World.block_lt_of_cell? w _ h0
  have hnl : nb < w.heap.size := World.block_lt_of_cell? w _ hn
  have hle := same01_le x.text name
  by_cases h32 : x.kind = 32
  · rw [uses2 h32]
    go_enter Tryz.func136, Tryz.ntmps136
    go_wp2_with fail
    refine (usesClosure x.text name c (by omega) pb 2 nb cb _ h2 hn hcell hf).mono ?_; rintro e w1 ⟨rfl, hg1, hc1, hf1⟩
    have k0 : w1.cell? ⟨pb, 0, none⟩ = some (.int .i64 x.kind) := grown_cell hg1 h0 hpc
    have k3 : w1.cell? ⟨pb, 3, none⟩ = some (.string x.other) := grown_cell hg1 h3 hpc
    have kn : w1.cell? ⟨nb, 0, none⟩ = some (.string name) := grown_cell hg1 hn hnc
    go_wp2_with fail
    refine (usesClosure x.other name (c + same01 x.text name) (by omega) pb 3 nb cb _ k3 kn hc1 hf1).mono ?_; rintro e w2 ⟨rfl, hg2, hc2, hf2⟩
    go_wp2
    go_end0
    exact ⟨rfl, grown_trans hg1 hg2, by rw [hc2, Nat.add_assoc], hf2⟩
  · have hk32 : (x.kind == 32) = false := by simpa using h32
    by_cases ht : isTextK x.kind = true
    · rw [uses1 ht h32]
      go_enter Tryz.func136, Tryz.ntmps136
      go_wp2_with (go_at_call 140; refine (usesClosure x.text name c (by omega) pb 2 nb cb _ h2 hn hcell hf).mono ?_; rintro e w1 ⟨rfl, hg1, hc1, hf1⟩; have k0 : w1.cell? ⟨pb, 0, none⟩ = some (.int .i64 x.kind) := grown_cell hg1 h0 hpc)
      all_goals first
        | (go_end0; exact ⟨rfl, by assumption, by assumption, by assumption⟩)
        | (exfalso; simp_all [isTextK]; done)
    · have ht' : isTextK x.kind = false := by simpa using ht
      rw [usesNot ht']
      have n1 : (x.kind == 1) = false := by cases h : (x.kind == 1) <;> simp_all [isTextK]
      have n2 : (x.kind == 5) = false := by cases h : (x.kind == 5) <;> simp_all [isTextK]
      have n3 : (x.kind == 13) = false := by cases h : (x.kind == 13) <;> simp_all [isTextK]
      have n4 : (x.kind == 27) = false := by cases h : (x.kind == 27) <;> simp_all [isTextK]
      go_enter Tryz.func136, Tryz.ntmps136
      go_wp2
      go_end0
      exact ⟨rfl, grown_refl _ _, hcell, hf⟩


set_option maxRecDepth 100000 in
set_option maxHeartbeats 800000 in
theorem implUsesOf_any (l0 : List Node) (v0 : Value) (s1 : ByteArray) (w : World) (hx0 : ∀ x ∈ l0, x.Ok) (hn0 : bulk Node.sizes l0 ≤ 1048576) (hv0 : NodeSlc w v0 l0) (hs1 : s1.size ≤ 1048576) :
    Calls Tryz.prog 52 #[v0, .string s1] w fun e w' => e = .returned (.int .i64 ((usesOf s1 l0 : Nat))) ∧ Below w.heap.size w w' := by
  obtain ⟨a, cap, rfl, hm, hc, hsl⟩ := hv0.shape
  have hn := length_bulk Node.sizes l0
  go_enter Tryz.func52, Tryz.ntmps52
  go_wp2
  go_loopw [10] (fun i wr => ∃ (k q : Nat), i = .int .i64 k ∧ k ≤ l0.length ∧ q ≤ 2 * k ∧ Below w.heap.size w wr ∧ w.heap.size + 2 ≤ wr.heap.size ∧ wr.cell? ⟨w.heap.size, 0, none⟩ = some (.string s1) ∧ wr.cell? ⟨w.heap.size + 1, 0, none⟩ = some (.int .i64 q) ∧ wr.frozen? ⟨w.heap.size + 1, 0, none⟩ = false ∧ Hid (usesOf s1 l0 = q + usesOf s1 (l0.drop k))) (fun i _ => l0.length - (intOf i).toNat)
  case atStart => exact ⟨0, 0, rfl, by omega, by omega, by repeat (first | exact Below.refl _ _ | refine Below.alloc ?_ (by first | omega | (simp; done) | (simp; omega)) _ | refine Below.drew ?_), by simp, by rw [World.cell?_alloc_past _ _ _ (by simp), World.cell?_alloc_at _ _ _ _ rfl]; rfl, by rw [World.cell?_alloc_at _ _ _ _ (by simp)]; rfl, by rw [World.frozen?_alloc_at _ _ _ _ (by simp)], hid (by show _ = 0 + usesOf s1 l0; omega)⟩
  obtain ⟨k, q, rfl, hk, hq, hb, hws, hnm, hct, hfz, hrel⟩ := hrel
  have hbs := hb.size
  by_cases hlt : k < l0.length
  · obtain ⟨x, ka, kc, b, off, hx, rfl, c0, c1, c2, c3, c4, hkd⟩ := hsl.at hb (Nat.le_refl _) hlt
    have hmem := List.mem_of_getElem? hx
    rw [drop_cons hx] at hrel
    have HX := hid hx
    clear hx
    have hle := usesAt_le s1 x
    have f0 : (wr.alloc (.cells #[.int .i64 x.kind, .int .i64 x.op, .string x.text, .string x.other, .slice ka x.kids.length kc] 40)).cell? ⟨wr.heap.size, 0, none⟩ = some (.int .i64 x.kind) := by rw [World.cell?_alloc_at _ _ _ _ rfl]; rfl
    have f2 : (wr.alloc (.cells #[.int .i64 x.kind, .int .i64 x.op, .string x.text, .string x.other, .slice ka x.kids.length kc] 40)).cell? ⟨wr.heap.size, 2, none⟩ = some (.string x.text) := by rw [World.cell?_alloc_at _ _ _ _ rfl]; rfl
    have f3 : (wr.alloc (.cells #[.int .i64 x.kind, .int .i64 x.op, .string x.text, .string x.other, .slice ka x.kids.length kc] 40)).cell? ⟨wr.heap.size, 3, none⟩ = some (.string x.other) := by rw [World.cell?_alloc_at _ _ _ _ rfl]; rfl
    have fn : (wr.alloc (.cells #[.int .i64 x.kind, .int .i64 x.op, .string x.text, .string x.other, .slice ka x.kids.length kc] 40)).cell? ⟨w.heap.size, 0, none⟩ = some (.string s1) := by rw [World.cell?_alloc_past _ _ _ (by show w.heap.size < _; omega)]; exact hnm
    have fc : (wr.alloc (.cells #[.int .i64 x.kind, .int .i64 x.op, .string x.text, .string x.other, .slice ka x.kids.length kc] 40)).cell? ⟨w.heap.size + 1, 0, none⟩ = some (.int .i64 q) := by rw [World.cell?_alloc_past _ _ _ (by show w.heap.size + 1 < _; omega)]; exact hct
    have ff : (wr.alloc (.cells #[.int .i64 x.kind, .int .i64 x.op, .string x.text, .string x.other, .slice ka x.kids.length kc] 40)).frozen? ⟨w.heap.size + 1, 0, none⟩ = false := by rw [World.frozen?_alloc_past _ _ _ (by show w.heap.size + 1 < _; omega)]; exact hfz
    have hcall := hid (usesNamesIn x s1 q (by omega) wr.heap.size w.heap.size (w.heap.size + 1) _ f0 f2 f3 fn fc ff (by omega) (by omega))
    have hfn := hid fn
    clear f0 f2 f3 fn fc ff
    go_wp2_with fail
    refine hcall.out.mono ?_; rintro e w1 ⟨rfl, hg1, hc1, hf1⟩
    have hgb := hid (grown_below' (B := w.heap.size) hg1 (by omega) (by simp; omega))
    have hfn1 := hid (grown_cell hg1 hfn.out (by omega))
    have hg1s := hg1.size
    simp at hg1s
    clear hg1 hcall hfn
    go_wp2
    all_goals go_roundw
    all_goals first
      | (simp [intOf]; omega)
      | exact ⟨k + 1, q + usesAt s1 x, by go_num, by omega, by omega, (show Below w.heap.size w (wr.alloc (.cells #[.int .i64 x.kind, .int .i64 x.op, .string x.text, .string x.other, .slice ka x.kids.length kc] 40)) from by repeat (first | exact hb | refine Below.alloc ?_ (by first | omega | (simp; done) | (simp; omega)) _ | refine Below.drew ?_)).trans hgb.out, by omega, hfn1.out, hc1, hf1, hid (by rw [hrel.out, usesOf]; omega)⟩
  · go_wp2
    go_ret
    exact ⟨ret_int (by rw [hrel.out, List.drop_of_length_le (by omega)]; simp [usesOf]), hb⟩

end Go.Proofs.YtgmciglaapnahaaGreatDoor
/- Walks and lemmas of this seat (FBranches): what each theorem says of the functions that it names. Conditions: those that each theorem states. -/
namespace Go.Proofs.YtgmciglaapnahaaGreatDoor
set_option linter.unusedVariables false
set_option linter.unusedSimpArgs false
open Go.RowKit

end Go.Proofs.YtgmciglaapnahaaGreatDoor
