/- Walks and lemmas of this seat (FUsesOf): what each theorem says of the functions that it names. Conditions: those that each theorem states. -/
import Derived.Test.YtagoeiegdlnalaaRows
import Derived.Test.YtagoeiegdlnalaaDataNode
namespace Go.Proofs.Ytagoeiegdlnalaa
set_option linter.unusedVariables false
set_option linter.unusedSimpArgs false
open Go.RowKit

def isTextK (k : Int) : Bool := k == 1 || k == 5 || k == 13 || k == 27 || k == 32
def same01 (s name : ByteArray) : Nat := if (s.toList == name.toList) = true then 1 else 0
/-- How often a node names the variable. -/
def usesAt (name : ByteArray) (x : Node) : Nat := (if isTextK x.kind = true then same01 x.text name else 0) + (if x.kind = 32 then same01 x.other name else 0)
def usesOf (name : ByteArray) : List Node → Nat
  | [] => 0
  | x :: l => usesAt name x + usesOf name l
theorem same01_le (s n : ByteArray) : same01 s n ≤ 1 := by unfold same01; split <;> omega
theorem same01_t {x n : ByteArray} (h : (x.toList == n.toList) = true) : same01 x n = 1 := by rw [same01, if_pos h]
theorem same01_f {x n : ByteArray} (h : (x.toList == n.toList) = false) : same01 x n = 0 := by rw [same01, if_neg (by rw [h]; simp)]
theorem grown_cell {w w' : World} {g : Nat} (h : w.grownBy w' (some g)) {b o : Nat} {v : Value} (hc : w.cell? ⟨b, o, none⟩ = some v) (hne : b ≠ g) : w'.cell? ⟨b, o, none⟩ = some v :=
  (World.cell?_of_block (a := ⟨b, o, none⟩) (h.block b (World.block_lt_of_cell? w _ hc) (by simpa using hne))).trans hc
theorem grown_drewN (w : World) (n : Nat) (r : Option Nat) : w.grownBy (w.drewN n) r := ⟨rfl, rfl, rfl, Nat.le_refl _, fun _ _ _ => rfl⟩
theorem usesAt_le (n : ByteArray) (x : Node) : usesAt n x ≤ 2 := by
  unfold usesAt; have := same01_le x.text n; have := same01_le x.other n; split <;> split <;> omega

theorem specl23Text_any (k : Int) (w : World) : Calls Try.prog 61 #[.int .i64 k] w fun e w' => e = .returned (.bool (isTextK k)) ∧ w' = w := by
  go_enter Try.func61, Try.ntmps61
  go_wp2
  all_goals go_ret
  all_goals exact ⟨ret_bool (by unfold isTextK; simp_all), rfl⟩

set_option maxRecDepth 100000 in
set_option maxHeartbeats 800000 in
theorem specUsesOf_any (l0 : List Node) (v0 : Value) (s1 : ByteArray) (w : World) (hx0 : ∀ x ∈ l0, x.Ok) (hn0 : bulk Node.sizes l0 ≤ 1048576) (hv0 : NodeSlc w v0 l0) (hs1 : s1.size ≤ 1048576) :
    Calls Try.prog 21 #[v0, .string s1] w fun e w' => e = .returned (.int .i64 ((usesOf s1 l0 : Nat))) ∧ Below w.heap.size w w' := by
  obtain ⟨a, cap, rfl, hm, hc, hsl⟩ := hv0.shape
  have hn := length_bulk Node.sizes l0
  go_enter Try.func21, Try.ntmps21
  go_wp2
  go_loopw [5, 6] (fun n i wr => ∃ (k q : Nat), i = .int .i64 k ∧ k ≤ l0.length ∧ n = .int .i64 q ∧ q ≤ 2 * k ∧ Below w.heap.size w wr ∧ Hid (usesOf s1 l0 = q + usesOf s1 (l0.drop k))) (fun _ i _ => l0.length - (intOf i).toNat)
  case atStart => exact ⟨0, 0, rfl, by omega, rfl, by omega, by repeat (first | exact Below.refl _ _ | refine Below.alloc ?_ (by first | omega | (simp; done) | (simp; omega)) _ | refine Below.drew ?_), by show usesOf s1 l0 = 0 + usesOf s1 l0; omega⟩
  obtain ⟨k, q, rfl, hk, rfl, hq, hb, hrel⟩ := hrel
  have hbs := hb.size
  by_cases hlt : k < l0.length
  · obtain ⟨x, ka, kc, b, off, hx, rfl, c0, c1, c2, c3, c4, hkd⟩ := hsl.at hb (Nat.le_refl _) hlt
    have hmem := List.mem_of_getElem? hx
    rw [drop_cons hx] at hrel
    have HX := hid hx
    clear hx
    by_cases ht : isTextK x.kind = true
    · by_cases h32 : x.kind = 32
      · go_wp2_with (go_at_call 61; refine (specl23Text_any _ _).mono ?_; rintro e w' ⟨rfl, rfl⟩; first | rw [ht] | rw [show isTextK 32 = true from rfl])
        all_goals go_roundw
        all_goals first
          | (simp [intOf]; omega)
          | exact ⟨k + 1, q + 2, by go_num, by omega, by go_num, by omega, by repeat (first | exact hb | refine Below.alloc ?_ (by first | omega | (simp; done) | (simp; omega)) _ | refine Below.drew ?_), hid (by rw [hrel.out, usesOf, usesAt, if_pos ht, if_pos h32, same01_t (by assumption), same01_t (by assumption)]; omega)⟩
          | exact ⟨k + 1, q + 1, by go_num, by omega, by go_num, by omega, by repeat (first | exact hb | refine Below.alloc ?_ (by first | omega | (simp; done) | (simp; omega)) _ | refine Below.drew ?_), hid (by rw [hrel.out, usesOf, usesAt, if_pos ht, if_pos h32]; (first | rw [same01_t (x := x.text) (by assumption), same01_f (x := x.other) (by assumption)] | rw [same01_f (x := x.text) (by assumption), same01_t (x := x.other) (by assumption)]); omega)⟩
          | exact ⟨k + 1, q, by go_num, by omega, rfl, by omega, by repeat (first | exact hb | refine Below.alloc ?_ (by first | omega | (simp; done) | (simp; omega)) _ | refine Below.drew ?_), hid (by rw [hrel.out, usesOf, usesAt, if_pos ht, if_pos h32, same01_f (by assumption), same01_f (by assumption)]; omega)⟩
      · go_wp2_with (go_at_call 61; refine (specl23Text_any _ _).mono ?_; rintro e w' ⟨rfl, rfl⟩; rw [ht])
        all_goals go_roundw
        all_goals first
          | (simp [intOf]; omega)
          | exact ⟨k + 1, q + 1, by go_num, by omega, by go_num, by omega, by repeat (first | exact hb | refine Below.alloc ?_ (by first | omega | (simp; done) | (simp; omega)) _ | refine Below.drew ?_), hid (by rw [hrel.out, usesOf, usesAt, if_pos ht, if_neg h32, same01_t (by assumption)]; omega)⟩
          | exact ⟨k + 1, q, by go_num, by omega, rfl, by omega, by repeat (first | exact hb | refine Below.alloc ?_ (by first | omega | (simp; done) | (simp; omega)) _ | refine Below.drew ?_), hid (by rw [hrel.out, usesOf, usesAt, if_pos ht, if_neg h32, same01_f (by assumption)]; omega)⟩
    · have h32 : ¬ x.kind = 32 := by intro h; simp [isTextK, h] at ht
      have ht' : isTextK x.kind = false := by simpa using ht
      go_wp2_with (go_at_call 61; refine (specl23Text_any _ _).mono ?_; rintro e w' ⟨rfl, rfl⟩; rw [ht'])
      all_goals go_roundw
      all_goals first
        | (simp [intOf]; omega)
        | exact ⟨k + 1, q, by go_num, by omega, rfl, by omega, by repeat (first | exact hb | refine Below.alloc ?_ (by first | omega | (simp; done) | (simp; omega)) _ | refine Below.drew ?_), hid (by rw [hrel.out, usesOf, usesAt, if_neg ht, if_neg h32]; omega)⟩
  · go_wp2
    go_ret
    exact ⟨ret_int (by rw [hrel.out, List.drop_of_length_le (by omega)]; simp [usesOf]), hb⟩

end Go.Proofs.Ytagoeiegdlnalaa
