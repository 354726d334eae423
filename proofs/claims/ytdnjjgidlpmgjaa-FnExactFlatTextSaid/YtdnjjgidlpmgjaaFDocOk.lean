/- Walks and lemmas of this seat (FDocOk): what each theorem says of the functions that it names. Conditions: those that each theorem states. -/
import Derived.Test.YtdnjjgidlpmgjaaFDocStarts
import Derived.Test.YtdnjjgidlpmgjaaShelf
namespace Go.Proofs.Ytdnjjgidlpmgjaa
set_option linter.unusedVariables false
set_option linter.unusedSimpArgs false
open Go.RowKit

/-- No newline in a text. -/
def plainL (l : List UInt8) : Bool := l.all (fun c => c != 10)
def plain (s : ByteArray) : Bool := plainL s.data.toList
theorem indexByte_plain (l : List UInt8) : decide (0 ≤ Lib.indexByte l 10) = !plainL l := by
  induction l with
  | nil => simp [Lib.indexByte, plainL]
  | cons c l ih =>
    unfold Lib.indexByte plainL
    by_cases h : c = 10
    · subst h; simp
    · have h1 : (c == 10) = false := by simpa using h
      rw [h1]
      by_cases h2 : Lib.indexByte l 10 = -1
      · rw [h2] at ih ⊢
        simp [plainL, h] at ih ⊢
        exact fun x hx => ih x hx
      · have hge : ∀ l : List UInt8, -1 ≤ Lib.indexByte l 10 := by
          intro l; induction l with
          | nil => simp [Lib.indexByte]
          | cons c l ih => unfold Lib.indexByte; split <;> (try split) <;> simp_all <;> omega
        have := hge l
        have h3 : (Lib.indexByte l 10 == -1) = false := by simpa using h2
        have h4 : 0 ≤ Lib.indexByte l 10 := by omega
        rw [h3]
        simp [plainL, h] at ih ⊢
        have h5 : 0 ≤ Lib.indexByte l 10 + 1 := by omega
        simp [h4] at ih
        simp [h5]
        exact .inr ih
theorem getByte {s : ByteArray} {k : Nat} (h : k < s.size) : s.data.toList[k]? = some s[k] := by
  rw [List.getElem?_eq_getElem (by simpa using h)]; rfl
theorem plain_stop {s : ByteArray} {k : Nat} (h : k < s.size) (h2 : ((s[k]).toNat : Int) = 10) : plainL (s.data.toList.drop k) = false := by
  rw [drop_cons (getByte h)]
  have : s[k] = 10 := UInt8.toNat_inj.1 (by simpa using (show (s[k]).toNat = 10 by omega))
  simp [plainL, this]
theorem plain_go {s : ByteArray} {k : Nat} (h : k < s.size) (h2 : ¬ ((s[k]).toNat : Int) = 10) : plainL (s.data.toList.drop k) = plainL (s.data.toList.drop (k + 1)) := by
  rw [drop_cons (getByte h)]
  have : ¬ s[k] = 10 := fun e => h2 (by rw [e]; rfl)
  simp [plainL, this]

theorem specl4Plain_any (s : ByteArray) (w : World) (hs : s.size ≤ 1048576) :
    Calls Try.prog 95 #[.string s] w fun e w' => e = .returned (.bool (plain s)) ∧ w = w' := by
  go_enter Try.func95, Try.ntmps95
  go_wp2
  go_loop [3] (fun i => ∃ k : Nat, i = .int .i64 k ∧ k ≤ s.size ∧ Hid (plain s = plainL (s.data.toList.drop k))) (fun i => s.size - (intOf i).toNat)
  case atStart => exact ⟨0, rfl, by omega, hid rfl⟩
  obtain ⟨k, rfl, hk, hrel⟩ := hrel
  by_cases hlt : k < s.size
  · by_cases h10 : ((s[k]).toNat : Int) = 10
    · have hr := hid (hrel.out.trans (plain_stop hlt h10))
      go_wp2
      go_ret
      exact ⟨ret_bool hr.out.symm, rfl⟩
    · have hr := hid (hrel.out.trans (plain_go hlt h10))
      go_wp2
      go_round
      case rel => exact ⟨k + 1, by go_num, by omega, hr⟩
      case measure => simp [intOf]; omega
  · go_wp2
    go_ret
    exact ⟨ret_bool (by rw [hrel.out, List.drop_of_length_le (by simp; omega)]; rfl), rfl⟩

/-- May a node of a document be as it is? -/
def docNode (x : DNode) : Bool :=
  (x.kind == 1 || x.text.toList.isEmpty) && (x.kind == 4 || x.n == 0) &&
  (if x.kind = 1 then plain x.text && (x.kids.length : Int) == 0 else if x.kind = 2 ∨ x.kind = 3 then (x.kids.length : Int) == 0
   else if x.kind = 4 then decide (0 ≤ x.n ∧ x.n ≤ 40) && (x.kids.length : Int) == 1 else if x.kind = 5 then (x.kids.length : Int) == 1 else decide (x.kind = 6))

set_option maxRecDepth 100000 in
set_option maxHeartbeats 3200000 in
theorem specl15Node_any (x : DNode) (kv : Value) (w : World) (hx : x.Ok) (hn : x.sizes ≤ 1048576) (hk : Slc w kv 1 x.kids.length (x.kids.flatMap int1)) :
    Calls Try.prog 72 #[.agg #[.int .i64 x.kind, .int .i64 x.n, .string x.text, kv]] w fun e w' => e = .returned (.bool (docNode x)) ∧ Below w.heap.size w w' := by
  obtain ⟨_, ka, kc, rfl, hkc, hkm, hkrow⟩ := hk
  unfold DNode.sizes at hn
  unfold maxLen at hkm
  obtain ⟨kd, n, text, kids⟩ := x
  simp only at *
  have hkz : Hid ((kids.length : Int) = 0 ↔ kids.length = 0) := hid (by omega)
  clear hx hkrow
  by_cases k1 : kd = 1
  · subst k1
    all_goals go_enter Try.func72, Try.ntmps72
    all_goals go_wp2_with (first | (go_at_call 95; refine (specl4Plain_any _ _ (by omega)).mono ?_; rintro e w' ⟨rfl, rfl⟩) | (go_at_call 53; refine (specl1In_any _ _ _ _).mono ?_; rintro e w' ⟨rfl, rfl⟩))
    all_goals go_ret
    all_goals exact ⟨ret_bool (by first | (simp_all [docNode, plain]; done) | (simp_all [docNode, plain]; omega)), by repeat (first | exact Below.refl _ _ | refine Below.alloc ?_ (by first | omega | (simp; done) | (simp; omega)) _ | refine Below.drew ?_)⟩
  by_cases k2 : kd = 2
  · subst k2
    all_goals go_enter Try.func72, Try.ntmps72
    all_goals go_wp2_with (first | (go_at_call 95; refine (specl4Plain_any _ _ (by omega)).mono ?_; rintro e w' ⟨rfl, rfl⟩) | (go_at_call 53; refine (specl1In_any _ _ _ _).mono ?_; rintro e w' ⟨rfl, rfl⟩))
    all_goals go_ret
    all_goals exact ⟨ret_bool (by first | (simp_all [docNode, plain]; done) | (simp_all [docNode, plain]; omega)), by repeat (first | exact Below.refl _ _ | refine Below.alloc ?_ (by first | omega | (simp; done) | (simp; omega)) _ | refine Below.drew ?_)⟩
  by_cases k3 : kd = 3
  · subst k3
    all_goals go_enter Try.func72, Try.ntmps72
    all_goals go_wp2_with (first | (go_at_call 95; refine (specl4Plain_any _ _ (by omega)).mono ?_; rintro e w' ⟨rfl, rfl⟩) | (go_at_call 53; refine (specl1In_any _ _ _ _).mono ?_; rintro e w' ⟨rfl, rfl⟩))
    all_goals go_ret
    all_goals exact ⟨ret_bool (by first | (simp_all [docNode, plain]; done) | (simp_all [docNode, plain]; omega)), by repeat (first | exact Below.refl _ _ | refine Below.alloc ?_ (by first | omega | (simp; done) | (simp; omega)) _ | refine Below.drew ?_)⟩
  by_cases k4 : kd = 4
  · subst k4
    all_goals go_enter Try.func72, Try.ntmps72
    all_goals go_wp2_with (first | (go_at_call 95; refine (specl4Plain_any _ _ (by omega)).mono ?_; rintro e w' ⟨rfl, rfl⟩) | (go_at_call 53; refine (specl1In_any _ _ _ _).mono ?_; rintro e w' ⟨rfl, rfl⟩))
    all_goals go_ret
    all_goals exact ⟨ret_bool (by first | (simp_all [docNode, plain]; done) | (simp_all [docNode, plain]; omega)), by repeat (first | exact Below.refl _ _ | refine Below.alloc ?_ (by first | omega | (simp; done) | (simp; omega)) _ | refine Below.drew ?_)⟩
  by_cases k5 : kd = 5
  · subst k5
    all_goals go_enter Try.func72, Try.ntmps72
    all_goals go_wp2_with (first | (go_at_call 95; refine (specl4Plain_any _ _ (by omega)).mono ?_; rintro e w' ⟨rfl, rfl⟩) | (go_at_call 53; refine (specl1In_any _ _ _ _).mono ?_; rintro e w' ⟨rfl, rfl⟩))
    all_goals go_ret
    all_goals exact ⟨ret_bool (by first | (simp_all [docNode, plain]; done) | (simp_all [docNode, plain]; omega)), by repeat (first | exact Below.refl _ _ | refine Below.alloc ?_ (by first | omega | (simp; done) | (simp; omega)) _ | refine Below.drew ?_)⟩
  by_cases k6 : kd = 6
  · subst k6
    all_goals go_enter Try.func72, Try.ntmps72
    all_goals go_wp2_with (first | (go_at_call 95; refine (specl4Plain_any _ _ (by omega)).mono ?_; rintro e w' ⟨rfl, rfl⟩) | (go_at_call 53; refine (specl1In_any _ _ _ _).mono ?_; rintro e w' ⟨rfl, rfl⟩))
    all_goals go_ret
    all_goals exact ⟨ret_bool (by first | (simp_all [docNode, plain]; done) | (simp_all [docNode, plain]; omega)), by repeat (first | exact Below.refl _ _ | refine Below.alloc ?_ (by first | omega | (simp; done) | (simp; omega)) _ | refine Below.drew ?_)⟩
  have q1 : (kd == 1) = false := by simpa using k1
  have q2 : (kd == 2) = false := by simpa using k2
  have q3 : (kd == 3) = false := by simpa using k3
  have q4 : (kd == 4) = false := by simpa using k4
  have q5 : (kd == 5) = false := by simpa using k5
  have q6 : (kd == 6) = false := by simpa using k6
  all_goals go_enter Try.func72, Try.ntmps72
  all_goals go_wp2_with (first | (go_at_call 95; refine (specl4Plain_any _ _ (by omega)).mono ?_; rintro e w' ⟨rfl, rfl⟩) | (go_at_call 53; refine (specl1In_any _ _ _ _).mono ?_; rintro e w' ⟨rfl, rfl⟩))
  all_goals go_ret
  all_goals exact ⟨ret_bool (by first | (simp_all [docNode, plain]; done) | (simp_all [docNode, plain]; omega)), by repeat (first | exact Below.refl _ _ | refine Below.alloc ?_ (by first | omega | (simp; done) | (simp; omega)) _ | refine Below.drew ?_)⟩

set_option maxRecDepth 100000 in
set_option maxHeartbeats 3200000 in
theorem impldocNodeOk_any (x : DNode) (kv : Value) (w : World) (hx : x.Ok) (hn : x.sizes ≤ 1048576) (hk : Slc w kv 1 x.kids.length (x.kids.flatMap int1)) :
    Calls Try.prog 86 #[.agg #[.int .i64 x.kind, .int .i64 x.n, .string x.text, kv]] w fun e w' => e = .returned (.bool (docNode x)) ∧ Below w.heap.size w w' := by
  obtain ⟨_, ka, kc, rfl, hkc, hkm, hkrow⟩ := hk
  unfold DNode.sizes at hn
  unfold maxLen at hkm
  obtain ⟨kd, n, text, kids⟩ := x
  simp only at *
  have hkz : Hid ((kids.length : Int) = 0 ↔ kids.length = 0) := hid (by omega)
  clear hx hkrow
  by_cases k1 : kd = 1
  · subst k1
    all_goals go_enter Try.func86, Try.ntmps86
    all_goals go_wp2_with (first | (go_at_call 100; refine (Try.strings_Contains_one _ _ _).mono ?_; rintro e w' ⟨rfl, rfl⟩; rw [indexByte_plain]) | (go_at_call 58; refine (implwithin_any _ _ _ _).mono ?_; rintro e w' ⟨rfl, rfl⟩))
    all_goals go_ret
    all_goals exact ⟨ret_bool (by first | (simp_all [docNode, plain]; done) | (simp_all [docNode, plain]; omega)), by repeat (first | exact Below.refl _ _ | refine Below.alloc ?_ (by first | omega | (simp; done) | (simp; omega)) _ | refine Below.drew ?_)⟩
  by_cases k2 : kd = 2
  · subst k2
    all_goals go_enter Try.func86, Try.ntmps86
    all_goals go_wp2_with (first | (go_at_call 100; refine (Try.strings_Contains_one _ _ _).mono ?_; rintro e w' ⟨rfl, rfl⟩; rw [indexByte_plain]) | (go_at_call 58; refine (implwithin_any _ _ _ _).mono ?_; rintro e w' ⟨rfl, rfl⟩))
    all_goals go_ret
    all_goals exact ⟨ret_bool (by first | (simp_all [docNode, plain]; done) | (simp_all [docNode, plain]; omega)), by repeat (first | exact Below.refl _ _ | refine Below.alloc ?_ (by first | omega | (simp; done) | (simp; omega)) _ | refine Below.drew ?_)⟩
  by_cases k3 : kd = 3
  · subst k3
    all_goals go_enter Try.func86, Try.ntmps86
    all_goals go_wp2_with (first | (go_at_call 100; refine (Try.strings_Contains_one _ _ _).mono ?_; rintro e w' ⟨rfl, rfl⟩; rw [indexByte_plain]) | (go_at_call 58; refine (implwithin_any _ _ _ _).mono ?_; rintro e w' ⟨rfl, rfl⟩))
    all_goals go_ret
    all_goals exact ⟨ret_bool (by first | (simp_all [docNode, plain]; done) | (simp_all [docNode, plain]; omega)), by repeat (first | exact Below.refl _ _ | refine Below.alloc ?_ (by first | omega | (simp; done) | (simp; omega)) _ | refine Below.drew ?_)⟩
  by_cases k4 : kd = 4
  · subst k4
    all_goals go_enter Try.func86, Try.ntmps86
    all_goals go_wp2_with (first | (go_at_call 100; refine (Try.strings_Contains_one _ _ _).mono ?_; rintro e w' ⟨rfl, rfl⟩; rw [indexByte_plain]) | (go_at_call 58; refine (implwithin_any _ _ _ _).mono ?_; rintro e w' ⟨rfl, rfl⟩))
    all_goals go_ret
    all_goals exact ⟨ret_bool (by first | (simp_all [docNode, plain]; done) | (simp_all [docNode, plain]; omega)), by repeat (first | exact Below.refl _ _ | refine Below.alloc ?_ (by first | omega | (simp; done) | (simp; omega)) _ | refine Below.drew ?_)⟩
  by_cases k5 : kd = 5
  · subst k5
    all_goals go_enter Try.func86, Try.ntmps86
    all_goals go_wp2_with (first | (go_at_call 100; refine (Try.strings_Contains_one _ _ _).mono ?_; rintro e w' ⟨rfl, rfl⟩; rw [indexByte_plain]) | (go_at_call 58; refine (implwithin_any _ _ _ _).mono ?_; rintro e w' ⟨rfl, rfl⟩))
    all_goals go_ret
    all_goals exact ⟨ret_bool (by first | (simp_all [docNode, plain]; done) | (simp_all [docNode, plain]; omega)), by repeat (first | exact Below.refl _ _ | refine Below.alloc ?_ (by first | omega | (simp; done) | (simp; omega)) _ | refine Below.drew ?_)⟩
  by_cases k6 : kd = 6
  · subst k6
    all_goals go_enter Try.func86, Try.ntmps86
    all_goals go_wp2_with (first | (go_at_call 100; refine (Try.strings_Contains_one _ _ _).mono ?_; rintro e w' ⟨rfl, rfl⟩; rw [indexByte_plain]) | (go_at_call 58; refine (implwithin_any _ _ _ _).mono ?_; rintro e w' ⟨rfl, rfl⟩))
    all_goals go_ret
    all_goals exact ⟨ret_bool (by first | (simp_all [docNode, plain]; done) | (simp_all [docNode, plain]; omega)), by repeat (first | exact Below.refl _ _ | refine Below.alloc ?_ (by first | omega | (simp; done) | (simp; omega)) _ | refine Below.drew ?_)⟩
  have q1 : (kd == 1) = false := by simpa using k1
  have q2 : (kd == 2) = false := by simpa using k2
  have q3 : (kd == 3) = false := by simpa using k3
  have q4 : (kd == 4) = false := by simpa using k4
  have q5 : (kd == 5) = false := by simpa using k5
  have q6 : (kd == 6) = false := by simpa using k6
  all_goals go_enter Try.func86, Try.ntmps86
  all_goals go_wp2_with (first | (go_at_call 100; refine (Try.strings_Contains_one _ _ _).mono ?_; rintro e w' ⟨rfl, rfl⟩; rw [indexByte_plain]) | (go_at_call 58; refine (implwithin_any _ _ _ _).mono ?_; rintro e w' ⟨rfl, rfl⟩))
  all_goals go_ret
  all_goals exact ⟨ret_bool (by first | (simp_all [docNode, plain]; done) | (simp_all [docNode, plain]; omega)), by repeat (first | exact Below.refl _ _ | refine Below.alloc ?_ (by first | omega | (simp; done) | (simp; omega)) _ | refine Below.drew ?_)⟩

end Go.Proofs.Ytdnjjgidlpmgjaa
