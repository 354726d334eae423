/- Walks and lemmas of this seat (FPlain): what each theorem says of the functions that it names. Conditions: those that each theorem states. -/
import Derived.Test.YtfabfkaolnidiaaDoorBase
import Derived.Test.YtfabfkaolnidiaaDoorFKinds
import Derived.Lib.Bytealg
namespace Go.Proofs.YtfabfkaolnidiaaDoor
set_option linter.unusedVariables false
set_option linter.unusedSimpArgs false
open Go.RowKit

/-- No newline in a text. -/
def plainL (l : List UInt8) : Bool := l.all (fun c => c != 10)
def plain (s : ByteArray) : Bool := plainL s.data.toList
theorem indexByte_plain (l : List UInt8) : decide (0 ≤ Lib.indexByte l 10) = !plainL l := by
  induction l with
  | nil => simp [Lib.indexByte, plainL]
  | cons c l ih =>
    unfold Lib.indexByte plainL
    by_cases h : c = 10
    · subst h; simp
    · have h1 : (c == 10) = false := by simpa using h
      rw [h1]
      by_cases h2 : Lib.indexByte l 10 = -1
      · rw [h2] at ih ⊢
        simp [plainL, h] at ih ⊢
        exact fun x hx => ih x hx
      · have hge : ∀ l : List UInt8, -1 ≤ Lib.indexByte l 10 := by
          intro l; induction l with
          | nil => simp [Lib.indexByte]
          | cons c l ih => unfold Lib.indexByte; split <;> (try split) <;> simp_all <;> omega
        have := hge l
        have h3 : (Lib.indexByte l 10 == -1) = false := by simpa using h2
        have h4 : 0 ≤ Lib.indexByte l 10 := by omega
        rw [h3]
        simp [plainL, h] at ih ⊢
        have h5 : 0 ≤ Lib.indexByte l 10 + 1 := by omega
        simp [h4] at ih
        simp [h5]
        exact .inr ih
theorem getByte {s : ByteArray} {k : Nat} (h : k < s.size) : s.data.toList[k]? = some s[k] := by
  rw [List.getElem?_eq_getElem (by simpa using h)]; rfl
theorem plain_stop {s : ByteArray} {k : Nat} (h : k < s.size) (h2 : ((s[k]).toNat : Int) = 10) : plainL (s.data.toList.drop k) = false := by
  rw [drop_cons (getByte h)]
  have : s[k] = 10 := UInt8.toNat_inj.1 (by simpa using (show (s[k]).toNat = 10 by omega))
  simp [plainL, this]
theorem plain_go {s : ByteArray} {k : Nat} (h : k < s.size) (h2 : ¬ ((s[k]).toNat : Int) = 10) : plainL (s.data.toList.drop k) = plainL (s.data.toList.drop (k + 1)) := by
  rw [drop_cons (getByte h)]
  have : ¬ s[k] = 10 := fun e => h2 (by rw [e]; rfl)
  simp [plainL, this]

theorem specl4Plain_any (s : ByteArray) (w : World) (hs : s.size ≤ 1048576) :
    Calls Tryd.prog 27 #[.string s] w fun e w' => e = .returned (.bool (plain s)) ∧ w = w' := by
  go_enter Tryd.func27, Tryd.ntmps27
  go_wp2
  go_loop [3] (fun i => ∃ k : Nat, i = .int .i64 k ∧ k ≤ s.size ∧ Hid (plain s = plainL (s.data.toList.drop k))) (fun i => s.size - (intOf i).toNat)
  case atStart => exact ⟨0, rfl, by omega, hid rfl⟩
  obtain ⟨k, rfl, hk, hrel⟩ := hrel
  by_cases hlt : k < s.size
  · by_cases h10 : ((s[k]).toNat : Int) = 10
    · have hr := hid (hrel.out.trans (plain_stop hlt h10))
      go_wp2
      go_ret
      exact ⟨ret_bool hr.out.symm, rfl⟩
    · have hr := hid (hrel.out.trans (plain_go hlt h10))
      go_wp2
      go_round
      case rel => exact ⟨k + 1, by go_num, by omega, hr⟩
      case measure => simp [intOf]; omega
  · go_wp2
    go_ret
    exact ⟨ret_bool (by rw [hrel.out, List.drop_of_length_le (by simp; omega)]; rfl), rfl⟩


end Go.Proofs.YtfabfkaolnidiaaDoor
