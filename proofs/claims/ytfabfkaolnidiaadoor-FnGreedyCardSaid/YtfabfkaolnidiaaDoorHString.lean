/- Walks and lemmas of this seat (HString): what each theorem says of the functions that it names. Conditions: those that each theorem states. -/
import Derived.Test.YtfabfkaolnidiaaDoorRows
import Derived.Test.YtfabfkaolnidiaaDoorLift
import Derived.Test.YtfabfkaolnidiaaDoorHMark
namespace Go.Proofs.YtfabfkaolnidiaaDoor
set_option linter.unusedVariables false
set_option linter.unusedSimpArgs false
open Go.RowKit


def eqString (x y : ByteArray) : Bool := x.toList == y.toList
theorem eqString_iff (x y : ByteArray) : eqString x y = true ↔ x = y := by simp [eqString, toList_inj]


section
open Go.ChangeShapes Go.WideShapes Go.ChangeAt
theorem decString {H : Type} {enc : TypeId × Value → H} {w : World} {spare : Nat → Bool} (cs : List Value) (n : Nat) (y : DataW H × List MemPlace) (h : DataW.trod enc Tryd.prog w 0 spare true n 9 cs = some y) : ∃ x : ByteArray, cs = str1 x ∧ x.size ≤ maxLen := by
  obtain ⟨s, rfl, _, hs⟩ := DataW.trod_string Tryd.underlying9 h
  exact ⟨s, rfl, hs⟩
end


theorem Tryd.info9 : (Tryd.prog.info? 9).map (fun i => (i.zero, i.size, i.bytes)) = some (some (.string ⟨#[]⟩), 1, 16) := by kernel_rfl

def mkString (q : Nat) : ByteArray := markT q
def markLString (q n : Nat) : List ByteArray := (List.range n).map fun i => mkString (q + i)
theorem markLString_len (q n : Nat) : (markLString q n).length = n := by simp [markLString]
theorem markLString_get (q n i : Nat) (h : i < n) : (markLString q n)[i]? = some (mkString (q + i)) := by simp [markLString, h]
theorem markLString_succ (q i : Nat) : markLString q (i + 1) = markLString q i ++ [mkString (q + i)] := by simp [markLString, List.range_succ]
def mixString (k0 : Nat) (l : List ByteArray) (i : Nat) : List Value := (markLString k0 i).flatMap str1 ++ (l.drop i).flatMap str1
theorem markString_step {k0 k q : Nat} {l : List ByteArray} {x : ByteArray} (hx : l[k]? = some x) (hq : q = k0 + k) :
    (mixString k0 l k).set k (.string (markT q)) = mixString k0 l (k + 1) := by
  have h := setAll_mid [.string (markT q)] ((markLString k0 k).flatMap str1) (str1 x) ((l.drop (k + 1)).flatMap str1) k (by rw [flat_len _ 1 str1_len, markLString_len]; omega) rfl
  unfold mixString
  rw [drop_cons hx, List.flatMap_cons]
  have h' : (List.flatMap str1 (markLString k0 k) ++ (str1 x ++ List.flatMap str1 (List.drop (k + 1) l))).set k (.string (markT q)) = _ := h
  rw [h', markLString_succ, ← hq]
  simp [mkString, str1]

end Go.Proofs.YtfabfkaolnidiaaDoor
