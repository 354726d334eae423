/- Walks and lemmas of this seat (PName): what each theorem says of the functions that it names. Conditions: those that each theorem states. -/
import Derived.Test.YtfabfkaolnidiaaPScan
import Derived.Test.YtfabfkaolnidiaaFFind
import Derived.Lib.SlicesS
namespace Go.Proofs.Ytfabfkaolnidiaa
set_option linter.unusedVariables false
set_option linter.unusedSimpArgs false
open Go.RowKit Go.Lib

/-! Names, keywords, builtin functions: plain. -/
def isLetterB (b : Int) : Bool := inB b 97 122 || inB b 65 90 || b == 95
def isWordB (b : Int) : Bool := isLetterB b || isDigitB b
def wordsB (l : List UInt8) : Bool := l.all fun c => isWordB (c.toNat : Int)
def nameShape (s : ByteArray) : Bool := wordsB s.data.toList && (inB s.size 1 12 && isLetterB (byteI s.data.toList 0))
def kwTab : List ByteArray := [⟨#[66, 69, 71, 73, 78]⟩, ⟨#[69, 78, 68]⟩, ⟨#[102, 117, 110, 99, 116, 105, 111, 110]⟩, ⟨#[105, 102]⟩, ⟨#[101, 108, 115, 101]⟩, ⟨#[119, 104, 105, 108, 101]⟩, ⟨#[102, 111, 114]⟩, ⟨#[100, 111]⟩, ⟨#[98, 114, 101, 97, 107]⟩, ⟨#[99, 111, 110, 116, 105, 110, 117, 101]⟩, ⟨#[110, 101, 120, 116]⟩, ⟨#[101, 120, 105, 116]⟩, ⟨#[114, 101, 116, 117, 114, 110]⟩, ⟨#[100, 101, 108, 101, 116, 101]⟩, ⟨#[105, 110]⟩, ⟨#[112, 114, 105, 110, 116]⟩, ⟨#[112, 114, 105, 110, 116, 102]⟩]
def signTab : List ByteArray := [⟨#[123]⟩, ⟨#[125]⟩, ⟨#[40]⟩, ⟨#[41]⟩, ⟨#[91]⟩, ⟨#[93]⟩, ⟨#[44]⟩, ⟨#[59]⟩, ⟨#[43, 61]⟩, ⟨#[45, 61]⟩, ⟨#[42, 61]⟩, ⟨#[47, 61]⟩, ⟨#[37, 61]⟩, ⟨#[94, 61]⟩, ⟨#[124, 124]⟩, ⟨#[38, 38]⟩, ⟨#[33, 126]⟩, ⟨#[61, 61]⟩, ⟨#[60, 61]⟩, ⟨#[62, 61]⟩, ⟨#[33, 61]⟩, ⟨#[43, 43]⟩, ⟨#[45, 45]⟩, ⟨#[62, 62]⟩, ⟨#[61]⟩, ⟨#[43]⟩, ⟨#[45]⟩, ⟨#[42]⟩, ⟨#[47]⟩, ⟨#[37]⟩, ⟨#[94]⟩, ⟨#[33]⟩, ⟨#[62]⟩, ⟨#[60]⟩, ⟨#[124]⟩, ⟨#[63]⟩, ⟨#[58]⟩, ⟨#[126]⟩, ⟨#[36]⟩]
def bltTab : List ByteArray := [⟨#[97, 116, 97, 110, 50]⟩, ⟨#[99, 108, 111, 115, 101]⟩, ⟨#[99, 111, 115]⟩, ⟨#[101, 120, 112]⟩, ⟨#[103, 115, 117, 98]⟩, ⟨#[105, 110, 100, 101, 120]⟩, ⟨#[105, 110, 116]⟩, ⟨#[108, 101, 110, 103, 116, 104]⟩, ⟨#[108, 111, 103]⟩, ⟨#[109, 97, 116, 99, 104]⟩, ⟨#[114, 97, 110, 100]⟩, ⟨#[115, 105, 110]⟩, ⟨#[115, 112, 108, 105, 116]⟩, ⟨#[115, 112, 114, 105, 110, 116, 102]⟩, ⟨#[115, 113, 114, 116]⟩, ⟨#[115, 114, 97, 110, 100]⟩, ⟨#[115, 117, 98]⟩, ⟨#[115, 117, 98, 115, 116, 114]⟩, ⟨#[115, 121, 115, 116, 101, 109]⟩, ⟨#[116, 111, 108, 111, 119, 101, 114]⟩, ⟨#[116, 111, 117, 112, 112, 101, 114]⟩]
/-- The kind of a keyword, 0 of any other text. -/
def kwOf (s : ByteArray) : Int := if findS s kwTab 0 < 0 then 0 else 10 + findS s kwTab 0
def bltB (s : ByteArray) : Bool := decide (0 ≤ findS s bltTab 0)
def nameOkB (s : ByteArray) : Bool := nameShape s && (kwOf s == 0 && !bltB s)
theorem findS_hi (s : ByteArray) : ∀ (l : List ByteArray) (k : Nat), findS s l k < (k + l.length : Nat) := by
  intro l
  induction l with
  | nil => intro k; simp only [findS]; omega
  | cons x l ih =>
    intro k
    rw [findS]
    have := ih (k + 1)
    simp only [List.length_cons]
    split <;> omega
theorem idxFrom_find (s : ByteArray) : ∀ (l : List ByteArray) (k : Nat), idxFromS l s k = findS s l k := by
  intro l
  induction l with
  | nil => intro k; rfl
  | cons x l ih =>
    intro k
    rw [idxFromS, findS]
    by_cases h : x = s
    · rw [if_pos h, if_pos ((bytes_beq_iff x s).2 h)]
    · rw [if_neg h, if_neg (by rw [(bytes_beq_false_iff x s).2 h]; decide)]
      exact ih _
theorem idx_find (s : ByteArray) (l : List ByteArray) : idxOfS l s = findS s l 0 := idxFrom_find s l 0
theorem wordsB_stop {l : List UInt8} {k : Nat} {c : UInt8} (h : l[k]? = some c) (h2 : isWordB (c.toNat : Int) = false) : wordsB (l.drop k) = false := by
  rw [drop_cons h]; simp [wordsB, h2]
theorem wordsB_go {l : List UInt8} {k : Nat} {c : UInt8} (h : l[k]? = some c) (h2 : isWordB (c.toNat : Int) = true) : wordsB (l.drop k) = wordsB (l.drop (k + 1)) := by
  rw [drop_cons h]; simp [wordsB, h2]
end Go.Proofs.Ytfabfkaolnidiaa
