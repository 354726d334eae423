/-
  No cell of these rows narrows 'for every input' (looked for: loops, veiled, ifaces, maps, wideKeys, modest, calm, conditions, laid).
  DERIVED. THE GIVEN ROWS OF THIS SEAT. 3 by the template 'for every input the law returns true; each argument reads behind the call as it read before'; 0 by the template 'total and deterministic' (their statements: YtfdmfkonneonaaaTotals.lean).
  GIVEN WITH THE SEED: the statements are not yours to turn. If you find one false, say at which input.
  Laid BY PROGRAM, IN A SANDBOX (cutbox-rows.mjs): the forced cells as the released guide's own fill.sh prints them over the translation 0b80cf8e8cead476… (all of the seat's roots in one cut). By AI agents, Wed Nov 11 2026. No macro, syntax, notation, axiom, sorry.
-/
import Derived.Test.YtfdmfkonneonaaaChecked
import GoSem.Claim
import GoSem.ClaimJoined
import GoSem.ClaimMapViews
import Derived.JoinedTies
import Derived.KernelRfl
namespace Go.Proofs.Ytfdmfkonneonaaa
/- THE CELL 'sum', in the pinned program and in every row, IS THE sha256 OF THE DUMP (.gsa) THAT YtfdmfkonneonaaaProg.lean LOADS. Nothing in Lean hashes anything: it is a label: what it is worth is what the hold of that sum in a sandbox is worth. -/
noncomputable def Try.pinned : Pinned := { name := "ytfdmfkonneonaaa", sum := "0b80cf8e8cead476ebaf975bc9d01a437581e8aa25e1eeeff43563987dff3ce6", checked := Try.checked }
namespace Rows
def none {H : Type} : Left H := { results := [], args := [] }

/-- 'laws.FnExactFuncNames': WHATEVER THE INPUT: true; the input reads as it did. -/
def fnExactFuncNamesSpec : ChangeSpec := { name := "fnExactFuncNames", fn := fun _ => fun
  | [d] => { results := [.lit (.bool true)], args := [d] }
  | _ => none }
def fnExactFuncNamesRow : OpenClaim := { program := "ytfdmfkonneonaaa", sum := "0b80cf8e8cead476ebaf975bc9d01a437581e8aa25e1eeeff43563987dff3ce6", func := "loop.example/g01543/laws.FnExactFuncNames", spec := "fnExactFuncNames", recurses := true, apart := false }
def FnExactFuncNamesSaid : Prop := fnExactFuncNamesRow.holds Try.pinned (OpenSpec.ofChange fnExactFuncNamesSpec)

/-- ITS FALSE NEIGHBOUR: 'it returns false'. Refute it at one input. -/
def fnExactFuncNamesWrong : ChangeSpec := { name := "fnExactFuncNames", fn := fun _ => fun
  | [d] => { results := [.lit (.bool false)], args := [d] }
  | _ => none }
def FnExactFuncNamesWrongFalsely : Prop := fnExactFuncNamesRow.holds Try.pinned (OpenSpec.ofChange fnExactFuncNamesWrong)

/-- 'laws.FnExactNamesOf': WHATEVER THE INPUT: true; the input reads as it did. -/
def fnExactNamesOfSpec : ChangeSpec := { name := "fnExactNamesOf", fn := fun _ => fun
  | [d] => { results := [.lit (.bool true)], args := [d] }
  | _ => none }
def fnExactNamesOfRow : OpenClaim := { program := "ytfdmfkonneonaaa", sum := "0b80cf8e8cead476ebaf975bc9d01a437581e8aa25e1eeeff43563987dff3ce6", func := "loop.example/g01543/laws.FnExactNamesOf", spec := "fnExactNamesOf", unfollowed := true, recurses := true, apart := false }
def FnExactNamesOfSaid : Prop := fnExactNamesOfRow.holds Try.pinned (OpenSpec.ofChange fnExactNamesOfSpec)

/-- ITS FALSE NEIGHBOUR: 'it returns false'. Refute it at one input. -/
def fnExactNamesOfWrong : ChangeSpec := { name := "fnExactNamesOf", fn := fun _ => fun
  | [d] => { results := [.lit (.bool false)], args := [d] }
  | _ => none }
def FnExactNamesOfWrongFalsely : Prop := fnExactNamesOfRow.holds Try.pinned (OpenSpec.ofChange fnExactNamesOfWrong)

/-- 'laws.FnExactUndefined': WHATEVER THE INPUT: true; the input reads as it did. -/
def fnExactUndefinedSpec : ChangeSpec := { name := "fnExactUndefined", fn := fun _ => fun
  | [d] => { results := [.lit (.bool true)], args := [d] }
  | _ => none }
def fnExactUndefinedRow : OpenClaim := { program := "ytfdmfkonneonaaa", sum := "0b80cf8e8cead476ebaf975bc9d01a437581e8aa25e1eeeff43563987dff3ce6", func := "loop.example/g01543/laws.FnExactUndefined", spec := "fnExactUndefined", unfollowed := true, recurses := true, apart := false }
def FnExactUndefinedSaid : Prop := fnExactUndefinedRow.holds Try.pinned (OpenSpec.ofChange fnExactUndefinedSpec)

/-- ITS FALSE NEIGHBOUR: 'it returns false'. Refute it at one input. -/
def fnExactUndefinedWrong : ChangeSpec := { name := "fnExactUndefined", fn := fun _ => fun
  | [d] => { results := [.lit (.bool false)], args := [d] }
  | _ => none }
def FnExactUndefinedWrongFalsely : Prop := fnExactUndefinedRow.holds Try.pinned (OpenSpec.ofChange fnExactUndefinedWrong)

/- THE SECOND FORM. 'bulk': how many values and letters a reading holds, each counted each time it is reached (what is shared counts as often as it is met; a slice's spare places count too). A statement '..UptoSaid' is the law's where the arguments, and the package variables that the reading takes, are together of bulk at most 1048576: NARROWER than '..Said'. Prove '..Said' where nothing that the law and all that it calls make is longer than what came in: it says more and counts as full. Else prove '..UptoSaid'. A law counts once. -/
mutual
def uptoBulk {H : Type} : DataW H → Nat
  | .lit (.string bytes) => bytes.length + 1
  | .lit _ => 1
  | .nil => 1
  | .ptr d => uptoBulk d + 1
  | .slice elems spare => uptoBulkAll elems + uptoBulkAll spare + 1
  | .agg parts => uptoBulkAll parts + 1
  | .iface _ d => uptoBulk d + 1
  | .map entries => uptoBulkEntries entries + 1
  | .held _ => 1
def uptoBulkAll {H : Type} : List (DataW H) → Nat
  | [] => 0
  | d :: r => uptoBulk d + uptoBulkAll r
def uptoBulkEntries {H : Type} : List (Lit × DataW H) → Nat
  | [] => 0
  | x :: r => uptoBulkEntry x + uptoBulkEntries r
def uptoBulkEntry {H : Type} : Lit × DataW H → Nat
  | (.string bytes, d) => bytes.length + uptoBulk d + 1
  | (_, d) => uptoBulk d + 1
 end
def uptoSmall : (H : Type) → List (DataW H) → Bool := fun _ ds => decide (uptoBulkAll ds ≤ 1048576)
def OpenSpec.upto (s : _root_.Go.ChangeSpec) : _root_.Go.OpenSpec := { _root_.Go.OpenSpec.ofChange s with cond := some uptoSmall }

/-- 'laws.FnExactFuncNames', WHERE WHAT IT READS IS OF BULK AT MOST 1048576: true; the input reads as it did. -/
def fnExactFuncNamesUptoRow : OpenClaim := { program := "ytfdmfkonneonaaa", sum := "0b80cf8e8cead476ebaf975bc9d01a437581e8aa25e1eeeff43563987dff3ce6", func := "loop.example/g01543/laws.FnExactFuncNames", spec := "fnExactFuncNames", recurses := true, apart := false, narrowed := true }
def FnExactFuncNamesUptoSaid : Prop := fnExactFuncNamesUptoRow.holds Try.pinned (OpenSpec.upto fnExactFuncNamesSpec)

/-- 'laws.FnExactNamesOf', WHERE WHAT IT READS IS OF BULK AT MOST 1048576: true; the input reads as it did. -/
def fnExactNamesOfUptoRow : OpenClaim := { program := "ytfdmfkonneonaaa", sum := "0b80cf8e8cead476ebaf975bc9d01a437581e8aa25e1eeeff43563987dff3ce6", func := "loop.example/g01543/laws.FnExactNamesOf", spec := "fnExactNamesOf", unfollowed := true, recurses := true, apart := false, narrowed := true }
def FnExactNamesOfUptoSaid : Prop := fnExactNamesOfUptoRow.holds Try.pinned (OpenSpec.upto fnExactNamesOfSpec)

/-- 'laws.FnExactUndefined', WHERE WHAT IT READS IS OF BULK AT MOST 1048576: true; the input reads as it did. -/
def fnExactUndefinedUptoRow : OpenClaim := { program := "ytfdmfkonneonaaa", sum := "0b80cf8e8cead476ebaf975bc9d01a437581e8aa25e1eeeff43563987dff3ce6", func := "loop.example/g01543/laws.FnExactUndefined", spec := "fnExactUndefined", unfollowed := true, recurses := true, apart := false, narrowed := true }
def FnExactUndefinedUptoSaid : Prop := fnExactUndefinedUptoRow.holds Try.pinned (OpenSpec.upto fnExactUndefinedSpec)

end Rows
end Go.Proofs.Ytfdmfkonneonaaa
