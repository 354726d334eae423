/-
  No cell of these rows narrows 'for every input' (looked for: loops, veiled, ifaces, maps, wideKeys, modest, calm, conditions, laid).
  DERIVED. THE GIVEN ROWS OF THIS SEAT. 12 by the template 'for every input the law returns true; each argument reads behind the call as it read before'; 0 by the template 'total and deterministic' (their statements: YtbmaaeddkppbhaaTotals.lean).
  GIVEN WITH THE SEED: the statements are not yours to turn. If you find one false, say at which input.
  Laid BY PROGRAM, IN A SANDBOX (cutbox-rows.mjs): the forced cells as the released guide's own fill.sh prints them over the translation 1c82682dc8b5497d… (all of the seat's roots in one cut). By AI agents, Wed Nov 11 2026. No macro, syntax, notation, axiom, sorry.
-/
import Derived.Test.YtbmaaeddkppbhaaChecked
import GoSem.Claim
import GoSem.ClaimJoined
import GoSem.ClaimMapViews
import Derived.JoinedTies
import Derived.KernelRfl
namespace Go.Proofs.Ytbmaaeddkppbhaa
/- THE CELL 'sum', in the pinned program and in every row, IS THE sha256 OF THE DUMP (.gsa) THAT YtbmaaeddkppbhaaProg.lean LOADS. Nothing in Lean hashes anything: it is a label: what it is worth is what the hold of that sum in a sandbox is worth. -/
noncomputable def Try.pinned : Pinned := { name := "ytbmaaeddkppbhaa", sum := "1c82682dc8b5497d064a5f3600f636e5ec6ea41188b8f152295b40277bcbf290", checked := Try.checked }
namespace Rows
def none {H : Type} : Left H := { results := [], args := [] }

/-- 'laws.FnExactEndsStmt': WHATEVER THE INPUT: true; the input reads as it did. -/
def fnExactEndsStmtSpec : ChangeSpec := { name := "fnExactEndsStmt", fn := fun _ => fun
  | [d] => { results := [.lit (.bool true)], args := [d] }
  | _ => none }
def fnExactEndsStmtRow : OpenClaim := { program := "ytbmaaeddkppbhaa", sum := "1c82682dc8b5497d064a5f3600f636e5ec6ea41188b8f152295b40277bcbf290", func := "loop.example/g01543/laws.FnExactEndsStmt", spec := "fnExactEndsStmt", apart := false }
def FnExactEndsStmtSaid : Prop := fnExactEndsStmtRow.holds Try.pinned (OpenSpec.ofChange fnExactEndsStmtSpec)

/-- ITS FALSE NEIGHBOUR: 'it returns false'. Refute it at one input. -/
def fnExactEndsStmtWrong : ChangeSpec := { name := "fnExactEndsStmt", fn := fun _ => fun
  | [d] => { results := [.lit (.bool false)], args := [d] }
  | _ => none }
def FnExactEndsStmtWrongFalsely : Prop := fnExactEndsStmtRow.holds Try.pinned (OpenSpec.ofChange fnExactEndsStmtWrong)

/-- 'laws.FnExactVarOf': WHATEVER THE INPUT: true; the input reads as it did. -/
def fnExactVarOfSpec : ChangeSpec := { name := "fnExactVarOf", fn := fun _ => fun
  | [d1, d2] => { results := [.lit (.bool true)], args := [d1, d2] }
  | _ => none }
def fnExactVarOfRow : OpenClaim := { program := "ytbmaaeddkppbhaa", sum := "1c82682dc8b5497d064a5f3600f636e5ec6ea41188b8f152295b40277bcbf290", func := "loop.example/g01543/laws.FnExactVarOf", spec := "fnExactVarOf", apart := false }
def FnExactVarOfSaid : Prop := fnExactVarOfRow.holds Try.pinned (OpenSpec.ofChange fnExactVarOfSpec)

/-- ITS FALSE NEIGHBOUR: 'it returns false'. Refute it at one input. -/
def fnExactVarOfWrong : ChangeSpec := { name := "fnExactVarOf", fn := fun _ => fun
  | [d1, d2] => { results := [.lit (.bool false)], args := [d1, d2] }
  | _ => none }
def FnExactVarOfWrongFalsely : Prop := fnExactVarOfRow.holds Try.pinned (OpenSpec.ofChange fnExactVarOfWrong)

/-- 'laws.FnExactCommon': WHATEVER THE INPUT: true; the input reads as it did. -/
def fnExactCommonSpec : ChangeSpec := { name := "fnExactCommon", fn := fun _ => fun
  | [d1, d2] => { results := [.lit (.bool true)], args := [d1, d2] }
  | _ => none }
def fnExactCommonRow : OpenClaim := { program := "ytbmaaeddkppbhaa", sum := "1c82682dc8b5497d064a5f3600f636e5ec6ea41188b8f152295b40277bcbf290", func := "loop.example/g01543/laws.FnExactCommon", spec := "fnExactCommon", apart := false }
def FnExactCommonSaid : Prop := fnExactCommonRow.holds Try.pinned (OpenSpec.ofChange fnExactCommonSpec)

/-- ITS FALSE NEIGHBOUR: 'it returns false'. Refute it at one input. -/
def fnExactCommonWrong : ChangeSpec := { name := "fnExactCommon", fn := fun _ => fun
  | [d1, d2] => { results := [.lit (.bool false)], args := [d1, d2] }
  | _ => none }
def FnExactCommonWrongFalsely : Prop := fnExactCommonRow.holds Try.pinned (OpenSpec.ofChange fnExactCommonWrong)

/-- 'laws.FnExactSide': WHATEVER THE INPUT: true; the input reads as it did. -/
def fnExactSideSpec : ChangeSpec := { name := "fnExactSide", fn := fun _ => fun
  | [d1, d2] => { results := [.lit (.bool true)], args := [d1, d2] }
  | _ => none }
def fnExactSideRow : OpenClaim := { program := "ytbmaaeddkppbhaa", sum := "1c82682dc8b5497d064a5f3600f636e5ec6ea41188b8f152295b40277bcbf290", func := "loop.example/g01543/laws.FnExactSide", spec := "fnExactSide", apart := false }
def FnExactSideSaid : Prop := fnExactSideRow.holds Try.pinned (OpenSpec.ofChange fnExactSideSpec)

/-- ITS FALSE NEIGHBOUR: 'it returns false'. Refute it at one input. -/
def fnExactSideWrong : ChangeSpec := { name := "fnExactSide", fn := fun _ => fun
  | [d1, d2] => { results := [.lit (.bool false)], args := [d1, d2] }
  | _ => none }
def FnExactSideWrongFalsely : Prop := fnExactSideRow.holds Try.pinned (OpenSpec.ofChange fnExactSideWrong)

/-- 'laws.FnExactOperands': WHATEVER THE INPUT: true; the input reads as it did. -/
def fnExactOperandsSpec : ChangeSpec := { name := "fnExactOperands", fn := fun _ => fun
  | [d] => { results := [.lit (.bool true)], args := [d] }
  | _ => none }
def fnExactOperandsRow : OpenClaim := { program := "ytbmaaeddkppbhaa", sum := "1c82682dc8b5497d064a5f3600f636e5ec6ea41188b8f152295b40277bcbf290", func := "loop.example/g01543/laws.FnExactOperands", spec := "fnExactOperands", apart := false }
def FnExactOperandsSaid : Prop := fnExactOperandsRow.holds Try.pinned (OpenSpec.ofChange fnExactOperandsSpec)

/-- ITS FALSE NEIGHBOUR: 'it returns false'. Refute it at one input. -/
def fnExactOperandsWrong : ChangeSpec := { name := "fnExactOperands", fn := fun _ => fun
  | [d] => { results := [.lit (.bool false)], args := [d] }
  | _ => none }
def FnExactOperandsWrongFalsely : Prop := fnExactOperandsRow.holds Try.pinned (OpenSpec.ofChange fnExactOperandsWrong)

/-- 'laws.FnExactBare': WHATEVER THE INPUT: true; the input reads as it did. -/
def fnExactBareSpec : ChangeSpec := { name := "fnExactBare", fn := fun _ => fun
  | [d1, d2] => { results := [.lit (.bool true)], args := [d1, d2] }
  | _ => none }
def fnExactBareRow : OpenClaim := { program := "ytbmaaeddkppbhaa", sum := "1c82682dc8b5497d064a5f3600f636e5ec6ea41188b8f152295b40277bcbf290", func := "loop.example/g01543/laws.FnExactBare", spec := "fnExactBare", apart := false }
def FnExactBareSaid : Prop := fnExactBareRow.holds Try.pinned (OpenSpec.ofChange fnExactBareSpec)

/-- ITS FALSE NEIGHBOUR: 'it returns false'. Refute it at one input. -/
def fnExactBareWrong : ChangeSpec := { name := "fnExactBare", fn := fun _ => fun
  | [d1, d2] => { results := [.lit (.bool false)], args := [d1, d2] }
  | _ => none }
def FnExactBareWrongFalsely : Prop := fnExactBareRow.holds Try.pinned (OpenSpec.ofChange fnExactBareWrong)

/-- 'laws.FnExactNestOf': WHATEVER THE INPUT: true; the input reads as it did. -/
def fnExactNestOfSpec : ChangeSpec := { name := "fnExactNestOf", fn := fun _ => fun
  | [d] => { results := [.lit (.bool true)], args := [d] }
  | _ => none }
def fnExactNestOfRow : OpenClaim := { program := "ytbmaaeddkppbhaa", sum := "1c82682dc8b5497d064a5f3600f636e5ec6ea41188b8f152295b40277bcbf290", func := "loop.example/g01543/laws.FnExactNestOf", spec := "fnExactNestOf", apart := false }
def FnExactNestOfSaid : Prop := fnExactNestOfRow.holds Try.pinned (OpenSpec.ofChange fnExactNestOfSpec)

/-- ITS FALSE NEIGHBOUR: 'it returns false'. Refute it at one input. -/
def fnExactNestOfWrong : ChangeSpec := { name := "fnExactNestOf", fn := fun _ => fun
  | [d] => { results := [.lit (.bool false)], args := [d] }
  | _ => none }
def FnExactNestOfWrongFalsely : Prop := fnExactNestOfRow.holds Try.pinned (OpenSpec.ofChange fnExactNestOfWrong)

/-- 'laws.FnExactGroupsIn': WHATEVER THE INPUT: true; the input reads as it did. -/
def fnExactGroupsInSpec : ChangeSpec := { name := "fnExactGroupsIn", fn := fun _ => fun
  | [d] => { results := [.lit (.bool true)], args := [d] }
  | _ => none }
def fnExactGroupsInRow : OpenClaim := { program := "ytbmaaeddkppbhaa", sum := "1c82682dc8b5497d064a5f3600f636e5ec6ea41188b8f152295b40277bcbf290", func := "loop.example/g01543/laws.FnExactGroupsIn", spec := "fnExactGroupsIn", apart := false }
def FnExactGroupsInSaid : Prop := fnExactGroupsInRow.holds Try.pinned (OpenSpec.ofChange fnExactGroupsInSpec)

/-- ITS FALSE NEIGHBOUR: 'it returns false'. Refute it at one input. -/
def fnExactGroupsInWrong : ChangeSpec := { name := "fnExactGroupsIn", fn := fun _ => fun
  | [d] => { results := [.lit (.bool false)], args := [d] }
  | _ => none }
def FnExactGroupsInWrongFalsely : Prop := fnExactGroupsInRow.holds Try.pinned (OpenSpec.ofChange fnExactGroupsInWrong)

/-- 'laws.FnExactWithout': WHATEVER THE INPUT: true; the input reads as it did. -/
def fnExactWithoutSpec : ChangeSpec := { name := "fnExactWithout", fn := fun _ => fun
  | [d1, d2] => { results := [.lit (.bool true)], args := [d1, d2] }
  | _ => none }
def fnExactWithoutRow : OpenClaim := { program := "ytbmaaeddkppbhaa", sum := "1c82682dc8b5497d064a5f3600f636e5ec6ea41188b8f152295b40277bcbf290", func := "loop.example/g01543/laws.FnExactWithout", spec := "fnExactWithout", apart := false }
def FnExactWithoutSaid : Prop := fnExactWithoutRow.holds Try.pinned (OpenSpec.ofChange fnExactWithoutSpec)

/-- ITS FALSE NEIGHBOUR: 'it returns false'. Refute it at one input. -/
def fnExactWithoutWrong : ChangeSpec := { name := "fnExactWithout", fn := fun _ => fun
  | [d1, d2] => { results := [.lit (.bool false)], args := [d1, d2] }
  | _ => none }
def FnExactWithoutWrongFalsely : Prop := fnExactWithoutRow.holds Try.pinned (OpenSpec.ofChange fnExactWithoutWrong)

/-- 'laws.FnExactStatements': WHATEVER THE INPUT: true; the input reads as it did. -/
def fnExactStatementsSpec : ChangeSpec := { name := "fnExactStatements", fn := fun _ => fun
  | [d] => { results := [.lit (.bool true)], args := [d] }
  | _ => none }
def fnExactStatementsRow : OpenClaim := { program := "ytbmaaeddkppbhaa", sum := "1c82682dc8b5497d064a5f3600f636e5ec6ea41188b8f152295b40277bcbf290", func := "loop.example/g01543/laws.FnExactStatements", spec := "fnExactStatements", apart := false }
def FnExactStatementsSaid : Prop := fnExactStatementsRow.holds Try.pinned (OpenSpec.ofChange fnExactStatementsSpec)

/-- ITS FALSE NEIGHBOUR: 'it returns false'. Refute it at one input. -/
def fnExactStatementsWrong : ChangeSpec := { name := "fnExactStatements", fn := fun _ => fun
  | [d] => { results := [.lit (.bool false)], args := [d] }
  | _ => none }
def FnExactStatementsWrongFalsely : Prop := fnExactStatementsRow.holds Try.pinned (OpenSpec.ofChange fnExactStatementsWrong)

/-- 'laws.FnExactTokenComments': WHATEVER THE INPUT: true; the input reads as it did. -/
def fnExactTokenCommentsSpec : ChangeSpec := { name := "fnExactTokenComments", fn := fun _ => fun
  | [d] => { results := [.lit (.bool true)], args := [d] }
  | _ => none }
def fnExactTokenCommentsRow : OpenClaim := { program := "ytbmaaeddkppbhaa", sum := "1c82682dc8b5497d064a5f3600f636e5ec6ea41188b8f152295b40277bcbf290", func := "loop.example/g01543/laws.FnExactTokenComments", spec := "fnExactTokenComments", apart := false }
def FnExactTokenCommentsSaid : Prop := fnExactTokenCommentsRow.holds Try.pinned (OpenSpec.ofChange fnExactTokenCommentsSpec)

/-- ITS FALSE NEIGHBOUR: 'it returns false'. Refute it at one input. -/
def fnExactTokenCommentsWrong : ChangeSpec := { name := "fnExactTokenComments", fn := fun _ => fun
  | [d] => { results := [.lit (.bool false)], args := [d] }
  | _ => none }
def FnExactTokenCommentsWrongFalsely : Prop := fnExactTokenCommentsRow.holds Try.pinned (OpenSpec.ofChange fnExactTokenCommentsWrong)

/-- 'laws.FnExactSameDoc': WHATEVER THE INPUT: true; the input reads as it did. -/
def fnExactSameDocSpec : ChangeSpec := { name := "fnExactSameDoc", fn := fun _ => fun
  | [d1, d2] => { results := [.lit (.bool true)], args := [d1, d2] }
  | _ => none }
def fnExactSameDocRow : OpenClaim := { program := "ytbmaaeddkppbhaa", sum := "1c82682dc8b5497d064a5f3600f636e5ec6ea41188b8f152295b40277bcbf290", func := "loop.example/g01543/laws.FnExactSameDoc", spec := "fnExactSameDoc", apart := false }
def FnExactSameDocSaid : Prop := fnExactSameDocRow.holds Try.pinned (OpenSpec.ofChange fnExactSameDocSpec)

/-- ITS FALSE NEIGHBOUR: 'it returns false'. Refute it at one input. -/
def fnExactSameDocWrong : ChangeSpec := { name := "fnExactSameDoc", fn := fun _ => fun
  | [d1, d2] => { results := [.lit (.bool false)], args := [d1, d2] }
  | _ => none }
def FnExactSameDocWrongFalsely : Prop := fnExactSameDocRow.holds Try.pinned (OpenSpec.ofChange fnExactSameDocWrong)

/- THE SECOND FORM. 'bulk': how many values and letters a reading holds, each counted each time it is reached (what is shared counts as often as it is met; a slice's spare places count too). A statement '..UptoSaid' is the law's where the arguments, and the package variables that the reading takes, are together of bulk at most 1048576: NARROWER than '..Said'. Prove '..Said' where nothing that the law and all that it calls make is longer than what came in: it says more and counts as full. Else prove '..UptoSaid'. A law counts once. -/
mutual
def uptoBulk {H : Type} : DataW H → Nat
  | .lit (.string bytes) => bytes.length + 1
  | .lit _ => 1
  | .nil => 1
  | .ptr d => uptoBulk d + 1
  | .slice elems spare => uptoBulkAll elems + uptoBulkAll spare + 1
  | .agg parts => uptoBulkAll parts + 1
  | .iface _ d => uptoBulk d + 1
  | .map entries => uptoBulkEntries entries + 1
  | .held _ => 1
def uptoBulkAll {H : Type} : List (DataW H) → Nat
  | [] => 0
  | d :: r => uptoBulk d + uptoBulkAll r
def uptoBulkEntries {H : Type} : List (Lit × DataW H) → Nat
  | [] => 0
  | x :: r => uptoBulkEntry x + uptoBulkEntries r
def uptoBulkEntry {H : Type} : Lit × DataW H → Nat
  | (.string bytes, d) => bytes.length + uptoBulk d + 1
  | (_, d) => uptoBulk d + 1
 end
def uptoSmall : (H : Type) → List (DataW H) → Bool := fun _ ds => decide (uptoBulkAll ds ≤ 1048576)
def OpenSpec.upto (s : _root_.Go.ChangeSpec) : _root_.Go.OpenSpec := { _root_.Go.OpenSpec.ofChange s with cond := some uptoSmall }

/-- 'laws.FnExactEndsStmt', WHERE WHAT IT READS IS OF BULK AT MOST 1048576: true; the input reads as it did. -/
def fnExactEndsStmtUptoRow : OpenClaim := { program := "ytbmaaeddkppbhaa", sum := "1c82682dc8b5497d064a5f3600f636e5ec6ea41188b8f152295b40277bcbf290", func := "loop.example/g01543/laws.FnExactEndsStmt", spec := "fnExactEndsStmt", apart := false, narrowed := true }
def FnExactEndsStmtUptoSaid : Prop := fnExactEndsStmtUptoRow.holds Try.pinned (OpenSpec.upto fnExactEndsStmtSpec)

/-- 'laws.FnExactVarOf', WHERE WHAT IT READS IS OF BULK AT MOST 1048576: true; the input reads as it did. -/
def fnExactVarOfUptoRow : OpenClaim := { program := "ytbmaaeddkppbhaa", sum := "1c82682dc8b5497d064a5f3600f636e5ec6ea41188b8f152295b40277bcbf290", func := "loop.example/g01543/laws.FnExactVarOf", spec := "fnExactVarOf", apart := false, narrowed := true }
def FnExactVarOfUptoSaid : Prop := fnExactVarOfUptoRow.holds Try.pinned (OpenSpec.upto fnExactVarOfSpec)

/-- 'laws.FnExactCommon', WHERE WHAT IT READS IS OF BULK AT MOST 1048576: true; the input reads as it did. -/
def fnExactCommonUptoRow : OpenClaim := { program := "ytbmaaeddkppbhaa", sum := "1c82682dc8b5497d064a5f3600f636e5ec6ea41188b8f152295b40277bcbf290", func := "loop.example/g01543/laws.FnExactCommon", spec := "fnExactCommon", apart := false, narrowed := true }
def FnExactCommonUptoSaid : Prop := fnExactCommonUptoRow.holds Try.pinned (OpenSpec.upto fnExactCommonSpec)

/-- 'laws.FnExactSide', WHERE WHAT IT READS IS OF BULK AT MOST 1048576: true; the input reads as it did. -/
def fnExactSideUptoRow : OpenClaim := { program := "ytbmaaeddkppbhaa", sum := "1c82682dc8b5497d064a5f3600f636e5ec6ea41188b8f152295b40277bcbf290", func := "loop.example/g01543/laws.FnExactSide", spec := "fnExactSide", apart := false, narrowed := true }
def FnExactSideUptoSaid : Prop := fnExactSideUptoRow.holds Try.pinned (OpenSpec.upto fnExactSideSpec)

/-- 'laws.FnExactOperands', WHERE WHAT IT READS IS OF BULK AT MOST 1048576: true; the input reads as it did. -/
def fnExactOperandsUptoRow : OpenClaim := { program := "ytbmaaeddkppbhaa", sum := "1c82682dc8b5497d064a5f3600f636e5ec6ea41188b8f152295b40277bcbf290", func := "loop.example/g01543/laws.FnExactOperands", spec := "fnExactOperands", apart := false, narrowed := true }
def FnExactOperandsUptoSaid : Prop := fnExactOperandsUptoRow.holds Try.pinned (OpenSpec.upto fnExactOperandsSpec)

/-- 'laws.FnExactBare', WHERE WHAT IT READS IS OF BULK AT MOST 1048576: true; the input reads as it did. -/
def fnExactBareUptoRow : OpenClaim := { program := "ytbmaaeddkppbhaa", sum := "1c82682dc8b5497d064a5f3600f636e5ec6ea41188b8f152295b40277bcbf290", func := "loop.example/g01543/laws.FnExactBare", spec := "fnExactBare", apart := false, narrowed := true }
def FnExactBareUptoSaid : Prop := fnExactBareUptoRow.holds Try.pinned (OpenSpec.upto fnExactBareSpec)

/-- 'laws.FnExactNestOf', WHERE WHAT IT READS IS OF BULK AT MOST 1048576: true; the input reads as it did. -/
def fnExactNestOfUptoRow : OpenClaim := { program := "ytbmaaeddkppbhaa", sum := "1c82682dc8b5497d064a5f3600f636e5ec6ea41188b8f152295b40277bcbf290", func := "loop.example/g01543/laws.FnExactNestOf", spec := "fnExactNestOf", apart := false, narrowed := true }
def FnExactNestOfUptoSaid : Prop := fnExactNestOfUptoRow.holds Try.pinned (OpenSpec.upto fnExactNestOfSpec)

/-- 'laws.FnExactGroupsIn', WHERE WHAT IT READS IS OF BULK AT MOST 1048576: true; the input reads as it did. -/
def fnExactGroupsInUptoRow : OpenClaim := { program := "ytbmaaeddkppbhaa", sum := "1c82682dc8b5497d064a5f3600f636e5ec6ea41188b8f152295b40277bcbf290", func := "loop.example/g01543/laws.FnExactGroupsIn", spec := "fnExactGroupsIn", apart := false, narrowed := true }
def FnExactGroupsInUptoSaid : Prop := fnExactGroupsInUptoRow.holds Try.pinned (OpenSpec.upto fnExactGroupsInSpec)

/-- 'laws.FnExactWithout', WHERE WHAT IT READS IS OF BULK AT MOST 1048576: true; the input reads as it did. -/
def fnExactWithoutUptoRow : OpenClaim := { program := "ytbmaaeddkppbhaa", sum := "1c82682dc8b5497d064a5f3600f636e5ec6ea41188b8f152295b40277bcbf290", func := "loop.example/g01543/laws.FnExactWithout", spec := "fnExactWithout", apart := false, narrowed := true }
def FnExactWithoutUptoSaid : Prop := fnExactWithoutUptoRow.holds Try.pinned (OpenSpec.upto fnExactWithoutSpec)

/-- 'laws.FnExactStatements', WHERE WHAT IT READS IS OF BULK AT MOST 1048576: true; the input reads as it did. -/
def fnExactStatementsUptoRow : OpenClaim := { program := "ytbmaaeddkppbhaa", sum := "1c82682dc8b5497d064a5f3600f636e5ec6ea41188b8f152295b40277bcbf290", func := "loop.example/g01543/laws.FnExactStatements", spec := "fnExactStatements", apart := false, narrowed := true }
def FnExactStatementsUptoSaid : Prop := fnExactStatementsUptoRow.holds Try.pinned (OpenSpec.upto fnExactStatementsSpec)

/-- 'laws.FnExactTokenComments', WHERE WHAT IT READS IS OF BULK AT MOST 1048576: true; the input reads as it did. -/
def fnExactTokenCommentsUptoRow : OpenClaim := { program := "ytbmaaeddkppbhaa", sum := "1c82682dc8b5497d064a5f3600f636e5ec6ea41188b8f152295b40277bcbf290", func := "loop.example/g01543/laws.FnExactTokenComments", spec := "fnExactTokenComments", apart := false, narrowed := true }
def FnExactTokenCommentsUptoSaid : Prop := fnExactTokenCommentsUptoRow.holds Try.pinned (OpenSpec.upto fnExactTokenCommentsSpec)

/-- 'laws.FnExactSameDoc', WHERE WHAT IT READS IS OF BULK AT MOST 1048576: true; the input reads as it did. -/
def fnExactSameDocUptoRow : OpenClaim := { program := "ytbmaaeddkppbhaa", sum := "1c82682dc8b5497d064a5f3600f636e5ec6ea41188b8f152295b40277bcbf290", func := "loop.example/g01543/laws.FnExactSameDoc", spec := "fnExactSameDoc", apart := false, narrowed := true }
def FnExactSameDocUptoSaid : Prop := fnExactSameDocUptoRow.holds Try.pinned (OpenSpec.upto fnExactSameDocSpec)

end Rows
end Go.Proofs.Ytbmaaeddkppbhaa
