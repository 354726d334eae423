/-
  No cell of these rows narrows 'for every input' (looked for: loops, veiled, ifaces, maps, wideKeys, modest, calm, conditions, laid).
  DERIVED. THE GIVEN ROWS OF THIS SEAT. 10 by the template 'for every input the law returns true; each argument reads behind the call as it read before'; 0 by the template 'total and deterministic' (their statements: YtagoeiegdlnalaaTotals.lean).
  GIVEN WITH THE SEED: the statements are not yours to turn. If you find one false, say at which input.
  Laid BY PROGRAM, IN A SANDBOX (cutbox-rows.mjs): the forced cells as the released guide's own fill.sh prints them over the translation 6be7e26a055cdb4c… (all of the seat's roots in one cut). By AI agents, Wed Nov 11 2026. No macro, syntax, notation, axiom, sorry.
-/
import Derived.Test.YtagoeiegdlnalaaChecked
import GoSem.Claim
import GoSem.ClaimJoined
import GoSem.ClaimMapViews
import Derived.JoinedTies
import Derived.KernelRfl
namespace Go.Proofs.Ytagoeiegdlnalaa
/- THE CELL 'sum', in the pinned program and in every row, IS THE sha256 OF THE DUMP (.gsa) THAT YtagoeiegdlnalaaProg.lean LOADS. Nothing in Lean hashes anything: it is a label: what it is worth is what the hold of that sum in a sandbox is worth. -/
noncomputable def Try.pinned : Pinned := { name := "ytagoeiegdlnalaa", sum := "6be7e26a055cdb4caeb2b4f77562c7945f0ea4c9f96bd06d4325d531467bc893", checked := Try.checked }
namespace Rows
def none {H : Type} : Left H := { results := [], args := [] }

/-- 'laws.FnExactDiff': WHATEVER THE INPUT: true; the input reads as it did. -/
def fnExactDiffSpec : ChangeSpec := { name := "fnExactDiff", fn := fun _ => fun
  | [d1, d2] => { results := [.lit (.bool true)], args := [d1, d2] }
  | _ => none }
def fnExactDiffRow : OpenClaim := { program := "ytagoeiegdlnalaa", sum := "6be7e26a055cdb4caeb2b4f77562c7945f0ea4c9f96bd06d4325d531467bc893", func := "loop.example/g01543/laws.FnExactDiff", spec := "fnExactDiff", apart := false }
def FnExactDiffSaid : Prop := fnExactDiffRow.holds Try.pinned (OpenSpec.ofChange fnExactDiffSpec)

/-- ITS FALSE NEIGHBOUR: 'it returns false'. Refute it at one input. -/
def fnExactDiffWrong : ChangeSpec := { name := "fnExactDiff", fn := fun _ => fun
  | [d1, d2] => { results := [.lit (.bool false)], args := [d1, d2] }
  | _ => none }
def FnExactDiffWrongFalsely : Prop := fnExactDiffRow.holds Try.pinned (OpenSpec.ofChange fnExactDiffWrong)

/-- 'laws.FnExactUsesOf': WHATEVER THE INPUT: true; the input reads as it did. -/
def fnExactUsesOfSpec : ChangeSpec := { name := "fnExactUsesOf", fn := fun _ => fun
  | [d1, d2] => { results := [.lit (.bool true)], args := [d1, d2] }
  | _ => none }
def fnExactUsesOfRow : OpenClaim := { program := "ytagoeiegdlnalaa", sum := "6be7e26a055cdb4caeb2b4f77562c7945f0ea4c9f96bd06d4325d531467bc893", func := "loop.example/g01543/laws.FnExactUsesOf", spec := "fnExactUsesOf", unfollowed := true, recurses := true, apart := false }
def FnExactUsesOfSaid : Prop := fnExactUsesOfRow.holds Try.pinned (OpenSpec.ofChange fnExactUsesOfSpec)

/-- ITS FALSE NEIGHBOUR: 'it returns false'. Refute it at one input. -/
def fnExactUsesOfWrong : ChangeSpec := { name := "fnExactUsesOf", fn := fun _ => fun
  | [d1, d2] => { results := [.lit (.bool false)], args := [d1, d2] }
  | _ => none }
def FnExactUsesOfWrongFalsely : Prop := fnExactUsesOfRow.holds Try.pinned (OpenSpec.ofChange fnExactUsesOfWrong)

/-- 'laws.FnExactBranches': WHATEVER THE INPUT: true; the input reads as it did. -/
def fnExactBranchesSpec : ChangeSpec := { name := "fnExactBranches", fn := fun _ => fun
  | [d] => { results := [.lit (.bool true)], args := [d] }
  | _ => none }
def fnExactBranchesRow : OpenClaim := { program := "ytagoeiegdlnalaa", sum := "6be7e26a055cdb4caeb2b4f77562c7945f0ea4c9f96bd06d4325d531467bc893", func := "loop.example/g01543/laws.FnExactBranches", spec := "fnExactBranches", apart := false }
def FnExactBranchesSaid : Prop := fnExactBranchesRow.holds Try.pinned (OpenSpec.ofChange fnExactBranchesSpec)

/-- ITS FALSE NEIGHBOUR: 'it returns false'. Refute it at one input. -/
def fnExactBranchesWrong : ChangeSpec := { name := "fnExactBranches", fn := fun _ => fun
  | [d] => { results := [.lit (.bool false)], args := [d] }
  | _ => none }
def FnExactBranchesWrongFalsely : Prop := fnExactBranchesRow.holds Try.pinned (OpenSpec.ofChange fnExactBranchesWrong)

/-- 'laws.FnExactFuncsOf': WHATEVER THE INPUT: true; the input reads as it did. -/
def fnExactFuncsOfSpec : ChangeSpec := { name := "fnExactFuncsOf", fn := fun _ => fun
  | [d] => { results := [.lit (.bool true)], args := [d] }
  | _ => none }
def fnExactFuncsOfRow : OpenClaim := { program := "ytagoeiegdlnalaa", sum := "6be7e26a055cdb4caeb2b4f77562c7945f0ea4c9f96bd06d4325d531467bc893", func := "loop.example/g01543/laws.FnExactFuncsOf", spec := "fnExactFuncsOf", apart := false }
def FnExactFuncsOfSaid : Prop := fnExactFuncsOfRow.holds Try.pinned (OpenSpec.ofChange fnExactFuncsOfSpec)

/-- ITS FALSE NEIGHBOUR: 'it returns false'. Refute it at one input. -/
def fnExactFuncsOfWrong : ChangeSpec := { name := "fnExactFuncsOf", fn := fun _ => fun
  | [d] => { results := [.lit (.bool false)], args := [d] }
  | _ => none }
def FnExactFuncsOfWrongFalsely : Prop := fnExactFuncsOfRow.holds Try.pinned (OpenSpec.ofChange fnExactFuncsOfWrong)

/-- 'laws.FnExactPairsOf': WHATEVER THE INPUT: true; the input reads as it did. -/
def fnExactPairsOfSpec : ChangeSpec := { name := "fnExactPairsOf", fn := fun _ => fun
  | [d] => { results := [.lit (.bool true)], args := [d] }
  | _ => none }
def fnExactPairsOfRow : OpenClaim := { program := "ytagoeiegdlnalaa", sum := "6be7e26a055cdb4caeb2b4f77562c7945f0ea4c9f96bd06d4325d531467bc893", func := "loop.example/g01543/laws.FnExactPairsOf", spec := "fnExactPairsOf", apart := false }
def FnExactPairsOfSaid : Prop := fnExactPairsOfRow.holds Try.pinned (OpenSpec.ofChange fnExactPairsOfSpec)

/-- ITS FALSE NEIGHBOUR: 'it returns false'. Refute it at one input. -/
def fnExactPairsOfWrong : ChangeSpec := { name := "fnExactPairsOf", fn := fun _ => fun
  | [d] => { results := [.lit (.bool false)], args := [d] }
  | _ => none }
def FnExactPairsOfWrongFalsely : Prop := fnExactPairsOfRow.holds Try.pinned (OpenSpec.ofChange fnExactPairsOfWrong)

/-- 'laws.FnExactTreeComments': WHATEVER THE INPUT: true; the input reads as it did. -/
def fnExactTreeCommentsSpec : ChangeSpec := { name := "fnExactTreeComments", fn := fun _ => fun
  | [d] => { results := [.lit (.bool true)], args := [d] }
  | _ => none }
def fnExactTreeCommentsRow : OpenClaim := { program := "ytagoeiegdlnalaa", sum := "6be7e26a055cdb4caeb2b4f77562c7945f0ea4c9f96bd06d4325d531467bc893", func := "loop.example/g01543/laws.FnExactTreeComments", spec := "fnExactTreeComments", apart := false }
def FnExactTreeCommentsSaid : Prop := fnExactTreeCommentsRow.holds Try.pinned (OpenSpec.ofChange fnExactTreeCommentsSpec)

/-- ITS FALSE NEIGHBOUR: 'it returns false'. Refute it at one input. -/
def fnExactTreeCommentsWrong : ChangeSpec := { name := "fnExactTreeComments", fn := fun _ => fun
  | [d] => { results := [.lit (.bool false)], args := [d] }
  | _ => none }
def FnExactTreeCommentsWrongFalsely : Prop := fnExactTreeCommentsRow.holds Try.pinned (OpenSpec.ofChange fnExactTreeCommentsWrong)

/-- 'laws.FnExactBlockDepth': WHATEVER THE INPUT: true; the input reads as it did. -/
def fnExactBlockDepthSpec : ChangeSpec := { name := "fnExactBlockDepth", fn := fun _ => fun
  | [d] => { results := [.lit (.bool true)], args := [d] }
  | _ => none }
def fnExactBlockDepthRow : OpenClaim := { program := "ytagoeiegdlnalaa", sum := "6be7e26a055cdb4caeb2b4f77562c7945f0ea4c9f96bd06d4325d531467bc893", func := "loop.example/g01543/laws.FnExactBlockDepth", spec := "fnExactBlockDepth", unfollowed := true, recurses := true, apart := false }
def FnExactBlockDepthSaid : Prop := fnExactBlockDepthRow.holds Try.pinned (OpenSpec.ofChange fnExactBlockDepthSpec)

/-- ITS FALSE NEIGHBOUR: 'it returns false'. Refute it at one input. -/
def fnExactBlockDepthWrong : ChangeSpec := { name := "fnExactBlockDepth", fn := fun _ => fun
  | [d] => { results := [.lit (.bool false)], args := [d] }
  | _ => none }
def FnExactBlockDepthWrongFalsely : Prop := fnExactBlockDepthRow.holds Try.pinned (OpenSpec.ofChange fnExactBlockDepthWrong)

/-- 'laws.FnExactPart': WHATEVER THE INPUT: true; the input reads as it did. -/
def fnExactPartSpec : ChangeSpec := { name := "fnExactPart", fn := fun _ => fun
  | [d1, d2] => { results := [.lit (.bool true)], args := [d1, d2] }
  | _ => none }
def fnExactPartRow : OpenClaim := { program := "ytagoeiegdlnalaa", sum := "6be7e26a055cdb4caeb2b4f77562c7945f0ea4c9f96bd06d4325d531467bc893", func := "loop.example/g01543/laws.FnExactPart", spec := "fnExactPart", unfollowed := true, recurses := true, apart := false }
def FnExactPartSaid : Prop := fnExactPartRow.holds Try.pinned (OpenSpec.ofChange fnExactPartSpec)

/-- ITS FALSE NEIGHBOUR: 'it returns false'. Refute it at one input. -/
def fnExactPartWrong : ChangeSpec := { name := "fnExactPart", fn := fun _ => fun
  | [d1, d2] => { results := [.lit (.bool false)], args := [d1, d2] }
  | _ => none }
def FnExactPartWrongFalsely : Prop := fnExactPartRow.holds Try.pinned (OpenSpec.ofChange fnExactPartWrong)

/-- 'laws.FnExactDocOk': WHATEVER THE INPUT: true; the input reads as it did. -/
def fnExactDocOkSpec : ChangeSpec := { name := "fnExactDocOk", fn := fun _ => fun
  | [d] => { results := [.lit (.bool true)], args := [d] }
  | _ => none }
def fnExactDocOkRow : OpenClaim := { program := "ytagoeiegdlnalaa", sum := "6be7e26a055cdb4caeb2b4f77562c7945f0ea4c9f96bd06d4325d531467bc893", func := "loop.example/g01543/laws.FnExactDocOk", spec := "fnExactDocOk", inPlace := ["internal/bytealg.IndexByteString", "internal/bytealg.IndexString"], named := ["internal/bytealg.MaxLen"], apart := false }
def FnExactDocOkSaid : Prop := fnExactDocOkRow.holds Try.pinned (OpenSpec.ofChange fnExactDocOkSpec)

/-- ITS FALSE NEIGHBOUR: 'it returns false'. Refute it at one input. -/
def fnExactDocOkWrong : ChangeSpec := { name := "fnExactDocOk", fn := fun _ => fun
  | [d] => { results := [.lit (.bool false)], args := [d] }
  | _ => none }
def FnExactDocOkWrongFalsely : Prop := fnExactDocOkRow.holds Try.pinned (OpenSpec.ofChange fnExactDocOkWrong)

/-- 'laws.FnExactFlatText': WHATEVER THE INPUT: true; the input reads as it did. -/
def fnExactFlatTextSpec : ChangeSpec := { name := "fnExactFlatText", fn := fun _ => fun
  | [d] => { results := [.lit (.bool true)], args := [d] }
  | _ => none }
def fnExactFlatTextRow : OpenClaim := { program := "ytagoeiegdlnalaa", sum := "6be7e26a055cdb4caeb2b4f77562c7945f0ea4c9f96bd06d4325d531467bc893", func := "loop.example/g01543/laws.FnExactFlatText", spec := "fnExactFlatText", inPlace := ["internal/bytealg.IndexByteString", "internal/bytealg.IndexString"], recurses := true, named := ["internal/bytealg.MaxLen"], apart := false }
def FnExactFlatTextSaid : Prop := fnExactFlatTextRow.holds Try.pinned (OpenSpec.ofChange fnExactFlatTextSpec)

/-- ITS FALSE NEIGHBOUR: 'it returns false'. Refute it at one input. -/
def fnExactFlatTextWrong : ChangeSpec := { name := "fnExactFlatText", fn := fun _ => fun
  | [d] => { results := [.lit (.bool false)], args := [d] }
  | _ => none }
def FnExactFlatTextWrongFalsely : Prop := fnExactFlatTextRow.holds Try.pinned (OpenSpec.ofChange fnExactFlatTextWrong)

/- THE SECOND FORM. 'bulk': how many values and letters a reading holds, each counted each time it is reached (what is shared counts as often as it is met; a slice's spare places count too). A statement '..UptoSaid' is the law's where the arguments, and the package variables that the reading takes, are together of bulk at most 1048576: NARROWER than '..Said'. Prove '..Said' where nothing that the law and all that it calls make is longer than what came in: it says more and counts as full. Else prove '..UptoSaid'. A law counts once. -/
mutual
def uptoBulk {H : Type} : DataW H → Nat
  | .lit (.string bytes) => bytes.length + 1
  | .lit _ => 1
  | .nil => 1
  | .ptr d => uptoBulk d + 1
  | .slice elems spare => uptoBulkAll elems + uptoBulkAll spare + 1
  | .agg parts => uptoBulkAll parts + 1
  | .iface _ d => uptoBulk d + 1
  | .map entries => uptoBulkEntries entries + 1
  | .held _ => 1
def uptoBulkAll {H : Type} : List (DataW H) → Nat
  | [] => 0
  | d :: r => uptoBulk d + uptoBulkAll r
def uptoBulkEntries {H : Type} : List (Lit × DataW H) → Nat
  | [] => 0
  | x :: r => uptoBulkEntry x + uptoBulkEntries r
def uptoBulkEntry {H : Type} : Lit × DataW H → Nat
  | (.string bytes, d) => bytes.length + uptoBulk d + 1
  | (_, d) => uptoBulk d + 1
 end
def uptoSmall : (H : Type) → List (DataW H) → Bool := fun _ ds => decide (uptoBulkAll ds ≤ 1048576)
def OpenSpec.upto (s : _root_.Go.ChangeSpec) : _root_.Go.OpenSpec := { _root_.Go.OpenSpec.ofChange s with cond := some uptoSmall }

/-- 'laws.FnExactDiff', WHERE WHAT IT READS IS OF BULK AT MOST 1048576: true; the input reads as it did. -/
def fnExactDiffUptoRow : OpenClaim := { program := "ytagoeiegdlnalaa", sum := "6be7e26a055cdb4caeb2b4f77562c7945f0ea4c9f96bd06d4325d531467bc893", func := "loop.example/g01543/laws.FnExactDiff", spec := "fnExactDiff", apart := false, narrowed := true }
def FnExactDiffUptoSaid : Prop := fnExactDiffUptoRow.holds Try.pinned (OpenSpec.upto fnExactDiffSpec)

/-- 'laws.FnExactUsesOf', WHERE WHAT IT READS IS OF BULK AT MOST 1048576: true; the input reads as it did. -/
def fnExactUsesOfUptoRow : OpenClaim := { program := "ytagoeiegdlnalaa", sum := "6be7e26a055cdb4caeb2b4f77562c7945f0ea4c9f96bd06d4325d531467bc893", func := "loop.example/g01543/laws.FnExactUsesOf", spec := "fnExactUsesOf", unfollowed := true, recurses := true, apart := false, narrowed := true }
def FnExactUsesOfUptoSaid : Prop := fnExactUsesOfUptoRow.holds Try.pinned (OpenSpec.upto fnExactUsesOfSpec)

/-- 'laws.FnExactBranches', WHERE WHAT IT READS IS OF BULK AT MOST 1048576: true; the input reads as it did. -/
def fnExactBranchesUptoRow : OpenClaim := { program := "ytagoeiegdlnalaa", sum := "6be7e26a055cdb4caeb2b4f77562c7945f0ea4c9f96bd06d4325d531467bc893", func := "loop.example/g01543/laws.FnExactBranches", spec := "fnExactBranches", apart := false, narrowed := true }
def FnExactBranchesUptoSaid : Prop := fnExactBranchesUptoRow.holds Try.pinned (OpenSpec.upto fnExactBranchesSpec)

/-- 'laws.FnExactFuncsOf', WHERE WHAT IT READS IS OF BULK AT MOST 1048576: true; the input reads as it did. -/
def fnExactFuncsOfUptoRow : OpenClaim := { program := "ytagoeiegdlnalaa", sum := "6be7e26a055cdb4caeb2b4f77562c7945f0ea4c9f96bd06d4325d531467bc893", func := "loop.example/g01543/laws.FnExactFuncsOf", spec := "fnExactFuncsOf", apart := false, narrowed := true }
def FnExactFuncsOfUptoSaid : Prop := fnExactFuncsOfUptoRow.holds Try.pinned (OpenSpec.upto fnExactFuncsOfSpec)

/-- 'laws.FnExactPairsOf', WHERE WHAT IT READS IS OF BULK AT MOST 1048576: true; the input reads as it did. -/
def fnExactPairsOfUptoRow : OpenClaim := { program := "ytagoeiegdlnalaa", sum := "6be7e26a055cdb4caeb2b4f77562c7945f0ea4c9f96bd06d4325d531467bc893", func := "loop.example/g01543/laws.FnExactPairsOf", spec := "fnExactPairsOf", apart := false, narrowed := true }
def FnExactPairsOfUptoSaid : Prop := fnExactPairsOfUptoRow.holds Try.pinned (OpenSpec.upto fnExactPairsOfSpec)

/-- 'laws.FnExactTreeComments', WHERE WHAT IT READS IS OF BULK AT MOST 1048576: true; the input reads as it did. -/
def fnExactTreeCommentsUptoRow : OpenClaim := { program := "ytagoeiegdlnalaa", sum := "6be7e26a055cdb4caeb2b4f77562c7945f0ea4c9f96bd06d4325d531467bc893", func := "loop.example/g01543/laws.FnExactTreeComments", spec := "fnExactTreeComments", apart := false, narrowed := true }
def FnExactTreeCommentsUptoSaid : Prop := fnExactTreeCommentsUptoRow.holds Try.pinned (OpenSpec.upto fnExactTreeCommentsSpec)

/-- 'laws.FnExactBlockDepth', WHERE WHAT IT READS IS OF BULK AT MOST 1048576: true; the input reads as it did. -/
def fnExactBlockDepthUptoRow : OpenClaim := { program := "ytagoeiegdlnalaa", sum := "6be7e26a055cdb4caeb2b4f77562c7945f0ea4c9f96bd06d4325d531467bc893", func := "loop.example/g01543/laws.FnExactBlockDepth", spec := "fnExactBlockDepth", unfollowed := true, recurses := true, apart := false, narrowed := true }
def FnExactBlockDepthUptoSaid : Prop := fnExactBlockDepthUptoRow.holds Try.pinned (OpenSpec.upto fnExactBlockDepthSpec)

/-- 'laws.FnExactPart', WHERE WHAT IT READS IS OF BULK AT MOST 1048576: true; the input reads as it did. -/
def fnExactPartUptoRow : OpenClaim := { program := "ytagoeiegdlnalaa", sum := "6be7e26a055cdb4caeb2b4f77562c7945f0ea4c9f96bd06d4325d531467bc893", func := "loop.example/g01543/laws.FnExactPart", spec := "fnExactPart", unfollowed := true, recurses := true, apart := false, narrowed := true }
def FnExactPartUptoSaid : Prop := fnExactPartUptoRow.holds Try.pinned (OpenSpec.upto fnExactPartSpec)

/-- 'laws.FnExactDocOk', WHERE WHAT IT READS IS OF BULK AT MOST 1048576: true; the input reads as it did. -/
def fnExactDocOkUptoRow : OpenClaim := { program := "ytagoeiegdlnalaa", sum := "6be7e26a055cdb4caeb2b4f77562c7945f0ea4c9f96bd06d4325d531467bc893", func := "loop.example/g01543/laws.FnExactDocOk", spec := "fnExactDocOk", inPlace := ["internal/bytealg.IndexByteString", "internal/bytealg.IndexString"], named := ["internal/bytealg.MaxLen"], apart := false, narrowed := true }
def FnExactDocOkUptoSaid : Prop := fnExactDocOkUptoRow.holds Try.pinned (OpenSpec.upto fnExactDocOkSpec)

/-- 'laws.FnExactFlatText', WHERE WHAT IT READS IS OF BULK AT MOST 1048576: true; the input reads as it did. -/
def fnExactFlatTextUptoRow : OpenClaim := { program := "ytagoeiegdlnalaa", sum := "6be7e26a055cdb4caeb2b4f77562c7945f0ea4c9f96bd06d4325d531467bc893", func := "loop.example/g01543/laws.FnExactFlatText", spec := "fnExactFlatText", inPlace := ["internal/bytealg.IndexByteString", "internal/bytealg.IndexString"], recurses := true, named := ["internal/bytealg.MaxLen"], apart := false, narrowed := true }
def FnExactFlatTextUptoSaid : Prop := fnExactFlatTextUptoRow.holds Try.pinned (OpenSpec.upto fnExactFlatTextSpec)

end Rows
end Go.Proofs.Ytagoeiegdlnalaa
