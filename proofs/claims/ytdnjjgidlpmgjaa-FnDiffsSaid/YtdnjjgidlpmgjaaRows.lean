/-
  No cell of these rows narrows 'for every input' (looked for: loops, veiled, ifaces, maps, wideKeys, modest, calm, conditions, laid).
  DERIVED. THE GIVEN ROWS OF THIS SEAT. 8 by the template 'for every input the law returns true; each argument reads behind the call as it read before'; 0 by the template 'total and deterministic' (their statements: YtdnjjgidlpmgjaaTotals.lean).
  GIVEN WITH THE SEED: the statements are not yours to turn. If you find one false, say at which input.
  Laid BY PROGRAM, IN A SANDBOX (cutbox-rows.mjs): the forced cells as the released guide's own fill.sh prints them over the translation 24d36bc1e130ee10… (all of the seat's roots in one cut). By AI agents, Wed Nov 11 2026. No macro, syntax, notation, axiom, sorry.
-/
import Derived.Test.YtdnjjgidlpmgjaaChecked
import GoSem.Claim
import GoSem.ClaimJoined
import GoSem.ClaimMapViews
import Derived.JoinedTies
import Derived.KernelRfl
namespace Go.Proofs.Ytdnjjgidlpmgjaa
/- THE CELL 'sum', in the pinned program and in every row, IS THE sha256 OF THE DUMP (.gsa) THAT YtdnjjgidlpmgjaaProg.lean LOADS. Nothing in Lean hashes anything: it is a label: what it is worth is what the hold of that sum in a sandbox is worth. -/
noncomputable def Try.pinned : Pinned := { name := "ytdnjjgidlpmgjaa", sum := "24d36bc1e130ee1017eaab902e2e55ebc62c3261f8a72b2c88daafa88387d1d4", checked := Try.checked }
namespace Rows
def none {H : Type} : Left H := { results := [], args := [] }

/-- 'laws.FnExactFlatText': WHATEVER THE INPUT: true; the input reads as it did. -/
def fnExactFlatTextSpec : ChangeSpec := { name := "fnExactFlatText", fn := fun _ => fun
  | [d] => { results := [.lit (.bool true)], args := [d] }
  | _ => none }
def fnExactFlatTextRow : OpenClaim := { program := "ytdnjjgidlpmgjaa", sum := "24d36bc1e130ee1017eaab902e2e55ebc62c3261f8a72b2c88daafa88387d1d4", func := "loop.example/g01543/laws.FnExactFlatText", spec := "fnExactFlatText", inPlace := ["internal/bytealg.IndexByteString", "internal/bytealg.IndexString"], recurses := true, named := ["internal/bytealg.MaxLen"], apart := false }
def FnExactFlatTextSaid : Prop := fnExactFlatTextRow.holds Try.pinned (OpenSpec.ofChange fnExactFlatTextSpec)

/-- ITS FALSE NEIGHBOUR: 'it returns false'. Refute it at one input. -/
def fnExactFlatTextWrong : ChangeSpec := { name := "fnExactFlatText", fn := fun _ => fun
  | [d] => { results := [.lit (.bool false)], args := [d] }
  | _ => none }
def FnExactFlatTextWrongFalsely : Prop := fnExactFlatTextRow.holds Try.pinned (OpenSpec.ofChange fnExactFlatTextWrong)

/-- 'laws.FnExactRender': WHATEVER THE INPUT: true; the input reads as it did. -/
def fnExactRenderSpec : ChangeSpec := { name := "fnExactRender", fn := fun _ => fun
  | [d1, d2] => { results := [.lit (.bool true)], args := [d1, d2] }
  | _ => none }
def fnExactRenderRow : OpenClaim := { program := "ytdnjjgidlpmgjaa", sum := "24d36bc1e130ee1017eaab902e2e55ebc62c3261f8a72b2c88daafa88387d1d4", func := "loop.example/g01543/laws.FnExactRender", spec := "fnExactRender", inPlace := ["internal/bytealg.IndexByteString", "internal/bytealg.IndexString", "internal/abi.NoEscape", "internal/bytealg.MakeNoZero"], unfollowed := true, recurses := true, named := ["internal/bytealg.MaxLen"], apart := false }
def FnExactRenderSaid : Prop := fnExactRenderRow.holds Try.pinned (OpenSpec.ofChange fnExactRenderSpec)

/-- ITS FALSE NEIGHBOUR: 'it returns false'. Refute it at one input. -/
def fnExactRenderWrong : ChangeSpec := { name := "fnExactRender", fn := fun _ => fun
  | [d1, d2] => { results := [.lit (.bool false)], args := [d1, d2] }
  | _ => none }
def FnExactRenderWrongFalsely : Prop := fnExactRenderRow.holds Try.pinned (OpenSpec.ofChange fnExactRenderWrong)

/-- 'laws.FnExactIsLayout': WHATEVER THE INPUT: true; the input reads as it did. -/
def fnExactIsLayoutSpec : ChangeSpec := { name := "fnExactIsLayout", fn := fun _ => fun
  | [d1, d2] => { results := [.lit (.bool true)], args := [d1, d2] }
  | _ => none }
def fnExactIsLayoutRow : OpenClaim := { program := "ytdnjjgidlpmgjaa", sum := "24d36bc1e130ee1017eaab902e2e55ebc62c3261f8a72b2c88daafa88387d1d4", func := "loop.example/g01543/laws.FnExactIsLayout", spec := "fnExactIsLayout", inPlace := ["internal/bytealg.IndexByteString", "internal/bytealg.IndexString", "internal/abi.NoEscape", "internal/bytealg.MakeNoZero"], unfollowed := true, recurses := true, named := ["internal/bytealg.MaxLen"], apart := false }
def FnExactIsLayoutSaid : Prop := fnExactIsLayoutRow.holds Try.pinned (OpenSpec.ofChange fnExactIsLayoutSpec)

/-- ITS FALSE NEIGHBOUR: 'it returns false'. Refute it at one input. -/
def fnExactIsLayoutWrong : ChangeSpec := { name := "fnExactIsLayout", fn := fun _ => fun
  | [d1, d2] => { results := [.lit (.bool false)], args := [d1, d2] }
  | _ => none }
def FnExactIsLayoutWrongFalsely : Prop := fnExactIsLayoutRow.holds Try.pinned (OpenSpec.ofChange fnExactIsLayoutWrong)

/-- 'laws.FnExactLayouts': WHATEVER THE INPUT: true; the input reads as it did. -/
def fnExactLayoutsSpec : ChangeSpec := { name := "fnExactLayouts", fn := fun _ => fun
  | [d] => { results := [.lit (.bool true)], args := [d] }
  | _ => none }
def fnExactLayoutsRow : OpenClaim := { program := "ytdnjjgidlpmgjaa", sum := "24d36bc1e130ee1017eaab902e2e55ebc62c3261f8a72b2c88daafa88387d1d4", func := "loop.example/g01543/laws.FnExactLayouts", spec := "fnExactLayouts", inPlace := ["internal/bytealg.IndexByteString", "internal/bytealg.IndexString", "internal/abi.NoEscape", "internal/bytealg.MakeNoZero"], unfollowed := true, recurses := true, named := ["internal/bytealg.MaxLen"], apart := false }
def FnExactLayoutsSaid : Prop := fnExactLayoutsRow.holds Try.pinned (OpenSpec.ofChange fnExactLayoutsSpec)

/-- ITS FALSE NEIGHBOUR: 'it returns false'. Refute it at one input. -/
def fnExactLayoutsWrong : ChangeSpec := { name := "fnExactLayouts", fn := fun _ => fun
  | [d] => { results := [.lit (.bool false)], args := [d] }
  | _ => none }
def FnExactLayoutsWrongFalsely : Prop := fnExactLayoutsRow.holds Try.pinned (OpenSpec.ofChange fnExactLayoutsWrong)

/-- 'laws.FnRender': WHATEVER THE INPUT: true; the input reads as it did. -/
def fnRenderSpec : ChangeSpec := { name := "fnRender", fn := fun _ => fun
  | [d] => { results := [.lit (.bool true)], args := [d] }
  | _ => none }
def fnRenderRow : OpenClaim := { program := "ytdnjjgidlpmgjaa", sum := "24d36bc1e130ee1017eaab902e2e55ebc62c3261f8a72b2c88daafa88387d1d4", func := "loop.example/g01543/laws.FnRender", spec := "fnRender", inPlace := ["internal/bytealg.IndexByteString", "internal/bytealg.IndexString", "internal/abi.NoEscape", "internal/bytealg.MakeNoZero"], unfollowed := true, recurses := true, named := ["internal/bytealg.MaxLen"], apart := false }
def FnRenderSaid : Prop := fnRenderRow.holds Try.pinned (OpenSpec.ofChange fnRenderSpec)

/-- ITS FALSE NEIGHBOUR: 'it returns false'. Refute it at one input. -/
def fnRenderWrong : ChangeSpec := { name := "fnRender", fn := fun _ => fun
  | [d] => { results := [.lit (.bool false)], args := [d] }
  | _ => none }
def FnRenderWrongFalsely : Prop := fnRenderRow.holds Try.pinned (OpenSpec.ofChange fnRenderWrong)

/-- 'laws.FnOneLine': WHATEVER THE INPUT: true; the input reads as it did. -/
def fnOneLineSpec : ChangeSpec := { name := "fnOneLine", fn := fun _ => fun
  | [d] => { results := [.lit (.bool true)], args := [d] }
  | _ => none }
def fnOneLineRow : OpenClaim := { program := "ytdnjjgidlpmgjaa", sum := "24d36bc1e130ee1017eaab902e2e55ebc62c3261f8a72b2c88daafa88387d1d4", func := "loop.example/g01543/laws.FnOneLine", spec := "fnOneLine", inPlace := ["internal/bytealg.IndexByteString", "internal/bytealg.IndexString", "internal/abi.NoEscape", "internal/bytealg.MakeNoZero"], unfollowed := true, recurses := true, named := ["internal/bytealg.MaxLen"], apart := false }
def FnOneLineSaid : Prop := fnOneLineRow.holds Try.pinned (OpenSpec.ofChange fnOneLineSpec)

/-- ITS FALSE NEIGHBOUR: 'it returns false'. Refute it at one input. -/
def fnOneLineWrong : ChangeSpec := { name := "fnOneLine", fn := fun _ => fun
  | [d] => { results := [.lit (.bool false)], args := [d] }
  | _ => none }
def FnOneLineWrongFalsely : Prop := fnOneLineRow.holds Try.pinned (OpenSpec.ofChange fnOneLineWrong)

/-- 'laws.FnDiffs': WHATEVER THE INPUT: true; the input reads as it did. -/
def fnDiffsSpec : ChangeSpec := { name := "fnDiffs", fn := fun _ => fun
  | [d] => { results := [.lit (.bool true)], args := [d] }
  | _ => none }
def fnDiffsRow : OpenClaim := { program := "ytdnjjgidlpmgjaa", sum := "24d36bc1e130ee1017eaab902e2e55ebc62c3261f8a72b2c88daafa88387d1d4", func := "loop.example/g01543/laws.FnDiffs", spec := "fnDiffs", apart := false }
def FnDiffsSaid : Prop := fnDiffsRow.holds Try.pinned (OpenSpec.ofChange fnDiffsSpec)

/-- ITS FALSE NEIGHBOUR: 'it returns false'. Refute it at one input. -/
def fnDiffsWrong : ChangeSpec := { name := "fnDiffs", fn := fun _ => fun
  | [d] => { results := [.lit (.bool false)], args := [d] }
  | _ => none }
def FnDiffsWrongFalsely : Prop := fnDiffsRow.holds Try.pinned (OpenSpec.ofChange fnDiffsWrong)

/-- 'laws.FnExactFuncNames': WHATEVER THE INPUT: true; the input reads as it did. -/
def fnExactFuncNamesSpec : ChangeSpec := { name := "fnExactFuncNames", fn := fun _ => fun
  | [d] => { results := [.lit (.bool true)], args := [d] }
  | _ => none }
def fnExactFuncNamesRow : OpenClaim := { program := "ytdnjjgidlpmgjaa", sum := "24d36bc1e130ee1017eaab902e2e55ebc62c3261f8a72b2c88daafa88387d1d4", func := "loop.example/g01543/laws.FnExactFuncNames", spec := "fnExactFuncNames", recurses := true, apart := false }
def FnExactFuncNamesSaid : Prop := fnExactFuncNamesRow.holds Try.pinned (OpenSpec.ofChange fnExactFuncNamesSpec)

/-- ITS FALSE NEIGHBOUR: 'it returns false'. Refute it at one input. -/
def fnExactFuncNamesWrong : ChangeSpec := { name := "fnExactFuncNames", fn := fun _ => fun
  | [d] => { results := [.lit (.bool false)], args := [d] }
  | _ => none }
def FnExactFuncNamesWrongFalsely : Prop := fnExactFuncNamesRow.holds Try.pinned (OpenSpec.ofChange fnExactFuncNamesWrong)

/- THE SECOND FORM. 'bulk': how many values and letters a reading holds, each counted each time it is reached (what is shared counts as often as it is met; a slice's spare places count too). A statement '..UptoSaid' is the law's where the arguments, and the package variables that the reading takes, are together of bulk at most 1048576: NARROWER than '..Said'. Prove '..Said' where nothing that the law and all that it calls make is longer than what came in: it says more and counts as full. Else prove '..UptoSaid'. A law counts once. -/
mutual
def uptoBulk {H : Type} : DataW H → Nat
  | .lit (.string bytes) => bytes.length + 1
  | .lit _ => 1
  | .nil => 1
  | .ptr d => uptoBulk d + 1
  | .slice elems spare => uptoBulkAll elems + uptoBulkAll spare + 1
  | .agg parts => uptoBulkAll parts + 1
  | .iface _ d => uptoBulk d + 1
  | .map entries => uptoBulkEntries entries + 1
  | .held _ => 1
def uptoBulkAll {H : Type} : List (DataW H) → Nat
  | [] => 0
  | d :: r => uptoBulk d + uptoBulkAll r
def uptoBulkEntries {H : Type} : List (Lit × DataW H) → Nat
  | [] => 0
  | x :: r => uptoBulkEntry x + uptoBulkEntries r
def uptoBulkEntry {H : Type} : Lit × DataW H → Nat
  | (.string bytes, d) => bytes.length + uptoBulk d + 1
  | (_, d) => uptoBulk d + 1
 end
def uptoSmall : (H : Type) → List (DataW H) → Bool := fun _ ds => decide (uptoBulkAll ds ≤ 1048576)
def OpenSpec.upto (s : _root_.Go.ChangeSpec) : _root_.Go.OpenSpec := { _root_.Go.OpenSpec.ofChange s with cond := some uptoSmall }

/-- 'laws.FnExactFlatText', WHERE WHAT IT READS IS OF BULK AT MOST 1048576: true; the input reads as it did. -/
def fnExactFlatTextUptoRow : OpenClaim := { program := "ytdnjjgidlpmgjaa", sum := "24d36bc1e130ee1017eaab902e2e55ebc62c3261f8a72b2c88daafa88387d1d4", func := "loop.example/g01543/laws.FnExactFlatText", spec := "fnExactFlatText", inPlace := ["internal/bytealg.IndexByteString", "internal/bytealg.IndexString"], recurses := true, named := ["internal/bytealg.MaxLen"], apart := false, narrowed := true }
def FnExactFlatTextUptoSaid : Prop := fnExactFlatTextUptoRow.holds Try.pinned (OpenSpec.upto fnExactFlatTextSpec)

/-- 'laws.FnExactRender', WHERE WHAT IT READS IS OF BULK AT MOST 1048576: true; the input reads as it did. -/
def fnExactRenderUptoRow : OpenClaim := { program := "ytdnjjgidlpmgjaa", sum := "24d36bc1e130ee1017eaab902e2e55ebc62c3261f8a72b2c88daafa88387d1d4", func := "loop.example/g01543/laws.FnExactRender", spec := "fnExactRender", inPlace := ["internal/bytealg.IndexByteString", "internal/bytealg.IndexString", "internal/abi.NoEscape", "internal/bytealg.MakeNoZero"], unfollowed := true, recurses := true, named := ["internal/bytealg.MaxLen"], apart := false, narrowed := true }
def FnExactRenderUptoSaid : Prop := fnExactRenderUptoRow.holds Try.pinned (OpenSpec.upto fnExactRenderSpec)

/-- 'laws.FnExactIsLayout', WHERE WHAT IT READS IS OF BULK AT MOST 1048576: true; the input reads as it did. -/
def fnExactIsLayoutUptoRow : OpenClaim := { program := "ytdnjjgidlpmgjaa", sum := "24d36bc1e130ee1017eaab902e2e55ebc62c3261f8a72b2c88daafa88387d1d4", func := "loop.example/g01543/laws.FnExactIsLayout", spec := "fnExactIsLayout", inPlace := ["internal/bytealg.IndexByteString", "internal/bytealg.IndexString", "internal/abi.NoEscape", "internal/bytealg.MakeNoZero"], unfollowed := true, recurses := true, named := ["internal/bytealg.MaxLen"], apart := false, narrowed := true }
def FnExactIsLayoutUptoSaid : Prop := fnExactIsLayoutUptoRow.holds Try.pinned (OpenSpec.upto fnExactIsLayoutSpec)

/-- 'laws.FnExactLayouts', WHERE WHAT IT READS IS OF BULK AT MOST 1048576: true; the input reads as it did. -/
def fnExactLayoutsUptoRow : OpenClaim := { program := "ytdnjjgidlpmgjaa", sum := "24d36bc1e130ee1017eaab902e2e55ebc62c3261f8a72b2c88daafa88387d1d4", func := "loop.example/g01543/laws.FnExactLayouts", spec := "fnExactLayouts", inPlace := ["internal/bytealg.IndexByteString", "internal/bytealg.IndexString", "internal/abi.NoEscape", "internal/bytealg.MakeNoZero"], unfollowed := true, recurses := true, named := ["internal/bytealg.MaxLen"], apart := false, narrowed := true }
def FnExactLayoutsUptoSaid : Prop := fnExactLayoutsUptoRow.holds Try.pinned (OpenSpec.upto fnExactLayoutsSpec)

/-- 'laws.FnRender', WHERE WHAT IT READS IS OF BULK AT MOST 1048576: true; the input reads as it did. -/
def fnRenderUptoRow : OpenClaim := { program := "ytdnjjgidlpmgjaa", sum := "24d36bc1e130ee1017eaab902e2e55ebc62c3261f8a72b2c88daafa88387d1d4", func := "loop.example/g01543/laws.FnRender", spec := "fnRender", inPlace := ["internal/bytealg.IndexByteString", "internal/bytealg.IndexString", "internal/abi.NoEscape", "internal/bytealg.MakeNoZero"], unfollowed := true, recurses := true, named := ["internal/bytealg.MaxLen"], apart := false, narrowed := true }
def FnRenderUptoSaid : Prop := fnRenderUptoRow.holds Try.pinned (OpenSpec.upto fnRenderSpec)

/-- 'laws.FnOneLine', WHERE WHAT IT READS IS OF BULK AT MOST 1048576: true; the input reads as it did. -/
def fnOneLineUptoRow : OpenClaim := { program := "ytdnjjgidlpmgjaa", sum := "24d36bc1e130ee1017eaab902e2e55ebc62c3261f8a72b2c88daafa88387d1d4", func := "loop.example/g01543/laws.FnOneLine", spec := "fnOneLine", inPlace := ["internal/bytealg.IndexByteString", "internal/bytealg.IndexString", "internal/abi.NoEscape", "internal/bytealg.MakeNoZero"], unfollowed := true, recurses := true, named := ["internal/bytealg.MaxLen"], apart := false, narrowed := true }
def FnOneLineUptoSaid : Prop := fnOneLineUptoRow.holds Try.pinned (OpenSpec.upto fnOneLineSpec)

/-- 'laws.FnDiffs', WHERE WHAT IT READS IS OF BULK AT MOST 1048576: true; the input reads as it did. -/
def fnDiffsUptoRow : OpenClaim := { program := "ytdnjjgidlpmgjaa", sum := "24d36bc1e130ee1017eaab902e2e55ebc62c3261f8a72b2c88daafa88387d1d4", func := "loop.example/g01543/laws.FnDiffs", spec := "fnDiffs", apart := false, narrowed := true }
def FnDiffsUptoSaid : Prop := fnDiffsUptoRow.holds Try.pinned (OpenSpec.upto fnDiffsSpec)

/-- 'laws.FnExactFuncNames', WHERE WHAT IT READS IS OF BULK AT MOST 1048576: true; the input reads as it did. -/
def fnExactFuncNamesUptoRow : OpenClaim := { program := "ytdnjjgidlpmgjaa", sum := "24d36bc1e130ee1017eaab902e2e55ebc62c3261f8a72b2c88daafa88387d1d4", func := "loop.example/g01543/laws.FnExactFuncNames", spec := "fnExactFuncNames", recurses := true, apart := false, narrowed := true }
def FnExactFuncNamesUptoSaid : Prop := fnExactFuncNamesUptoRow.holds Try.pinned (OpenSpec.upto fnExactFuncNamesSpec)

end Rows
end Go.Proofs.Ytdnjjgidlpmgjaa
