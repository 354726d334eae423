/-
  No cell of these rows narrows 'for every input' (looked for: loops, veiled, ifaces, maps, wideKeys, modest, calm, conditions, laid).
  DERIVED. THE GIVEN ROWS OF THIS SEAT. 5 by the template 'for every input the law returns true; each argument reads behind the call as it read before'; 0 by the template 'total and deterministic' (their statements: YtfabfkaolnidiaaTotals.lean).
  GIVEN WITH THE SEED: the statements are not yours to turn. If you find one false, say at which input.
  Laid BY PROGRAM, IN A SANDBOX (cutbox-rows.mjs): the forced cells as the released guide's own fill.sh prints them over the translation d756a9a7a63b56b7… (all of the seat's roots in one cut). By AI agents, Wed Nov 11 2026. No macro, syntax, notation, axiom, sorry.
-/
import Derived.Test.YtfabfkaolnidiaaChecked
import GoSem.Claim
import GoSem.ClaimJoined
import GoSem.ClaimMapViews
import Derived.JoinedTies
import Derived.KernelRfl
namespace Go.Proofs.Ytfabfkaolnidiaa
/- THE CELL 'sum', in the pinned program and in every row, IS THE sha256 OF THE DUMP (.gsa) THAT YtfabfkaolnidiaaProg.lean LOADS. Nothing in Lean hashes anything: it is a label: what it is worth is what the hold of that sum in a sandbox is worth. -/
noncomputable def Try.pinned : Pinned := { name := "ytfabfkaolnidiaa", sum := "d756a9a7a63b56b7a5a53b7edb3c6954d199b83481c6c98596635a0e27ed88ac", checked := Try.checked }
namespace Rows
def none {H : Type} : Left H := { results := [], args := [] }

/-- 'laws.FnExactRender': WHATEVER THE INPUT: true; the input reads as it did. -/
def fnExactRenderSpec : ChangeSpec := { name := "fnExactRender", fn := fun _ => fun
  | [d1, d2] => { results := [.lit (.bool true)], args := [d1, d2] }
  | _ => none }
def fnExactRenderRow : OpenClaim := { program := "ytfabfkaolnidiaa", sum := "d756a9a7a63b56b7a5a53b7edb3c6954d199b83481c6c98596635a0e27ed88ac", func := "loop.example/g01543/laws.FnExactRender", spec := "fnExactRender", inPlace := ["internal/bytealg.IndexByteString", "internal/bytealg.IndexString", "internal/abi.NoEscape", "internal/bytealg.MakeNoZero"], unfollowed := true, recurses := true, named := ["internal/bytealg.MaxLen"], apart := false }
def FnExactRenderSaid : Prop := fnExactRenderRow.holds Try.pinned (OpenSpec.ofChange fnExactRenderSpec)

/-- ITS FALSE NEIGHBOUR: 'it returns false'. Refute it at one input. -/
def fnExactRenderWrong : ChangeSpec := { name := "fnExactRender", fn := fun _ => fun
  | [d1, d2] => { results := [.lit (.bool false)], args := [d1, d2] }
  | _ => none }
def FnExactRenderWrongFalsely : Prop := fnExactRenderRow.holds Try.pinned (OpenSpec.ofChange fnExactRenderWrong)

/-- 'laws.FnExactIsLayout': WHATEVER THE INPUT: true; the input reads as it did. -/
def fnExactIsLayoutSpec : ChangeSpec := { name := "fnExactIsLayout", fn := fun _ => fun
  | [d1, d2] => { results := [.lit (.bool true)], args := [d1, d2] }
  | _ => none }
def fnExactIsLayoutRow : OpenClaim := { program := "ytfabfkaolnidiaa", sum := "d756a9a7a63b56b7a5a53b7edb3c6954d199b83481c6c98596635a0e27ed88ac", func := "loop.example/g01543/laws.FnExactIsLayout", spec := "fnExactIsLayout", inPlace := ["internal/bytealg.IndexByteString", "internal/bytealg.IndexString", "internal/abi.NoEscape", "internal/bytealg.MakeNoZero"], unfollowed := true, recurses := true, named := ["internal/bytealg.MaxLen"], apart := false }
def FnExactIsLayoutSaid : Prop := fnExactIsLayoutRow.holds Try.pinned (OpenSpec.ofChange fnExactIsLayoutSpec)

/-- ITS FALSE NEIGHBOUR: 'it returns false'. Refute it at one input. -/
def fnExactIsLayoutWrong : ChangeSpec := { name := "fnExactIsLayout", fn := fun _ => fun
  | [d1, d2] => { results := [.lit (.bool false)], args := [d1, d2] }
  | _ => none }
def FnExactIsLayoutWrongFalsely : Prop := fnExactIsLayoutRow.holds Try.pinned (OpenSpec.ofChange fnExactIsLayoutWrong)

/-- 'laws.FnExactLayouts': WHATEVER THE INPUT: true; the input reads as it did. -/
def fnExactLayoutsSpec : ChangeSpec := { name := "fnExactLayouts", fn := fun _ => fun
  | [d] => { results := [.lit (.bool true)], args := [d] }
  | _ => none }
def fnExactLayoutsRow : OpenClaim := { program := "ytfabfkaolnidiaa", sum := "d756a9a7a63b56b7a5a53b7edb3c6954d199b83481c6c98596635a0e27ed88ac", func := "loop.example/g01543/laws.FnExactLayouts", spec := "fnExactLayouts", inPlace := ["internal/bytealg.IndexByteString", "internal/bytealg.IndexString", "internal/abi.NoEscape", "internal/bytealg.MakeNoZero"], unfollowed := true, recurses := true, named := ["internal/bytealg.MaxLen"], apart := false }
def FnExactLayoutsSaid : Prop := fnExactLayoutsRow.holds Try.pinned (OpenSpec.ofChange fnExactLayoutsSpec)

/-- ITS FALSE NEIGHBOUR: 'it returns false'. Refute it at one input. -/
def fnExactLayoutsWrong : ChangeSpec := { name := "fnExactLayouts", fn := fun _ => fun
  | [d] => { results := [.lit (.bool false)], args := [d] }
  | _ => none }
def FnExactLayoutsWrongFalsely : Prop := fnExactLayoutsRow.holds Try.pinned (OpenSpec.ofChange fnExactLayoutsWrong)

/-- 'laws.FnRender': WHATEVER THE INPUT: true; the input reads as it did. -/
def fnRenderSpec : ChangeSpec := { name := "fnRender", fn := fun _ => fun
  | [d] => { results := [.lit (.bool true)], args := [d] }
  | _ => none }
def fnRenderRow : OpenClaim := { program := "ytfabfkaolnidiaa", sum := "d756a9a7a63b56b7a5a53b7edb3c6954d199b83481c6c98596635a0e27ed88ac", func := "loop.example/g01543/laws.FnRender", spec := "fnRender", inPlace := ["internal/bytealg.IndexByteString", "internal/bytealg.IndexString", "internal/abi.NoEscape", "internal/bytealg.MakeNoZero"], unfollowed := true, recurses := true, named := ["internal/bytealg.MaxLen"], apart := false }
def FnRenderSaid : Prop := fnRenderRow.holds Try.pinned (OpenSpec.ofChange fnRenderSpec)

/-- ITS FALSE NEIGHBOUR: 'it returns false'. Refute it at one input. -/
def fnRenderWrong : ChangeSpec := { name := "fnRender", fn := fun _ => fun
  | [d] => { results := [.lit (.bool false)], args := [d] }
  | _ => none }
def FnRenderWrongFalsely : Prop := fnRenderRow.holds Try.pinned (OpenSpec.ofChange fnRenderWrong)

/-- 'laws.FnOneLine': WHATEVER THE INPUT: true; the input reads as it did. -/
def fnOneLineSpec : ChangeSpec := { name := "fnOneLine", fn := fun _ => fun
  | [d] => { results := [.lit (.bool true)], args := [d] }
  | _ => none }
def fnOneLineRow : OpenClaim := { program := "ytfabfkaolnidiaa", sum := "d756a9a7a63b56b7a5a53b7edb3c6954d199b83481c6c98596635a0e27ed88ac", func := "loop.example/g01543/laws.FnOneLine", spec := "fnOneLine", inPlace := ["internal/bytealg.IndexByteString", "internal/bytealg.IndexString", "internal/abi.NoEscape", "internal/bytealg.MakeNoZero"], unfollowed := true, recurses := true, named := ["internal/bytealg.MaxLen"], apart := false }
def FnOneLineSaid : Prop := fnOneLineRow.holds Try.pinned (OpenSpec.ofChange fnOneLineSpec)

/-- ITS FALSE NEIGHBOUR: 'it returns false'. Refute it at one input. -/
def fnOneLineWrong : ChangeSpec := { name := "fnOneLine", fn := fun _ => fun
  | [d] => { results := [.lit (.bool false)], args := [d] }
  | _ => none }
def FnOneLineWrongFalsely : Prop := fnOneLineRow.holds Try.pinned (OpenSpec.ofChange fnOneLineWrong)

/- THE SECOND FORM. 'bulk': how many values and letters a reading holds, each counted each time it is reached (what is shared counts as often as it is met; a slice's spare places count too). A statement '..UptoSaid' is the law's where the arguments, and the package variables that the reading takes, are together of bulk at most 1048576: NARROWER than '..Said'. Prove '..Said' where nothing that the law and all that it calls make is longer than what came in: it says more and counts as full. Else prove '..UptoSaid'. A law counts once. -/
mutual
def uptoBulk {H : Type} : DataW H → Nat
  | .lit (.string bytes) => bytes.length + 1
  | .lit _ => 1
  | .nil => 1
  | .ptr d => uptoBulk d + 1
  | .slice elems spare => uptoBulkAll elems + uptoBulkAll spare + 1
  | .agg parts => uptoBulkAll parts + 1
  | .iface _ d => uptoBulk d + 1
  | .map entries => uptoBulkEntries entries + 1
  | .held _ => 1
def uptoBulkAll {H : Type} : List (DataW H) → Nat
  | [] => 0
  | d :: r => uptoBulk d + uptoBulkAll r
def uptoBulkEntries {H : Type} : List (Lit × DataW H) → Nat
  | [] => 0
  | x :: r => uptoBulkEntry x + uptoBulkEntries r
def uptoBulkEntry {H : Type} : Lit × DataW H → Nat
  | (.string bytes, d) => bytes.length + uptoBulk d + 1
  | (_, d) => uptoBulk d + 1
 end
def uptoSmall : (H : Type) → List (DataW H) → Bool := fun _ ds => decide (uptoBulkAll ds ≤ 1048576)
def OpenSpec.upto (s : _root_.Go.ChangeSpec) : _root_.Go.OpenSpec := { _root_.Go.OpenSpec.ofChange s with cond := some uptoSmall }

/-- 'laws.FnExactRender', WHERE WHAT IT READS IS OF BULK AT MOST 1048576: true; the input reads as it did. -/
def fnExactRenderUptoRow : OpenClaim := { program := "ytfabfkaolnidiaa", sum := "d756a9a7a63b56b7a5a53b7edb3c6954d199b83481c6c98596635a0e27ed88ac", func := "loop.example/g01543/laws.FnExactRender", spec := "fnExactRender", inPlace := ["internal/bytealg.IndexByteString", "internal/bytealg.IndexString", "internal/abi.NoEscape", "internal/bytealg.MakeNoZero"], unfollowed := true, recurses := true, named := ["internal/bytealg.MaxLen"], apart := false, narrowed := true }
def FnExactRenderUptoSaid : Prop := fnExactRenderUptoRow.holds Try.pinned (OpenSpec.upto fnExactRenderSpec)

/-- 'laws.FnExactIsLayout', WHERE WHAT IT READS IS OF BULK AT MOST 1048576: true; the input reads as it did. -/
def fnExactIsLayoutUptoRow : OpenClaim := { program := "ytfabfkaolnidiaa", sum := "d756a9a7a63b56b7a5a53b7edb3c6954d199b83481c6c98596635a0e27ed88ac", func := "loop.example/g01543/laws.FnExactIsLayout", spec := "fnExactIsLayout", inPlace := ["internal/bytealg.IndexByteString", "internal/bytealg.IndexString", "internal/abi.NoEscape", "internal/bytealg.MakeNoZero"], unfollowed := true, recurses := true, named := ["internal/bytealg.MaxLen"], apart := false, narrowed := true }
def FnExactIsLayoutUptoSaid : Prop := fnExactIsLayoutUptoRow.holds Try.pinned (OpenSpec.upto fnExactIsLayoutSpec)

/-- 'laws.FnExactLayouts', WHERE WHAT IT READS IS OF BULK AT MOST 1048576: true; the input reads as it did. -/
def fnExactLayoutsUptoRow : OpenClaim := { program := "ytfabfkaolnidiaa", sum := "d756a9a7a63b56b7a5a53b7edb3c6954d199b83481c6c98596635a0e27ed88ac", func := "loop.example/g01543/laws.FnExactLayouts", spec := "fnExactLayouts", inPlace := ["internal/bytealg.IndexByteString", "internal/bytealg.IndexString", "internal/abi.NoEscape", "internal/bytealg.MakeNoZero"], unfollowed := true, recurses := true, named := ["internal/bytealg.MaxLen"], apart := false, narrowed := true }
def FnExactLayoutsUptoSaid : Prop := fnExactLayoutsUptoRow.holds Try.pinned (OpenSpec.upto fnExactLayoutsSpec)

/-- 'laws.FnRender', WHERE WHAT IT READS IS OF BULK AT MOST 1048576: true; the input reads as it did. -/
def fnRenderUptoRow : OpenClaim := { program := "ytfabfkaolnidiaa", sum := "d756a9a7a63b56b7a5a53b7edb3c6954d199b83481c6c98596635a0e27ed88ac", func := "loop.example/g01543/laws.FnRender", spec := "fnRender", inPlace := ["internal/bytealg.IndexByteString", "internal/bytealg.IndexString", "internal/abi.NoEscape", "internal/bytealg.MakeNoZero"], unfollowed := true, recurses := true, named := ["internal/bytealg.MaxLen"], apart := false, narrowed := true }
def FnRenderUptoSaid : Prop := fnRenderUptoRow.holds Try.pinned (OpenSpec.upto fnRenderSpec)

/-- 'laws.FnOneLine', WHERE WHAT IT READS IS OF BULK AT MOST 1048576: true; the input reads as it did. -/
def fnOneLineUptoRow : OpenClaim := { program := "ytfabfkaolnidiaa", sum := "d756a9a7a63b56b7a5a53b7edb3c6954d199b83481c6c98596635a0e27ed88ac", func := "loop.example/g01543/laws.FnOneLine", spec := "fnOneLine", inPlace := ["internal/bytealg.IndexByteString", "internal/bytealg.IndexString", "internal/abi.NoEscape", "internal/bytealg.MakeNoZero"], unfollowed := true, recurses := true, named := ["internal/bytealg.MaxLen"], apart := false, narrowed := true }
def FnOneLineUptoSaid : Prop := fnOneLineUptoRow.holds Try.pinned (OpenSpec.upto fnOneLineSpec)

end Rows
end Go.Proofs.Ytfabfkaolnidiaa
