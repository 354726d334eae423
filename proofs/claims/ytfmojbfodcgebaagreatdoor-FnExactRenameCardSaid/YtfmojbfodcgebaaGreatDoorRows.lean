/-
  NARROWER THAN 'FOR EVERY INPUT', by the rows' own cells (each row's printed sentence says how): FnExactMeasure: laid · FnExactUnused: laid · FnExactGlobalsOf: laid · FnExactNoComments: laid · FnExactRename: laid · FnExactLints: laid · FnExactClean: laid · FnExactEval: laid · FnExactFold: laid.
  DERIVED. THE GIVEN ROWS OF THIS SEAT. 9 by the template 'for every input the law returns true; each argument reads behind the call as it read before'; 0 by the template 'total and deterministic' (their statements: YtfmojbfodcgebaaGreatDoorTotals.lean).
  GIVEN WITH THE SEED: the statements are not yours to turn. If you find one false, say at which input.
  Laid BY PROGRAM, IN A SANDBOX (cutbox-rows.mjs): the forced cells as the released guide's own fill.sh prints them over the translation 4e77d2099fc5f26b… (all of the seat's roots in one cut). By AI agents, Wed Nov 11 2026. No macro, syntax, notation, axiom, sorry.
-/
import Derived.Test.YtfmojbfodcgebaaGreatDoorChecked
import GoSem.Claim
import GoSem.ClaimJoined
import GoSem.ClaimMapViews
import Derived.JoinedTies
import Derived.KernelRfl
namespace Go.Proofs.YtfmojbfodcgebaaGreatDoor
/- THE CELL 'sum', in the pinned program and in every row, IS THE sha256 OF THE DUMP (.gsa) THAT YtfmojbfodcgebaaGreatDoorProg.lean LOADS. Nothing in Lean hashes anything: it is a label: what it is worth is what the hold of that sum in a sandbox is worth. -/
noncomputable def Tryz.pinned : Pinned := { name := "ytfmojbfodcgebaagreatdoor", sum := "4e77d2099fc5f26b61a56fcc4c03ecf70db727ca4e95497179b68993e6651667", checked := Tryz.checked }
namespace Rows
def none {H : Type} : Left H := { results := [], args := [] }

/- WHAT THE LISTED PACKAGE-LEVEL VARIABLES READ AS WHEN THE CALL BEGINS. Each datum BY PROGRAM (the guide's laid-datum.mjs) off the statement by which the dump's own 'gosem.cut.vars' lays the variable. In a bare row this is a premise. The card (YtfmojbfodcgebaaGreatDoorCards.lean) ties it to the program's text. -/
def laid_math_bits_deBruijn32tab {H : Type} : DataW H := .agg [.lit (.int .u8 0), .lit (.int .u8 1), .lit (.int .u8 28), .lit (.int .u8 2), .lit (.int .u8 29), .lit (.int .u8 14), .lit (.int .u8 24), .lit (.int .u8 3), .lit (.int .u8 30), .lit (.int .u8 22), .lit (.int .u8 20), .lit (.int .u8 15), .lit (.int .u8 25), .lit (.int .u8 17), .lit (.int .u8 4), .lit (.int .u8 8), .lit (.int .u8 31), .lit (.int .u8 27), .lit (.int .u8 13), .lit (.int .u8 23), .lit (.int .u8 21), .lit (.int .u8 19), .lit (.int .u8 16), .lit (.int .u8 7), .lit (.int .u8 26), .lit (.int .u8 12), .lit (.int .u8 18), .lit (.int .u8 6), .lit (.int .u8 11), .lit (.int .u8 5), .lit (.int .u8 10), .lit (.int .u8 9)]
def laid_math_bits_deBruijn64tab {H : Type} : DataW H := .agg [.lit (.int .u8 0), .lit (.int .u8 1), .lit (.int .u8 56), .lit (.int .u8 2), .lit (.int .u8 57), .lit (.int .u8 49), .lit (.int .u8 28), .lit (.int .u8 3), .lit (.int .u8 61), .lit (.int .u8 58), .lit (.int .u8 42), .lit (.int .u8 50), .lit (.int .u8 38), .lit (.int .u8 29), .lit (.int .u8 17), .lit (.int .u8 4), .lit (.int .u8 62), .lit (.int .u8 47), .lit (.int .u8 59), .lit (.int .u8 36), .lit (.int .u8 45), .lit (.int .u8 43), .lit (.int .u8 51), .lit (.int .u8 22), .lit (.int .u8 53), .lit (.int .u8 39), .lit (.int .u8 33), .lit (.int .u8 30), .lit (.int .u8 24), .lit (.int .u8 18), .lit (.int .u8 12), .lit (.int .u8 5), .lit (.int .u8 63), .lit (.int .u8 55), .lit (.int .u8 48), .lit (.int .u8 27), .lit (.int .u8 60), .lit (.int .u8 41), .lit (.int .u8 37), .lit (.int .u8 16), .lit (.int .u8 46), .lit (.int .u8 35), .lit (.int .u8 44), .lit (.int .u8 21), .lit (.int .u8 52), .lit (.int .u8 32), .lit (.int .u8 23), .lit (.int .u8 11), .lit (.int .u8 54), .lit (.int .u8 26), .lit (.int .u8 40), .lit (.int .u8 15), .lit (.int .u8 34), .lit (.int .u8 20), .lit (.int .u8 31), .lit (.int .u8 10), .lit (.int .u8 25), .lit (.int .u8 14), .lit (.int .u8 19), .lit (.int .u8 9), .lit (.int .u8 13), .lit (.int .u8 8), .lit (.int .u8 7), .lit (.int .u8 6)]
def laid_internal_strconv_uint64pow10 {H : Type} : DataW H := .agg [.lit (.int .u64 1), .lit (.int .u64 10), .lit (.int .u64 100), .lit (.int .u64 1000), .lit (.int .u64 10000), .lit (.int .u64 100000), .lit (.int .u64 1000000), .lit (.int .u64 10000000), .lit (.int .u64 100000000), .lit (.int .u64 1000000000), .lit (.int .u64 10000000000), .lit (.int .u64 100000000000), .lit (.int .u64 1000000000000), .lit (.int .u64 10000000000000), .lit (.int .u64 100000000000000), .lit (.int .u64 1000000000000000), .lit (.int .u64 10000000000000000), .lit (.int .u64 100000000000000000), .lit (.int .u64 1000000000000000000), .lit (.int .u64 10000000000000000000)]
def laid_loop_example_g01543_impl_keywords {H : Type} : DataW H := .agg [.lit (.string [66, 69, 71, 73, 78]), .lit (.string [69, 78, 68]), .lit (.string [102, 117, 110, 99, 116, 105, 111, 110]), .lit (.string [105, 102]), .lit (.string [101, 108, 115, 101]), .lit (.string [119, 104, 105, 108, 101]), .lit (.string [102, 111, 114]), .lit (.string [100, 111]), .lit (.string [98, 114, 101, 97, 107]), .lit (.string [99, 111, 110, 116, 105, 110, 117, 101]), .lit (.string [110, 101, 120, 116]), .lit (.string [101, 120, 105, 116]), .lit (.string [114, 101, 116, 117, 114, 110]), .lit (.string [100, 101, 108, 101, 116, 101]), .lit (.string [105, 110]), .lit (.string [112, 114, 105, 110, 116]), .lit (.string [112, 114, 105, 110, 116, 102])]
def laid_loop_example_g01543_impl_signs {H : Type} : DataW H := .agg [.lit (.string [123]), .lit (.string [125]), .lit (.string [40]), .lit (.string [41]), .lit (.string [91]), .lit (.string [93]), .lit (.string [44]), .lit (.string [59]), .lit (.string [43, 61]), .lit (.string [45, 61]), .lit (.string [42, 61]), .lit (.string [47, 61]), .lit (.string [37, 61]), .lit (.string [94, 61]), .lit (.string [124, 124]), .lit (.string [38, 38]), .lit (.string [33, 126]), .lit (.string [61, 61]), .lit (.string [60, 61]), .lit (.string [62, 61]), .lit (.string [33, 61]), .lit (.string [43, 43]), .lit (.string [45, 45]), .lit (.string [62, 62]), .lit (.string [61]), .lit (.string [43]), .lit (.string [45]), .lit (.string [42]), .lit (.string [47]), .lit (.string [37]), .lit (.string [94]), .lit (.string [33]), .lit (.string [62]), .lit (.string [60]), .lit (.string [124]), .lit (.string [63]), .lit (.string [58]), .lit (.string [126]), .lit (.string [36])]
def laid_loop_example_g01543_impl_builtins {H : Type} : DataW H := .agg [.lit (.string [97, 116, 97, 110, 50]), .lit (.string [99, 108, 111, 115, 101]), .lit (.string [99, 111, 115]), .lit (.string [101, 120, 112]), .lit (.string [103, 115, 117, 98]), .lit (.string [105, 110, 100, 101, 120]), .lit (.string [105, 110, 116]), .lit (.string [108, 101, 110, 103, 116, 104]), .lit (.string [108, 111, 103]), .lit (.string [109, 97, 116, 99, 104]), .lit (.string [114, 97, 110, 100]), .lit (.string [115, 105, 110]), .lit (.string [115, 112, 108, 105, 116]), .lit (.string [115, 112, 114, 105, 110, 116, 102]), .lit (.string [115, 113, 114, 116]), .lit (.string [115, 114, 97, 110, 100]), .lit (.string [115, 117, 98]), .lit (.string [115, 117, 98, 115, 116, 114]), .lit (.string [115, 121, 115, 116, 101, 109]), .lit (.string [116, 111, 108, 111, 119, 101, 114]), .lit (.string [116, 111, 117, 112, 112, 101, 114])]
def laid_strconv_ErrRange {H : Type} : DataW H := .iface "*errors.errorString" (.ptr (.agg [.lit (.string [118, 97, 108, 117, 101, 32, 111, 117, 116, 32, 111, 102, 32, 114, 97, 110, 103, 101])]))
def laid_strconv_ErrSyntax {H : Type} : DataW H := .iface "*errors.errorString" (.ptr (.agg [.lit (.string [105, 110, 118, 97, 108, 105, 100, 32, 115, 121, 110, 116, 97, 120])]))

/-- 'laws.FnExactMeasure': WHATEVER THE INPUT: true; the input reads as it did. -/
def fnExactMeasureSpec : ChangeSpec := { name := "fnExactMeasure", vars := ["loop.example/g01543/impl.keywords", "loop.example/g01543/impl.builtins", "loop.example/g01543/impl.signs"], fn := fun _ => fun
  | [d, g1, g2, g3] => { results := [.lit (.bool true)], args := [d], vars := [g1, g2, g3] }
  | _ => none }
def fnExactMeasureRow : OpenClaim := { program := "ytfmojbfodcgebaagreatdoor", sum := "4e77d2099fc5f26b61a56fcc4c03ecf70db727ca4e95497179b68993e6651667", func := "loop.example/g01543/laws.FnExactMeasure", spec := "fnExactMeasure", inPlace := ["internal/bytealg.IndexByteString", "internal/bytealg.IndexString"], unfollowed := true, recurses := true, named := ["loop.example/g01543/impl.keywords", "loop.example/g01543/impl.builtins", "internal/bytealg.MaxLen", "loop.example/g01543/impl.signs", "internal/strconv.uint64pow10", "math/bits.deBruijn32tab", "math/bits.deBruijn64tab"], apart := false, laid := [("math/bits.deBruijn32tab", laid_math_bits_deBruijn32tab), ("math/bits.deBruijn64tab", laid_math_bits_deBruijn64tab), ("internal/strconv.uint64pow10", laid_internal_strconv_uint64pow10), ("loop.example/g01543/impl.keywords", laid_loop_example_g01543_impl_keywords), ("loop.example/g01543/impl.signs", laid_loop_example_g01543_impl_signs), ("loop.example/g01543/impl.builtins", laid_loop_example_g01543_impl_builtins)] }
def FnExactMeasureSaid : Prop := fnExactMeasureRow.holds Tryz.pinned (OpenSpec.ofChange fnExactMeasureSpec)

/-- ITS FALSE NEIGHBOUR: 'it returns false'. Refute it at one input. -/
def fnExactMeasureWrong : ChangeSpec := { name := "fnExactMeasure", vars := ["loop.example/g01543/impl.keywords", "loop.example/g01543/impl.builtins", "loop.example/g01543/impl.signs"], fn := fun _ => fun
  | [d, g1, g2, g3] => { results := [.lit (.bool false)], args := [d], vars := [g1, g2, g3] }
  | _ => none }
def FnExactMeasureWrongFalsely : Prop := fnExactMeasureRow.holds Tryz.pinned (OpenSpec.ofChange fnExactMeasureWrong)

/-- 'laws.FnExactUnused': WHATEVER THE INPUT: true; the input reads as it did. -/
def fnExactUnusedSpec : ChangeSpec := { name := "fnExactUnused", vars := ["loop.example/g01543/impl.keywords", "loop.example/g01543/impl.builtins", "loop.example/g01543/impl.signs"], fn := fun _ => fun
  | [d1, d2, g1, g2, g3] => { results := [.lit (.bool true)], args := [d1, d2], vars := [g1, g2, g3] }
  | _ => none }
def fnExactUnusedRow : OpenClaim := { program := "ytfmojbfodcgebaagreatdoor", sum := "4e77d2099fc5f26b61a56fcc4c03ecf70db727ca4e95497179b68993e6651667", func := "loop.example/g01543/laws.FnExactUnused", spec := "fnExactUnused", inPlace := ["internal/bytealg.IndexByteString", "internal/bytealg.IndexString"], unfollowed := true, recurses := true, named := ["loop.example/g01543/impl.keywords", "loop.example/g01543/impl.builtins", "internal/bytealg.MaxLen", "loop.example/g01543/impl.signs"], apart := false, laid := [("loop.example/g01543/impl.keywords", laid_loop_example_g01543_impl_keywords), ("loop.example/g01543/impl.signs", laid_loop_example_g01543_impl_signs), ("loop.example/g01543/impl.builtins", laid_loop_example_g01543_impl_builtins)] }
def FnExactUnusedSaid : Prop := fnExactUnusedRow.holds Tryz.pinned (OpenSpec.ofChange fnExactUnusedSpec)

/-- ITS FALSE NEIGHBOUR: 'it returns false'. Refute it at one input. -/
def fnExactUnusedWrong : ChangeSpec := { name := "fnExactUnused", vars := ["loop.example/g01543/impl.keywords", "loop.example/g01543/impl.builtins", "loop.example/g01543/impl.signs"], fn := fun _ => fun
  | [d1, d2, g1, g2, g3] => { results := [.lit (.bool false)], args := [d1, d2], vars := [g1, g2, g3] }
  | _ => none }
def FnExactUnusedWrongFalsely : Prop := fnExactUnusedRow.holds Tryz.pinned (OpenSpec.ofChange fnExactUnusedWrong)

/-- 'laws.FnExactGlobalsOf': WHATEVER THE INPUT: true; the input reads as it did. -/
def fnExactGlobalsOfSpec : ChangeSpec := { name := "fnExactGlobalsOf", vars := ["loop.example/g01543/impl.keywords", "loop.example/g01543/impl.builtins", "loop.example/g01543/impl.signs"], fn := fun _ => fun
  | [d, g1, g2, g3] => { results := [.lit (.bool true)], args := [d], vars := [g1, g2, g3] }
  | _ => none }
def fnExactGlobalsOfRow : OpenClaim := { program := "ytfmojbfodcgebaagreatdoor", sum := "4e77d2099fc5f26b61a56fcc4c03ecf70db727ca4e95497179b68993e6651667", func := "loop.example/g01543/laws.FnExactGlobalsOf", spec := "fnExactGlobalsOf", inPlace := ["internal/bytealg.IndexByteString", "internal/bytealg.IndexString"], unfollowed := true, recurses := true, named := ["loop.example/g01543/impl.keywords", "loop.example/g01543/impl.builtins", "internal/bytealg.MaxLen", "loop.example/g01543/impl.signs"], apart := false, laid := [("loop.example/g01543/impl.keywords", laid_loop_example_g01543_impl_keywords), ("loop.example/g01543/impl.signs", laid_loop_example_g01543_impl_signs), ("loop.example/g01543/impl.builtins", laid_loop_example_g01543_impl_builtins)] }
def FnExactGlobalsOfSaid : Prop := fnExactGlobalsOfRow.holds Tryz.pinned (OpenSpec.ofChange fnExactGlobalsOfSpec)

/-- ITS FALSE NEIGHBOUR: 'it returns false'. Refute it at one input. -/
def fnExactGlobalsOfWrong : ChangeSpec := { name := "fnExactGlobalsOf", vars := ["loop.example/g01543/impl.keywords", "loop.example/g01543/impl.builtins", "loop.example/g01543/impl.signs"], fn := fun _ => fun
  | [d, g1, g2, g3] => { results := [.lit (.bool false)], args := [d], vars := [g1, g2, g3] }
  | _ => none }
def FnExactGlobalsOfWrongFalsely : Prop := fnExactGlobalsOfRow.holds Tryz.pinned (OpenSpec.ofChange fnExactGlobalsOfWrong)

/-- 'laws.FnExactNoComments': WHATEVER THE INPUT: true; the input reads as it did. -/
def fnExactNoCommentsSpec : ChangeSpec := { name := "fnExactNoComments", vars := ["loop.example/g01543/impl.keywords", "loop.example/g01543/impl.builtins", "loop.example/g01543/impl.signs"], fn := fun _ => fun
  | [d, g1, g2, g3] => { results := [.lit (.bool true)], args := [d], vars := [g1, g2, g3] }
  | _ => none }
def fnExactNoCommentsRow : OpenClaim := { program := "ytfmojbfodcgebaagreatdoor", sum := "4e77d2099fc5f26b61a56fcc4c03ecf70db727ca4e95497179b68993e6651667", func := "loop.example/g01543/laws.FnExactNoComments", spec := "fnExactNoComments", inPlace := ["internal/bytealg.IndexByteString", "internal/bytealg.IndexString"], unfollowed := true, recurses := true, named := ["loop.example/g01543/impl.keywords", "loop.example/g01543/impl.builtins", "internal/bytealg.MaxLen", "loop.example/g01543/impl.signs"], apart := false, laid := [("loop.example/g01543/impl.keywords", laid_loop_example_g01543_impl_keywords), ("loop.example/g01543/impl.signs", laid_loop_example_g01543_impl_signs), ("loop.example/g01543/impl.builtins", laid_loop_example_g01543_impl_builtins)] }
def FnExactNoCommentsSaid : Prop := fnExactNoCommentsRow.holds Tryz.pinned (OpenSpec.ofChange fnExactNoCommentsSpec)

/-- ITS FALSE NEIGHBOUR: 'it returns false'. Refute it at one input. -/
def fnExactNoCommentsWrong : ChangeSpec := { name := "fnExactNoComments", vars := ["loop.example/g01543/impl.keywords", "loop.example/g01543/impl.builtins", "loop.example/g01543/impl.signs"], fn := fun _ => fun
  | [d, g1, g2, g3] => { results := [.lit (.bool false)], args := [d], vars := [g1, g2, g3] }
  | _ => none }
def FnExactNoCommentsWrongFalsely : Prop := fnExactNoCommentsRow.holds Tryz.pinned (OpenSpec.ofChange fnExactNoCommentsWrong)

/-- 'laws.FnExactRename': WHATEVER THE INPUT: true; the input reads as it did. -/
def fnExactRenameSpec : ChangeSpec := { name := "fnExactRename", vars := ["loop.example/g01543/impl.keywords", "loop.example/g01543/impl.builtins", "loop.example/g01543/impl.signs"], fn := fun _ => fun
  | [d1, d2, d3, g1, g2, g3] => { results := [.lit (.bool true)], args := [d1, d2, d3], vars := [g1, g2, g3] }
  | _ => none }
def fnExactRenameRow : OpenClaim := { program := "ytfmojbfodcgebaagreatdoor", sum := "4e77d2099fc5f26b61a56fcc4c03ecf70db727ca4e95497179b68993e6651667", func := "loop.example/g01543/laws.FnExactRename", spec := "fnExactRename", inPlace := ["internal/bytealg.IndexByteString", "internal/bytealg.IndexString"], unfollowed := true, recurses := true, named := ["loop.example/g01543/impl.keywords", "loop.example/g01543/impl.builtins", "internal/bytealg.MaxLen", "loop.example/g01543/impl.signs"], apart := false, laid := [("loop.example/g01543/impl.keywords", laid_loop_example_g01543_impl_keywords), ("loop.example/g01543/impl.signs", laid_loop_example_g01543_impl_signs), ("loop.example/g01543/impl.builtins", laid_loop_example_g01543_impl_builtins)] }
def FnExactRenameSaid : Prop := fnExactRenameRow.holds Tryz.pinned (OpenSpec.ofChange fnExactRenameSpec)

/-- ITS FALSE NEIGHBOUR: 'it returns false'. Refute it at one input. -/
def fnExactRenameWrong : ChangeSpec := { name := "fnExactRename", vars := ["loop.example/g01543/impl.keywords", "loop.example/g01543/impl.builtins", "loop.example/g01543/impl.signs"], fn := fun _ => fun
  | [d1, d2, d3, g1, g2, g3] => { results := [.lit (.bool false)], args := [d1, d2, d3], vars := [g1, g2, g3] }
  | _ => none }
def FnExactRenameWrongFalsely : Prop := fnExactRenameRow.holds Tryz.pinned (OpenSpec.ofChange fnExactRenameWrong)

/-- 'laws.FnExactLints': WHATEVER THE INPUT: true; the input reads as it did. -/
def fnExactLintsSpec : ChangeSpec := { name := "fnExactLints", vars := ["loop.example/g01543/impl.keywords", "loop.example/g01543/impl.builtins", "loop.example/g01543/impl.signs"], fn := fun _ => fun
  | [d, g1, g2, g3] => { results := [.lit (.bool true)], args := [d], vars := [g1, g2, g3] }
  | _ => none }
def fnExactLintsRow : OpenClaim := { program := "ytfmojbfodcgebaagreatdoor", sum := "4e77d2099fc5f26b61a56fcc4c03ecf70db727ca4e95497179b68993e6651667", func := "loop.example/g01543/laws.FnExactLints", spec := "fnExactLints", inPlace := ["internal/bytealg.IndexByteString", "internal/bytealg.IndexString"], unfollowed := true, recurses := true, named := ["loop.example/g01543/impl.keywords", "loop.example/g01543/impl.builtins", "internal/bytealg.MaxLen", "loop.example/g01543/impl.signs", "internal/strconv.uint64pow10", "math/bits.deBruijn32tab", "math/bits.deBruijn64tab"], apart := false, laid := [("math/bits.deBruijn32tab", laid_math_bits_deBruijn32tab), ("math/bits.deBruijn64tab", laid_math_bits_deBruijn64tab), ("internal/strconv.uint64pow10", laid_internal_strconv_uint64pow10), ("loop.example/g01543/impl.keywords", laid_loop_example_g01543_impl_keywords), ("loop.example/g01543/impl.signs", laid_loop_example_g01543_impl_signs), ("loop.example/g01543/impl.builtins", laid_loop_example_g01543_impl_builtins)] }
def FnExactLintsSaid : Prop := fnExactLintsRow.holds Tryz.pinned (OpenSpec.ofChange fnExactLintsSpec)

/-- ITS FALSE NEIGHBOUR: 'it returns false'. Refute it at one input. -/
def fnExactLintsWrong : ChangeSpec := { name := "fnExactLints", vars := ["loop.example/g01543/impl.keywords", "loop.example/g01543/impl.builtins", "loop.example/g01543/impl.signs"], fn := fun _ => fun
  | [d, g1, g2, g3] => { results := [.lit (.bool false)], args := [d], vars := [g1, g2, g3] }
  | _ => none }
def FnExactLintsWrongFalsely : Prop := fnExactLintsRow.holds Tryz.pinned (OpenSpec.ofChange fnExactLintsWrong)

/-- 'laws.FnExactClean': WHATEVER THE INPUT: true; the input reads as it did. -/
def fnExactCleanSpec : ChangeSpec := { name := "fnExactClean", vars := ["loop.example/g01543/impl.keywords", "loop.example/g01543/impl.builtins", "loop.example/g01543/impl.signs"], fn := fun _ => fun
  | [d, g1, g2, g3] => { results := [.lit (.bool true)], args := [d], vars := [g1, g2, g3] }
  | _ => none }
def fnExactCleanRow : OpenClaim := { program := "ytfmojbfodcgebaagreatdoor", sum := "4e77d2099fc5f26b61a56fcc4c03ecf70db727ca4e95497179b68993e6651667", func := "loop.example/g01543/laws.FnExactClean", spec := "fnExactClean", inPlace := ["internal/bytealg.IndexByteString", "internal/bytealg.IndexString"], unfollowed := true, recurses := true, named := ["loop.example/g01543/impl.keywords", "loop.example/g01543/impl.builtins", "internal/bytealg.MaxLen", "loop.example/g01543/impl.signs", "internal/strconv.uint64pow10", "math/bits.deBruijn32tab", "math/bits.deBruijn64tab"], apart := false, laid := [("math/bits.deBruijn32tab", laid_math_bits_deBruijn32tab), ("math/bits.deBruijn64tab", laid_math_bits_deBruijn64tab), ("internal/strconv.uint64pow10", laid_internal_strconv_uint64pow10), ("loop.example/g01543/impl.keywords", laid_loop_example_g01543_impl_keywords), ("loop.example/g01543/impl.signs", laid_loop_example_g01543_impl_signs), ("loop.example/g01543/impl.builtins", laid_loop_example_g01543_impl_builtins)] }
def FnExactCleanSaid : Prop := fnExactCleanRow.holds Tryz.pinned (OpenSpec.ofChange fnExactCleanSpec)

/-- ITS FALSE NEIGHBOUR: 'it returns false'. Refute it at one input. -/
def fnExactCleanWrong : ChangeSpec := { name := "fnExactClean", vars := ["loop.example/g01543/impl.keywords", "loop.example/g01543/impl.builtins", "loop.example/g01543/impl.signs"], fn := fun _ => fun
  | [d, g1, g2, g3] => { results := [.lit (.bool false)], args := [d], vars := [g1, g2, g3] }
  | _ => none }
def FnExactCleanWrongFalsely : Prop := fnExactCleanRow.holds Tryz.pinned (OpenSpec.ofChange fnExactCleanWrong)

/-- 'laws.FnExactEval': WHATEVER THE INPUT: true; the input reads as it did. -/
def fnExactEvalSpec : ChangeSpec := { name := "fnExactEval", vars := ["loop.example/g01543/impl.keywords", "loop.example/g01543/impl.builtins", "loop.example/g01543/impl.signs"], fn := fun _ => fun
  | [d1, d2, g1, g2, g3] => { results := [.lit (.bool true)], args := [d1, d2], vars := [g1, g2, g3] }
  | _ => none }
def fnExactEvalRow : OpenClaim := { program := "ytfmojbfodcgebaagreatdoor", sum := "4e77d2099fc5f26b61a56fcc4c03ecf70db727ca4e95497179b68993e6651667", func := "loop.example/g01543/laws.FnExactEval", spec := "fnExactEval", inPlace := ["internal/bytealg.IndexByteString", "internal/bytealg.IndexString"], unfollowed := true, recurses := true, named := ["loop.example/g01543/impl.keywords", "loop.example/g01543/impl.builtins", "internal/bytealg.MaxLen", "loop.example/g01543/impl.signs", "strconv.ErrSyntax", "strconv.ErrRange", "internal/strconv.uint64pow10", "math/bits.deBruijn32tab", "math/bits.deBruijn64tab"], apart := false, laid := [("math/bits.deBruijn32tab", laid_math_bits_deBruijn32tab), ("math/bits.deBruijn64tab", laid_math_bits_deBruijn64tab), ("internal/strconv.uint64pow10", laid_internal_strconv_uint64pow10), ("strconv.ErrRange", laid_strconv_ErrRange), ("strconv.ErrSyntax", laid_strconv_ErrSyntax), ("loop.example/g01543/impl.keywords", laid_loop_example_g01543_impl_keywords), ("loop.example/g01543/impl.signs", laid_loop_example_g01543_impl_signs), ("loop.example/g01543/impl.builtins", laid_loop_example_g01543_impl_builtins)] }
def FnExactEvalSaid : Prop := fnExactEvalRow.holds Tryz.pinned (OpenSpec.ofChange fnExactEvalSpec)

/-- ITS FALSE NEIGHBOUR: 'it returns false'. Refute it at one input. -/
def fnExactEvalWrong : ChangeSpec := { name := "fnExactEval", vars := ["loop.example/g01543/impl.keywords", "loop.example/g01543/impl.builtins", "loop.example/g01543/impl.signs"], fn := fun _ => fun
  | [d1, d2, g1, g2, g3] => { results := [.lit (.bool false)], args := [d1, d2], vars := [g1, g2, g3] }
  | _ => none }
def FnExactEvalWrongFalsely : Prop := fnExactEvalRow.holds Tryz.pinned (OpenSpec.ofChange fnExactEvalWrong)

/-- 'laws.FnExactFold': WHATEVER THE INPUT: true; the input reads as it did. -/
def fnExactFoldSpec : ChangeSpec := { name := "fnExactFold", vars := ["loop.example/g01543/impl.keywords", "loop.example/g01543/impl.builtins", "loop.example/g01543/impl.signs"], fn := fun _ => fun
  | [d, g1, g2, g3] => { results := [.lit (.bool true)], args := [d], vars := [g1, g2, g3] }
  | _ => none }
def fnExactFoldRow : OpenClaim := { program := "ytfmojbfodcgebaagreatdoor", sum := "4e77d2099fc5f26b61a56fcc4c03ecf70db727ca4e95497179b68993e6651667", func := "loop.example/g01543/laws.FnExactFold", spec := "fnExactFold", inPlace := ["internal/bytealg.IndexByteString", "internal/bytealg.IndexString"], unfollowed := true, recurses := true, named := ["loop.example/g01543/impl.keywords", "loop.example/g01543/impl.builtins", "internal/bytealg.MaxLen", "loop.example/g01543/impl.signs", "strconv.ErrSyntax", "strconv.ErrRange", "internal/strconv.uint64pow10", "math/bits.deBruijn32tab", "math/bits.deBruijn64tab"], apart := false, laid := [("math/bits.deBruijn32tab", laid_math_bits_deBruijn32tab), ("math/bits.deBruijn64tab", laid_math_bits_deBruijn64tab), ("internal/strconv.uint64pow10", laid_internal_strconv_uint64pow10), ("strconv.ErrRange", laid_strconv_ErrRange), ("strconv.ErrSyntax", laid_strconv_ErrSyntax), ("loop.example/g01543/impl.keywords", laid_loop_example_g01543_impl_keywords), ("loop.example/g01543/impl.signs", laid_loop_example_g01543_impl_signs), ("loop.example/g01543/impl.builtins", laid_loop_example_g01543_impl_builtins)] }
def FnExactFoldSaid : Prop := fnExactFoldRow.holds Tryz.pinned (OpenSpec.ofChange fnExactFoldSpec)

/-- ITS FALSE NEIGHBOUR: 'it returns false'. Refute it at one input. -/
def fnExactFoldWrong : ChangeSpec := { name := "fnExactFold", vars := ["loop.example/g01543/impl.keywords", "loop.example/g01543/impl.builtins", "loop.example/g01543/impl.signs"], fn := fun _ => fun
  | [d, g1, g2, g3] => { results := [.lit (.bool false)], args := [d], vars := [g1, g2, g3] }
  | _ => none }
def FnExactFoldWrongFalsely : Prop := fnExactFoldRow.holds Tryz.pinned (OpenSpec.ofChange fnExactFoldWrong)

/- THE SECOND FORM. 'bulk': how many values and letters a reading holds, each counted each time it is reached (what is shared counts as often as it is met; a slice's spare places count too). A statement '..UptoSaid' is the law's where the arguments, and the package variables that the reading takes, are together of bulk at most 1048576: NARROWER than '..Said'. Prove '..Said' where nothing that the law and all that it calls make is longer than what came in: it says more and counts as full. Else prove '..UptoSaid'. A law counts once. -/
mutual
def uptoBulk {H : Type} : DataW H → Nat
  | .lit (.string bytes) => bytes.length + 1
  | .lit _ => 1
  | .nil => 1
  | .ptr d => uptoBulk d + 1
  | .slice elems spare => uptoBulkAll elems + uptoBulkAll spare + 1
  | .agg parts => uptoBulkAll parts + 1
  | .iface _ d => uptoBulk d + 1
  | .map entries => uptoBulkEntries entries + 1
  | .held _ => 1
def uptoBulkAll {H : Type} : List (DataW H) → Nat
  | [] => 0
  | d :: r => uptoBulk d + uptoBulkAll r
def uptoBulkEntries {H : Type} : List (Lit × DataW H) → Nat
  | [] => 0
  | x :: r => uptoBulkEntry x + uptoBulkEntries r
def uptoBulkEntry {H : Type} : Lit × DataW H → Nat
  | (.string bytes, d) => bytes.length + uptoBulk d + 1
  | (_, d) => uptoBulk d + 1
 end
def uptoSmall : (H : Type) → List (DataW H) → Bool := fun _ ds => decide (uptoBulkAll ds ≤ 1048576)
def OpenSpec.upto (s : _root_.Go.ChangeSpec) : _root_.Go.OpenSpec := { _root_.Go.OpenSpec.ofChange s with cond := some uptoSmall }

/-- 'laws.FnExactMeasure', WHERE WHAT IT READS IS OF BULK AT MOST 1048576: true; the input reads as it did. -/
def fnExactMeasureUptoRow : OpenClaim := { program := "ytfmojbfodcgebaagreatdoor", sum := "4e77d2099fc5f26b61a56fcc4c03ecf70db727ca4e95497179b68993e6651667", func := "loop.example/g01543/laws.FnExactMeasure", spec := "fnExactMeasure", inPlace := ["internal/bytealg.IndexByteString", "internal/bytealg.IndexString"], unfollowed := true, recurses := true, named := ["loop.example/g01543/impl.keywords", "loop.example/g01543/impl.builtins", "internal/bytealg.MaxLen", "loop.example/g01543/impl.signs", "internal/strconv.uint64pow10", "math/bits.deBruijn32tab", "math/bits.deBruijn64tab"], apart := false, laid := [("math/bits.deBruijn32tab", laid_math_bits_deBruijn32tab), ("math/bits.deBruijn64tab", laid_math_bits_deBruijn64tab), ("internal/strconv.uint64pow10", laid_internal_strconv_uint64pow10), ("loop.example/g01543/impl.keywords", laid_loop_example_g01543_impl_keywords), ("loop.example/g01543/impl.signs", laid_loop_example_g01543_impl_signs), ("loop.example/g01543/impl.builtins", laid_loop_example_g01543_impl_builtins)], narrowed := true }
def FnExactMeasureUptoSaid : Prop := fnExactMeasureUptoRow.holds Tryz.pinned (OpenSpec.upto fnExactMeasureSpec)

/-- 'laws.FnExactUnused', WHERE WHAT IT READS IS OF BULK AT MOST 1048576: true; the input reads as it did. -/
def fnExactUnusedUptoRow : OpenClaim := { program := "ytfmojbfodcgebaagreatdoor", sum := "4e77d2099fc5f26b61a56fcc4c03ecf70db727ca4e95497179b68993e6651667", func := "loop.example/g01543/laws.FnExactUnused", spec := "fnExactUnused", inPlace := ["internal/bytealg.IndexByteString", "internal/bytealg.IndexString"], unfollowed := true, recurses := true, named := ["loop.example/g01543/impl.keywords", "loop.example/g01543/impl.builtins", "internal/bytealg.MaxLen", "loop.example/g01543/impl.signs"], apart := false, laid := [("loop.example/g01543/impl.keywords", laid_loop_example_g01543_impl_keywords), ("loop.example/g01543/impl.signs", laid_loop_example_g01543_impl_signs), ("loop.example/g01543/impl.builtins", laid_loop_example_g01543_impl_builtins)], narrowed := true }
def FnExactUnusedUptoSaid : Prop := fnExactUnusedUptoRow.holds Tryz.pinned (OpenSpec.upto fnExactUnusedSpec)

/-- 'laws.FnExactGlobalsOf', WHERE WHAT IT READS IS OF BULK AT MOST 1048576: true; the input reads as it did. -/
def fnExactGlobalsOfUptoRow : OpenClaim := { program := "ytfmojbfodcgebaagreatdoor", sum := "4e77d2099fc5f26b61a56fcc4c03ecf70db727ca4e95497179b68993e6651667", func := "loop.example/g01543/laws.FnExactGlobalsOf", spec := "fnExactGlobalsOf", inPlace := ["internal/bytealg.IndexByteString", "internal/bytealg.IndexString"], unfollowed := true, recurses := true, named := ["loop.example/g01543/impl.keywords", "loop.example/g01543/impl.builtins", "internal/bytealg.MaxLen", "loop.example/g01543/impl.signs"], apart := false, laid := [("loop.example/g01543/impl.keywords", laid_loop_example_g01543_impl_keywords), ("loop.example/g01543/impl.signs", laid_loop_example_g01543_impl_signs), ("loop.example/g01543/impl.builtins", laid_loop_example_g01543_impl_builtins)], narrowed := true }
def FnExactGlobalsOfUptoSaid : Prop := fnExactGlobalsOfUptoRow.holds Tryz.pinned (OpenSpec.upto fnExactGlobalsOfSpec)

/-- 'laws.FnExactNoComments', WHERE WHAT IT READS IS OF BULK AT MOST 1048576: true; the input reads as it did. -/
def fnExactNoCommentsUptoRow : OpenClaim := { program := "ytfmojbfodcgebaagreatdoor", sum := "4e77d2099fc5f26b61a56fcc4c03ecf70db727ca4e95497179b68993e6651667", func := "loop.example/g01543/laws.FnExactNoComments", spec := "fnExactNoComments", inPlace := ["internal/bytealg.IndexByteString", "internal/bytealg.IndexString"], unfollowed := true, recurses := true, named := ["loop.example/g01543/impl.keywords", "loop.example/g01543/impl.builtins", "internal/bytealg.MaxLen", "loop.example/g01543/impl.signs"], apart := false, laid := [("loop.example/g01543/impl.keywords", laid_loop_example_g01543_impl_keywords), ("loop.example/g01543/impl.signs", laid_loop_example_g01543_impl_signs), ("loop.example/g01543/impl.builtins", laid_loop_example_g01543_impl_builtins)], narrowed := true }
def FnExactNoCommentsUptoSaid : Prop := fnExactNoCommentsUptoRow.holds Tryz.pinned (OpenSpec.upto fnExactNoCommentsSpec)

/-- 'laws.FnExactRename', WHERE WHAT IT READS IS OF BULK AT MOST 1048576: true; the input reads as it did. -/
def fnExactRenameUptoRow : OpenClaim := { program := "ytfmojbfodcgebaagreatdoor", sum := "4e77d2099fc5f26b61a56fcc4c03ecf70db727ca4e95497179b68993e6651667", func := "loop.example/g01543/laws.FnExactRename", spec := "fnExactRename", inPlace := ["internal/bytealg.IndexByteString", "internal/bytealg.IndexString"], unfollowed := true, recurses := true, named := ["loop.example/g01543/impl.keywords", "loop.example/g01543/impl.builtins", "internal/bytealg.MaxLen", "loop.example/g01543/impl.signs"], apart := false, laid := [("loop.example/g01543/impl.keywords", laid_loop_example_g01543_impl_keywords), ("loop.example/g01543/impl.signs", laid_loop_example_g01543_impl_signs), ("loop.example/g01543/impl.builtins", laid_loop_example_g01543_impl_builtins)], narrowed := true }
def FnExactRenameUptoSaid : Prop := fnExactRenameUptoRow.holds Tryz.pinned (OpenSpec.upto fnExactRenameSpec)

/-- 'laws.FnExactLints', WHERE WHAT IT READS IS OF BULK AT MOST 1048576: true; the input reads as it did. -/
def fnExactLintsUptoRow : OpenClaim := { program := "ytfmojbfodcgebaagreatdoor", sum := "4e77d2099fc5f26b61a56fcc4c03ecf70db727ca4e95497179b68993e6651667", func := "loop.example/g01543/laws.FnExactLints", spec := "fnExactLints", inPlace := ["internal/bytealg.IndexByteString", "internal/bytealg.IndexString"], unfollowed := true, recurses := true, named := ["loop.example/g01543/impl.keywords", "loop.example/g01543/impl.builtins", "internal/bytealg.MaxLen", "loop.example/g01543/impl.signs", "internal/strconv.uint64pow10", "math/bits.deBruijn32tab", "math/bits.deBruijn64tab"], apart := false, laid := [("math/bits.deBruijn32tab", laid_math_bits_deBruijn32tab), ("math/bits.deBruijn64tab", laid_math_bits_deBruijn64tab), ("internal/strconv.uint64pow10", laid_internal_strconv_uint64pow10), ("loop.example/g01543/impl.keywords", laid_loop_example_g01543_impl_keywords), ("loop.example/g01543/impl.signs", laid_loop_example_g01543_impl_signs), ("loop.example/g01543/impl.builtins", laid_loop_example_g01543_impl_builtins)], narrowed := true }
def FnExactLintsUptoSaid : Prop := fnExactLintsUptoRow.holds Tryz.pinned (OpenSpec.upto fnExactLintsSpec)

/-- 'laws.FnExactClean', WHERE WHAT IT READS IS OF BULK AT MOST 1048576: true; the input reads as it did. -/
def fnExactCleanUptoRow : OpenClaim := { program := "ytfmojbfodcgebaagreatdoor", sum := "4e77d2099fc5f26b61a56fcc4c03ecf70db727ca4e95497179b68993e6651667", func := "loop.example/g01543/laws.FnExactClean", spec := "fnExactClean", inPlace := ["internal/bytealg.IndexByteString", "internal/bytealg.IndexString"], unfollowed := true, recurses := true, named := ["loop.example/g01543/impl.keywords", "loop.example/g01543/impl.builtins", "internal/bytealg.MaxLen", "loop.example/g01543/impl.signs", "internal/strconv.uint64pow10", "math/bits.deBruijn32tab", "math/bits.deBruijn64tab"], apart := false, laid := [("math/bits.deBruijn32tab", laid_math_bits_deBruijn32tab), ("math/bits.deBruijn64tab", laid_math_bits_deBruijn64tab), ("internal/strconv.uint64pow10", laid_internal_strconv_uint64pow10), ("loop.example/g01543/impl.keywords", laid_loop_example_g01543_impl_keywords), ("loop.example/g01543/impl.signs", laid_loop_example_g01543_impl_signs), ("loop.example/g01543/impl.builtins", laid_loop_example_g01543_impl_builtins)], narrowed := true }
def FnExactCleanUptoSaid : Prop := fnExactCleanUptoRow.holds Tryz.pinned (OpenSpec.upto fnExactCleanSpec)

/-- 'laws.FnExactEval', WHERE WHAT IT READS IS OF BULK AT MOST 1048576: true; the input reads as it did. -/
def fnExactEvalUptoRow : OpenClaim := { program := "ytfmojbfodcgebaagreatdoor", sum := "4e77d2099fc5f26b61a56fcc4c03ecf70db727ca4e95497179b68993e6651667", func := "loop.example/g01543/laws.FnExactEval", spec := "fnExactEval", inPlace := ["internal/bytealg.IndexByteString", "internal/bytealg.IndexString"], unfollowed := true, recurses := true, named := ["loop.example/g01543/impl.keywords", "loop.example/g01543/impl.builtins", "internal/bytealg.MaxLen", "loop.example/g01543/impl.signs", "strconv.ErrSyntax", "strconv.ErrRange", "internal/strconv.uint64pow10", "math/bits.deBruijn32tab", "math/bits.deBruijn64tab"], apart := false, laid := [("math/bits.deBruijn32tab", laid_math_bits_deBruijn32tab), ("math/bits.deBruijn64tab", laid_math_bits_deBruijn64tab), ("internal/strconv.uint64pow10", laid_internal_strconv_uint64pow10), ("strconv.ErrRange", laid_strconv_ErrRange), ("strconv.ErrSyntax", laid_strconv_ErrSyntax), ("loop.example/g01543/impl.keywords", laid_loop_example_g01543_impl_keywords), ("loop.example/g01543/impl.signs", laid_loop_example_g01543_impl_signs), ("loop.example/g01543/impl.builtins", laid_loop_example_g01543_impl_builtins)], narrowed := true }
def FnExactEvalUptoSaid : Prop := fnExactEvalUptoRow.holds Tryz.pinned (OpenSpec.upto fnExactEvalSpec)

/-- 'laws.FnExactFold', WHERE WHAT IT READS IS OF BULK AT MOST 1048576: true; the input reads as it did. -/
def fnExactFoldUptoRow : OpenClaim := { program := "ytfmojbfodcgebaagreatdoor", sum := "4e77d2099fc5f26b61a56fcc4c03ecf70db727ca4e95497179b68993e6651667", func := "loop.example/g01543/laws.FnExactFold", spec := "fnExactFold", inPlace := ["internal/bytealg.IndexByteString", "internal/bytealg.IndexString"], unfollowed := true, recurses := true, named := ["loop.example/g01543/impl.keywords", "loop.example/g01543/impl.builtins", "internal/bytealg.MaxLen", "loop.example/g01543/impl.signs", "strconv.ErrSyntax", "strconv.ErrRange", "internal/strconv.uint64pow10", "math/bits.deBruijn32tab", "math/bits.deBruijn64tab"], apart := false, laid := [("math/bits.deBruijn32tab", laid_math_bits_deBruijn32tab), ("math/bits.deBruijn64tab", laid_math_bits_deBruijn64tab), ("internal/strconv.uint64pow10", laid_internal_strconv_uint64pow10), ("strconv.ErrRange", laid_strconv_ErrRange), ("strconv.ErrSyntax", laid_strconv_ErrSyntax), ("loop.example/g01543/impl.keywords", laid_loop_example_g01543_impl_keywords), ("loop.example/g01543/impl.signs", laid_loop_example_g01543_impl_signs), ("loop.example/g01543/impl.builtins", laid_loop_example_g01543_impl_builtins)], narrowed := true }
def FnExactFoldUptoSaid : Prop := fnExactFoldUptoRow.holds Tryz.pinned (OpenSpec.upto fnExactFoldSpec)

end Rows
end Go.Proofs.YtfmojbfodcgebaaGreatDoor
