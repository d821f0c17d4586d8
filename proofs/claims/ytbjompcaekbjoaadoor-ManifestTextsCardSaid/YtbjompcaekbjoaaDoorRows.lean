/-
  NARROWER THAN 'FOR EVERY INPUT', by the rows' own cells (each row's printed sentence says how): ManifestTexts: laid · ManifestUnlike: laid · PathOrders: laid · PathTotal: laid · PathRunes: laid · PathFolds: laid · PathNames: laid · PathParts: laid · NodeReads: laid · NodeFull: laid · NodeUnlike: laid · NodeTexts: laid.
  DERIVED. THE GIVEN ROWS OF THIS SEAT. 12 by the template 'for every input the law returns true; each argument reads behind the call as it read before'; 0 by the template 'total and deterministic' (their statements: YtbjompcaekbjoaaDoorTotals.lean).
  GIVEN WITH THE SEED: the statements are not yours to turn. If you find one false, say at which input.
  Laid BY PROGRAM, IN A SANDBOX (cutbox-rows.mjs): the forced cells as the released guide's own fill.sh prints them over the translation 776582d42b0292d2… (all of the seat's roots in one cut). By AI agents, Wed Nov 11 2026. No macro, syntax, notation, axiom, sorry.
-/
import Derived.Test.YtbjompcaekbjoaaDoorChecked
import GoSem.PinnedTables
import GoSem.Claim
import GoSem.ClaimJoined
import GoSem.ClaimMapViews
import Derived.JoinedTies
import Derived.KernelRfl
namespace Go.Proofs.YtbjompcaekbjoaaDoor
/- THE CELL 'sum', in the pinned program and in every row, IS THE sha256 OF THE DUMP (.gsa) THAT YtbjompcaekbjoaaDoorProg.lean LOADS. Nothing in Lean hashes anything: it is a label: what it is worth is what the hold of that sum in a sandbox is worth. -/
noncomputable def Tryd.pinned : Pinned := { name := "ytbjompcaekbjoaadoor", sum := "776582d42b0292d2fc214d2028bb79c0953fe4eb99c22bc4ca279a1dfa3f12ea", checked := Tryd.checked }
namespace Rows
def none {H : Type} : Left H := { results := [], args := [] }

/- WHAT THE LISTED PACKAGE-LEVEL VARIABLES READ AS WHEN THE CALL BEGINS. Each datum BY PROGRAM (the guide's laid-datum.mjs) off the statement by which the dump's own 'gosem.cut.vars' lays the variable. In a bare row this is a premise. The card (YtbjompcaekbjoaaDoorCards.lean) ties it to the program's text. -/
def laid_unicode_utf8_acceptRanges {H : Type} : DataW H := .agg [.agg [.lit (.int .u8 128), .lit (.int .u8 191)], .agg [.lit (.int .u8 160), .lit (.int .u8 191)], .agg [.lit (.int .u8 128), .lit (.int .u8 159)], .agg [.lit (.int .u8 144), .lit (.int .u8 191)], .agg [.lit (.int .u8 128), .lit (.int .u8 143)], .agg [.lit (.int .u8 0), .lit (.int .u8 0)], .agg [.lit (.int .u8 0), .lit (.int .u8 0)], .agg [.lit (.int .u8 0), .lit (.int .u8 0)], .agg [.lit (.int .u8 0), .lit (.int .u8 0)], .agg [.lit (.int .u8 0), .lit (.int .u8 0)], .agg [.lit (.int .u8 0), .lit (.int .u8 0)], .agg [.lit (.int .u8 0), .lit (.int .u8 0)], .agg [.lit (.int .u8 0), .lit (.int .u8 0)], .agg [.lit (.int .u8 0), .lit (.int .u8 0)], .agg [.lit (.int .u8 0), .lit (.int .u8 0)], .agg [.lit (.int .u8 0), .lit (.int .u8 0)]]
/-- One of Go's own tables, pinned by name: the form's constant. -/
def laid_unicode_utf8_first : DataW Unit := Go.Pinned.utf8First

/-- 'cellarerlaw19.ManifestTexts': WHATEVER THE INPUT: true; the input reads as it did. -/
def manifestTextsSpec : ChangeSpec := { name := "manifestTexts", fn := fun _ => fun
  | [d1, d2] => { results := [.lit (.bool true)], args := [d1, d2] }
  | _ => none }
def manifestTextsRow : OpenClaim := { program := "ytbjompcaekbjoaadoor", sum := "776582d42b0292d2fc214d2028bb79c0953fe4eb99c22bc4ca279a1dfa3f12ea", func := "cellarer/cellarerlaw19.ManifestTexts", spec := "manifestTexts", inPlace := ["internal/abi.NoEscape", "internal/bytealg.MakeNoZero"], named := ["unicode/utf8.first", "unicode/utf8.acceptRanges"], apart := false, laid := [("unicode/utf8.acceptRanges", laid_unicode_utf8_acceptRanges), ("unicode/utf8.first", laid_unicode_utf8_first)] }
def ManifestTextsSaid : Prop := manifestTextsRow.holds Tryd.pinned (OpenSpec.ofChange manifestTextsSpec)

/-- ITS FALSE NEIGHBOUR: 'it returns false'. Refute it at one input. -/
def manifestTextsWrong : ChangeSpec := { name := "manifestTexts", fn := fun _ => fun
  | [d1, d2] => { results := [.lit (.bool false)], args := [d1, d2] }
  | _ => none }
def ManifestTextsWrongFalsely : Prop := manifestTextsRow.holds Tryd.pinned (OpenSpec.ofChange manifestTextsWrong)

/-- 'cellarerlaw19.ManifestUnlike': WHATEVER THE INPUT: true; the input reads as it did. -/
def manifestUnlikeSpec : ChangeSpec := { name := "manifestUnlike", fn := fun _ => fun
  | [d1, d2] => { results := [.lit (.bool true)], args := [d1, d2] }
  | _ => none }
def manifestUnlikeRow : OpenClaim := { program := "ytbjompcaekbjoaadoor", sum := "776582d42b0292d2fc214d2028bb79c0953fe4eb99c22bc4ca279a1dfa3f12ea", func := "cellarer/cellarerlaw19.ManifestUnlike", spec := "manifestUnlike", inPlace := ["internal/abi.NoEscape", "internal/bytealg.MakeNoZero"], named := ["unicode/utf8.first", "unicode/utf8.acceptRanges"], apart := false, laid := [("unicode/utf8.acceptRanges", laid_unicode_utf8_acceptRanges), ("unicode/utf8.first", laid_unicode_utf8_first)] }
def ManifestUnlikeSaid : Prop := manifestUnlikeRow.holds Tryd.pinned (OpenSpec.ofChange manifestUnlikeSpec)

/-- ITS FALSE NEIGHBOUR: 'it returns false'. Refute it at one input. -/
def manifestUnlikeWrong : ChangeSpec := { name := "manifestUnlike", fn := fun _ => fun
  | [d1, d2] => { results := [.lit (.bool false)], args := [d1, d2] }
  | _ => none }
def ManifestUnlikeWrongFalsely : Prop := manifestUnlikeRow.holds Tryd.pinned (OpenSpec.ofChange manifestUnlikeWrong)

/-- 'cellarerlaw11.PathOrders': WHATEVER THE INPUT: true; the input reads as it did. -/
def pathOrdersSpec : ChangeSpec := { name := "pathOrders", fn := fun _ => fun
  | [d1, d2] => { results := [.lit (.bool true)], args := [d1, d2] }
  | _ => none }
def pathOrdersRow : OpenClaim := { program := "ytbjompcaekbjoaadoor", sum := "776582d42b0292d2fc214d2028bb79c0953fe4eb99c22bc4ca279a1dfa3f12ea", func := "cellarer/cellarerlaw11.PathOrders", spec := "pathOrders", inPlace := ["internal/bytealg.CountString", "internal/bytealg.IndexByteString", "internal/bytealg.IndexString"], unfollowed := true, recurses := true, named := ["internal/bytealg.MaxLen", "unicode/utf8.first", "unicode/utf8.acceptRanges"], apart := false, laid := [("unicode/utf8.acceptRanges", laid_unicode_utf8_acceptRanges), ("unicode/utf8.first", laid_unicode_utf8_first)] }
def PathOrdersSaid : Prop := pathOrdersRow.holds Tryd.pinned (OpenSpec.ofChange pathOrdersSpec)

/-- ITS FALSE NEIGHBOUR: 'it returns false'. Refute it at one input. -/
def pathOrdersWrong : ChangeSpec := { name := "pathOrders", fn := fun _ => fun
  | [d1, d2] => { results := [.lit (.bool false)], args := [d1, d2] }
  | _ => none }
def PathOrdersWrongFalsely : Prop := pathOrdersRow.holds Tryd.pinned (OpenSpec.ofChange pathOrdersWrong)

/-- 'cellarerlaw11.PathTotal': WHATEVER THE INPUT: true; the input reads as it did. -/
def pathTotalSpec : ChangeSpec := { name := "pathTotal", fn := fun _ => fun
  | [d1, d2, d3, d4] => { results := [.lit (.bool true)], args := [d1, d2, d3, d4] }
  | _ => none }
def pathTotalRow : OpenClaim := { program := "ytbjompcaekbjoaadoor", sum := "776582d42b0292d2fc214d2028bb79c0953fe4eb99c22bc4ca279a1dfa3f12ea", func := "cellarer/cellarerlaw11.PathTotal", spec := "pathTotal", inPlace := ["internal/bytealg.CountString", "internal/bytealg.IndexByteString", "internal/bytealg.IndexString"], unfollowed := true, recurses := true, named := ["unicode/utf8.first", "unicode/utf8.acceptRanges", "internal/bytealg.MaxLen"], apart := false, laid := [("unicode/utf8.acceptRanges", laid_unicode_utf8_acceptRanges), ("unicode/utf8.first", laid_unicode_utf8_first)] }
def PathTotalSaid : Prop := pathTotalRow.holds Tryd.pinned (OpenSpec.ofChange pathTotalSpec)

/-- ITS FALSE NEIGHBOUR: 'it returns false'. Refute it at one input. -/
def pathTotalWrong : ChangeSpec := { name := "pathTotal", fn := fun _ => fun
  | [d1, d2, d3, d4] => { results := [.lit (.bool false)], args := [d1, d2, d3, d4] }
  | _ => none }
def PathTotalWrongFalsely : Prop := pathTotalRow.holds Tryd.pinned (OpenSpec.ofChange pathTotalWrong)

/-- 'cellarerlaw11.PathRunes': WHATEVER THE INPUT: true; the input reads as it did. -/
def pathRunesSpec : ChangeSpec := { name := "pathRunes", fn := fun _ => fun
  | [d1, d2] => { results := [.lit (.bool true)], args := [d1, d2] }
  | _ => none }
def pathRunesRow : OpenClaim := { program := "ytbjompcaekbjoaadoor", sum := "776582d42b0292d2fc214d2028bb79c0953fe4eb99c22bc4ca279a1dfa3f12ea", func := "cellarer/cellarerlaw11.PathRunes", spec := "pathRunes", inPlace := ["internal/bytealg.CountString", "internal/bytealg.IndexByteString", "internal/bytealg.IndexString"], unfollowed := true, recurses := true, named := ["internal/bytealg.MaxLen", "unicode/utf8.first", "unicode/utf8.acceptRanges"], apart := false, laid := [("unicode/utf8.acceptRanges", laid_unicode_utf8_acceptRanges), ("unicode/utf8.first", laid_unicode_utf8_first)] }
def PathRunesSaid : Prop := pathRunesRow.holds Tryd.pinned (OpenSpec.ofChange pathRunesSpec)

/-- ITS FALSE NEIGHBOUR: 'it returns false'. Refute it at one input. -/
def pathRunesWrong : ChangeSpec := { name := "pathRunes", fn := fun _ => fun
  | [d1, d2] => { results := [.lit (.bool false)], args := [d1, d2] }
  | _ => none }
def PathRunesWrongFalsely : Prop := pathRunesRow.holds Tryd.pinned (OpenSpec.ofChange pathRunesWrong)

/-- 'cellarerlaw11.PathFolds': WHATEVER THE INPUT: true; the input reads as it did. -/
def pathFoldsSpec : ChangeSpec := { name := "pathFolds", fn := fun _ => fun
  | [d1, d2] => { results := [.lit (.bool true)], args := [d1, d2] }
  | _ => none }
def pathFoldsRow : OpenClaim := { program := "ytbjompcaekbjoaadoor", sum := "776582d42b0292d2fc214d2028bb79c0953fe4eb99c22bc4ca279a1dfa3f12ea", func := "cellarer/cellarerlaw11.PathFolds", spec := "pathFolds", inPlace := ["internal/bytealg.CountString", "internal/bytealg.IndexByteString", "internal/bytealg.IndexString"], unfollowed := true, recurses := true, named := ["unicode/utf8.first", "unicode/utf8.acceptRanges", "internal/bytealg.MaxLen"], apart := false, laid := [("unicode/utf8.acceptRanges", laid_unicode_utf8_acceptRanges), ("unicode/utf8.first", laid_unicode_utf8_first)] }
def PathFoldsSaid : Prop := pathFoldsRow.holds Tryd.pinned (OpenSpec.ofChange pathFoldsSpec)

/-- ITS FALSE NEIGHBOUR: 'it returns false'. Refute it at one input. -/
def pathFoldsWrong : ChangeSpec := { name := "pathFolds", fn := fun _ => fun
  | [d1, d2] => { results := [.lit (.bool false)], args := [d1, d2] }
  | _ => none }
def PathFoldsWrongFalsely : Prop := pathFoldsRow.holds Tryd.pinned (OpenSpec.ofChange pathFoldsWrong)

/-- 'cellarerlaw11.PathNames': WHATEVER THE INPUT: true; the input reads as it did. -/
def pathNamesSpec : ChangeSpec := { name := "pathNames", fn := fun _ => fun
  | [d] => { results := [.lit (.bool true)], args := [d] }
  | _ => none }
def pathNamesRow : OpenClaim := { program := "ytbjompcaekbjoaadoor", sum := "776582d42b0292d2fc214d2028bb79c0953fe4eb99c22bc4ca279a1dfa3f12ea", func := "cellarer/cellarerlaw11.PathNames", spec := "pathNames", inPlace := ["internal/bytealg.CountString", "internal/bytealg.IndexByteString", "internal/bytealg.IndexString"], unfollowed := true, recurses := true, named := ["internal/bytealg.MaxLen", "unicode/utf8.first", "unicode/utf8.acceptRanges"], apart := false, laid := [("unicode/utf8.acceptRanges", laid_unicode_utf8_acceptRanges), ("unicode/utf8.first", laid_unicode_utf8_first)] }
def PathNamesSaid : Prop := pathNamesRow.holds Tryd.pinned (OpenSpec.ofChange pathNamesSpec)

/-- ITS FALSE NEIGHBOUR: 'it returns false'. Refute it at one input. -/
def pathNamesWrong : ChangeSpec := { name := "pathNames", fn := fun _ => fun
  | [d] => { results := [.lit (.bool false)], args := [d] }
  | _ => none }
def PathNamesWrongFalsely : Prop := pathNamesRow.holds Tryd.pinned (OpenSpec.ofChange pathNamesWrong)

/-- 'cellarerlaw11.PathParts': WHATEVER THE INPUT: true; the input reads as it did. -/
def pathPartsSpec : ChangeSpec := { name := "pathParts", fn := fun _ => fun
  | [d1, d2] => { results := [.lit (.bool true)], args := [d1, d2] }
  | _ => none }
def pathPartsRow : OpenClaim := { program := "ytbjompcaekbjoaadoor", sum := "776582d42b0292d2fc214d2028bb79c0953fe4eb99c22bc4ca279a1dfa3f12ea", func := "cellarer/cellarerlaw11.PathParts", spec := "pathParts", inPlace := ["internal/bytealg.CountString", "internal/bytealg.IndexByteString", "internal/bytealg.IndexString"], unfollowed := true, recurses := true, named := ["internal/bytealg.MaxLen", "unicode/utf8.first", "unicode/utf8.acceptRanges"], apart := false, laid := [("unicode/utf8.acceptRanges", laid_unicode_utf8_acceptRanges), ("unicode/utf8.first", laid_unicode_utf8_first)] }
def PathPartsSaid : Prop := pathPartsRow.holds Tryd.pinned (OpenSpec.ofChange pathPartsSpec)

/-- ITS FALSE NEIGHBOUR: 'it returns false'. Refute it at one input. -/
def pathPartsWrong : ChangeSpec := { name := "pathParts", fn := fun _ => fun
  | [d1, d2] => { results := [.lit (.bool false)], args := [d1, d2] }
  | _ => none }
def PathPartsWrongFalsely : Prop := pathPartsRow.holds Tryd.pinned (OpenSpec.ofChange pathPartsWrong)

/-- 'cellarerlaw12.NodeReads': WHATEVER THE INPUT: true; the input reads as it did. -/
def nodeReadsSpec : ChangeSpec := { name := "nodeReads", fn := fun _ => fun
  | [d] => { results := [.lit (.bool true)], args := [d] }
  | _ => none }
def nodeReadsRow : OpenClaim := { program := "ytbjompcaekbjoaadoor", sum := "776582d42b0292d2fc214d2028bb79c0953fe4eb99c22bc4ca279a1dfa3f12ea", func := "cellarer/cellarerlaw12.NodeReads", spec := "nodeReads", inPlace := ["internal/bytealg.CountString", "internal/bytealg.IndexByteString", "internal/bytealg.IndexString"], unfollowed := true, recurses := true, named := ["internal/bytealg.MaxLen", "unicode/utf8.first", "unicode/utf8.acceptRanges"], apart := false, laid := [("unicode/utf8.acceptRanges", laid_unicode_utf8_acceptRanges), ("unicode/utf8.first", laid_unicode_utf8_first)] }
def NodeReadsSaid : Prop := nodeReadsRow.holds Tryd.pinned (OpenSpec.ofChange nodeReadsSpec)

/-- ITS FALSE NEIGHBOUR: 'it returns false'. Refute it at one input. -/
def nodeReadsWrong : ChangeSpec := { name := "nodeReads", fn := fun _ => fun
  | [d] => { results := [.lit (.bool false)], args := [d] }
  | _ => none }
def NodeReadsWrongFalsely : Prop := nodeReadsRow.holds Tryd.pinned (OpenSpec.ofChange nodeReadsWrong)

/-- 'cellarerlaw12.NodeFull': WHATEVER THE INPUT: true; the input reads as it did. -/
def nodeFullSpec : ChangeSpec := { name := "nodeFull", fn := fun _ => fun
  | [d1, d2] => { results := [.lit (.bool true)], args := [d1, d2] }
  | _ => none }
def nodeFullRow : OpenClaim := { program := "ytbjompcaekbjoaadoor", sum := "776582d42b0292d2fc214d2028bb79c0953fe4eb99c22bc4ca279a1dfa3f12ea", func := "cellarer/cellarerlaw12.NodeFull", spec := "nodeFull", inPlace := ["internal/bytealg.CountString", "internal/bytealg.IndexByteString", "internal/bytealg.IndexString"], unfollowed := true, recurses := true, named := ["internal/bytealg.MaxLen", "unicode/utf8.first", "unicode/utf8.acceptRanges"], apart := false, laid := [("unicode/utf8.acceptRanges", laid_unicode_utf8_acceptRanges), ("unicode/utf8.first", laid_unicode_utf8_first)] }
def NodeFullSaid : Prop := nodeFullRow.holds Tryd.pinned (OpenSpec.ofChange nodeFullSpec)

/-- ITS FALSE NEIGHBOUR: 'it returns false'. Refute it at one input. -/
def nodeFullWrong : ChangeSpec := { name := "nodeFull", fn := fun _ => fun
  | [d1, d2] => { results := [.lit (.bool false)], args := [d1, d2] }
  | _ => none }
def NodeFullWrongFalsely : Prop := nodeFullRow.holds Tryd.pinned (OpenSpec.ofChange nodeFullWrong)

/-- 'cellarerlaw12.NodeUnlike': WHATEVER THE INPUT: true; the input reads as it did. -/
def nodeUnlikeSpec : ChangeSpec := { name := "nodeUnlike", fn := fun _ => fun
  | [d1, d2, d3] => { results := [.lit (.bool true)], args := [d1, d2, d3] }
  | _ => none }
def nodeUnlikeRow : OpenClaim := { program := "ytbjompcaekbjoaadoor", sum := "776582d42b0292d2fc214d2028bb79c0953fe4eb99c22bc4ca279a1dfa3f12ea", func := "cellarer/cellarerlaw12.NodeUnlike", spec := "nodeUnlike", inPlace := ["internal/bytealg.CountString", "internal/bytealg.IndexByteString", "internal/bytealg.IndexString"], unfollowed := true, recurses := true, named := ["internal/bytealg.MaxLen", "unicode/utf8.first", "unicode/utf8.acceptRanges"], apart := false, laid := [("unicode/utf8.acceptRanges", laid_unicode_utf8_acceptRanges), ("unicode/utf8.first", laid_unicode_utf8_first)] }
def NodeUnlikeSaid : Prop := nodeUnlikeRow.holds Tryd.pinned (OpenSpec.ofChange nodeUnlikeSpec)

/-- ITS FALSE NEIGHBOUR: 'it returns false'. Refute it at one input. -/
def nodeUnlikeWrong : ChangeSpec := { name := "nodeUnlike", fn := fun _ => fun
  | [d1, d2, d3] => { results := [.lit (.bool false)], args := [d1, d2, d3] }
  | _ => none }
def NodeUnlikeWrongFalsely : Prop := nodeUnlikeRow.holds Tryd.pinned (OpenSpec.ofChange nodeUnlikeWrong)

/-- 'cellarerlaw12.NodeTexts': WHATEVER THE INPUT: true; the input reads as it did. -/
def nodeTextsSpec : ChangeSpec := { name := "nodeTexts", fn := fun _ => fun
  | [d] => { results := [.lit (.bool true)], args := [d] }
  | _ => none }
def nodeTextsRow : OpenClaim := { program := "ytbjompcaekbjoaadoor", sum := "776582d42b0292d2fc214d2028bb79c0953fe4eb99c22bc4ca279a1dfa3f12ea", func := "cellarer/cellarerlaw12.NodeTexts", spec := "nodeTexts", inPlace := ["internal/bytealg.CountString", "internal/bytealg.IndexByteString", "internal/bytealg.IndexString"], unfollowed := true, recurses := true, named := ["internal/bytealg.MaxLen", "unicode/utf8.first", "unicode/utf8.acceptRanges"], apart := false, laid := [("unicode/utf8.acceptRanges", laid_unicode_utf8_acceptRanges), ("unicode/utf8.first", laid_unicode_utf8_first)] }
def NodeTextsSaid : Prop := nodeTextsRow.holds Tryd.pinned (OpenSpec.ofChange nodeTextsSpec)

/-- ITS FALSE NEIGHBOUR: 'it returns false'. Refute it at one input. -/
def nodeTextsWrong : ChangeSpec := { name := "nodeTexts", fn := fun _ => fun
  | [d] => { results := [.lit (.bool false)], args := [d] }
  | _ => none }
def NodeTextsWrongFalsely : Prop := nodeTextsRow.holds Tryd.pinned (OpenSpec.ofChange nodeTextsWrong)

/- THE SECOND FORM. 'bulk': how many values and letters a reading holds, each counted each time it is reached (what is shared counts as often as it is met; a slice's spare places count too). A statement '..UptoSaid' is the law's where the arguments, and the package variables that the reading takes, are together of bulk at most 1048576: NARROWER than '..Said'. Prove '..Said' where nothing that the law and all that it calls make is longer than what came in: it says more and counts as full. Else prove '..UptoSaid'. A law counts once. -/
mutual
def uptoBulk {H : Type} : DataW H → Nat
  | .lit (.string bytes) => bytes.length + 1
  | .lit _ => 1
  | .nil => 1
  | .ptr d => uptoBulk d + 1
  | .slice elems spare => uptoBulkAll elems + uptoBulkAll spare + 1
  | .agg parts => uptoBulkAll parts + 1
  | .iface _ d => uptoBulk d + 1
  | .map entries => uptoBulkEntries entries + 1
  | .held _ => 1
def uptoBulkAll {H : Type} : List (DataW H) → Nat
  | [] => 0
  | d :: r => uptoBulk d + uptoBulkAll r
def uptoBulkEntries {H : Type} : List (Lit × DataW H) → Nat
  | [] => 0
  | x :: r => uptoBulkEntry x + uptoBulkEntries r
def uptoBulkEntry {H : Type} : Lit × DataW H → Nat
  | (.string bytes, d) => bytes.length + uptoBulk d + 1
  | (_, d) => uptoBulk d + 1
 end
def uptoSmall : (H : Type) → List (DataW H) → Bool := fun _ ds => decide (uptoBulkAll ds ≤ 1048576)
def OpenSpec.upto (s : _root_.Go.ChangeSpec) : _root_.Go.OpenSpec := { _root_.Go.OpenSpec.ofChange s with cond := some uptoSmall }

/-- 'cellarerlaw19.ManifestTexts', WHERE WHAT IT READS IS OF BULK AT MOST 1048576: true; the input reads as it did. -/
def manifestTextsUptoRow : OpenClaim := { program := "ytbjompcaekbjoaadoor", sum := "776582d42b0292d2fc214d2028bb79c0953fe4eb99c22bc4ca279a1dfa3f12ea", func := "cellarer/cellarerlaw19.ManifestTexts", spec := "manifestTexts", inPlace := ["internal/abi.NoEscape", "internal/bytealg.MakeNoZero"], named := ["unicode/utf8.first", "unicode/utf8.acceptRanges"], apart := false, laid := [("unicode/utf8.acceptRanges", laid_unicode_utf8_acceptRanges), ("unicode/utf8.first", laid_unicode_utf8_first)], narrowed := true }
def ManifestTextsUptoSaid : Prop := manifestTextsUptoRow.holds Tryd.pinned (OpenSpec.upto manifestTextsSpec)

/-- 'cellarerlaw19.ManifestUnlike', WHERE WHAT IT READS IS OF BULK AT MOST 1048576: true; the input reads as it did. -/
def manifestUnlikeUptoRow : OpenClaim := { program := "ytbjompcaekbjoaadoor", sum := "776582d42b0292d2fc214d2028bb79c0953fe4eb99c22bc4ca279a1dfa3f12ea", func := "cellarer/cellarerlaw19.ManifestUnlike", spec := "manifestUnlike", inPlace := ["internal/abi.NoEscape", "internal/bytealg.MakeNoZero"], named := ["unicode/utf8.first", "unicode/utf8.acceptRanges"], apart := false, laid := [("unicode/utf8.acceptRanges", laid_unicode_utf8_acceptRanges), ("unicode/utf8.first", laid_unicode_utf8_first)], narrowed := true }
def ManifestUnlikeUptoSaid : Prop := manifestUnlikeUptoRow.holds Tryd.pinned (OpenSpec.upto manifestUnlikeSpec)

/-- 'cellarerlaw11.PathOrders', WHERE WHAT IT READS IS OF BULK AT MOST 1048576: true; the input reads as it did. -/
def pathOrdersUptoRow : OpenClaim := { program := "ytbjompcaekbjoaadoor", sum := "776582d42b0292d2fc214d2028bb79c0953fe4eb99c22bc4ca279a1dfa3f12ea", func := "cellarer/cellarerlaw11.PathOrders", spec := "pathOrders", inPlace := ["internal/bytealg.CountString", "internal/bytealg.IndexByteString", "internal/bytealg.IndexString"], unfollowed := true, recurses := true, named := ["internal/bytealg.MaxLen", "unicode/utf8.first", "unicode/utf8.acceptRanges"], apart := false, laid := [("unicode/utf8.acceptRanges", laid_unicode_utf8_acceptRanges), ("unicode/utf8.first", laid_unicode_utf8_first)], narrowed := true }
def PathOrdersUptoSaid : Prop := pathOrdersUptoRow.holds Tryd.pinned (OpenSpec.upto pathOrdersSpec)

/-- 'cellarerlaw11.PathTotal', WHERE WHAT IT READS IS OF BULK AT MOST 1048576: true; the input reads as it did. -/
def pathTotalUptoRow : OpenClaim := { program := "ytbjompcaekbjoaadoor", sum := "776582d42b0292d2fc214d2028bb79c0953fe4eb99c22bc4ca279a1dfa3f12ea", func := "cellarer/cellarerlaw11.PathTotal", spec := "pathTotal", inPlace := ["internal/bytealg.CountString", "internal/bytealg.IndexByteString", "internal/bytealg.IndexString"], unfollowed := true, recurses := true, named := ["unicode/utf8.first", "unicode/utf8.acceptRanges", "internal/bytealg.MaxLen"], apart := false, laid := [("unicode/utf8.acceptRanges", laid_unicode_utf8_acceptRanges), ("unicode/utf8.first", laid_unicode_utf8_first)], narrowed := true }
def PathTotalUptoSaid : Prop := pathTotalUptoRow.holds Tryd.pinned (OpenSpec.upto pathTotalSpec)

/-- 'cellarerlaw11.PathRunes', WHERE WHAT IT READS IS OF BULK AT MOST 1048576: true; the input reads as it did. -/
def pathRunesUptoRow : OpenClaim := { program := "ytbjompcaekbjoaadoor", sum := "776582d42b0292d2fc214d2028bb79c0953fe4eb99c22bc4ca279a1dfa3f12ea", func := "cellarer/cellarerlaw11.PathRunes", spec := "pathRunes", inPlace := ["internal/bytealg.CountString", "internal/bytealg.IndexByteString", "internal/bytealg.IndexString"], unfollowed := true, recurses := true, named := ["internal/bytealg.MaxLen", "unicode/utf8.first", "unicode/utf8.acceptRanges"], apart := false, laid := [("unicode/utf8.acceptRanges", laid_unicode_utf8_acceptRanges), ("unicode/utf8.first", laid_unicode_utf8_first)], narrowed := true }
def PathRunesUptoSaid : Prop := pathRunesUptoRow.holds Tryd.pinned (OpenSpec.upto pathRunesSpec)

/-- 'cellarerlaw11.PathFolds', WHERE WHAT IT READS IS OF BULK AT MOST 1048576: true; the input reads as it did. -/
def pathFoldsUptoRow : OpenClaim := { program := "ytbjompcaekbjoaadoor", sum := "776582d42b0292d2fc214d2028bb79c0953fe4eb99c22bc4ca279a1dfa3f12ea", func := "cellarer/cellarerlaw11.PathFolds", spec := "pathFolds", inPlace := ["internal/bytealg.CountString", "internal/bytealg.IndexByteString", "internal/bytealg.IndexString"], unfollowed := true, recurses := true, named := ["unicode/utf8.first", "unicode/utf8.acceptRanges", "internal/bytealg.MaxLen"], apart := false, laid := [("unicode/utf8.acceptRanges", laid_unicode_utf8_acceptRanges), ("unicode/utf8.first", laid_unicode_utf8_first)], narrowed := true }
def PathFoldsUptoSaid : Prop := pathFoldsUptoRow.holds Tryd.pinned (OpenSpec.upto pathFoldsSpec)

/-- 'cellarerlaw11.PathNames', WHERE WHAT IT READS IS OF BULK AT MOST 1048576: true; the input reads as it did. -/
def pathNamesUptoRow : OpenClaim := { program := "ytbjompcaekbjoaadoor", sum := "776582d42b0292d2fc214d2028bb79c0953fe4eb99c22bc4ca279a1dfa3f12ea", func := "cellarer/cellarerlaw11.PathNames", spec := "pathNames", inPlace := ["internal/bytealg.CountString", "internal/bytealg.IndexByteString", "internal/bytealg.IndexString"], unfollowed := true, recurses := true, named := ["internal/bytealg.MaxLen", "unicode/utf8.first", "unicode/utf8.acceptRanges"], apart := false, laid := [("unicode/utf8.acceptRanges", laid_unicode_utf8_acceptRanges), ("unicode/utf8.first", laid_unicode_utf8_first)], narrowed := true }
def PathNamesUptoSaid : Prop := pathNamesUptoRow.holds Tryd.pinned (OpenSpec.upto pathNamesSpec)

/-- 'cellarerlaw11.PathParts', WHERE WHAT IT READS IS OF BULK AT MOST 1048576: true; the input reads as it did. -/
def pathPartsUptoRow : OpenClaim := { program := "ytbjompcaekbjoaadoor", sum := "776582d42b0292d2fc214d2028bb79c0953fe4eb99c22bc4ca279a1dfa3f12ea", func := "cellarer/cellarerlaw11.PathParts", spec := "pathParts", inPlace := ["internal/bytealg.CountString", "internal/bytealg.IndexByteString", "internal/bytealg.IndexString"], unfollowed := true, recurses := true, named := ["internal/bytealg.MaxLen", "unicode/utf8.first", "unicode/utf8.acceptRanges"], apart := false, laid := [("unicode/utf8.acceptRanges", laid_unicode_utf8_acceptRanges), ("unicode/utf8.first", laid_unicode_utf8_first)], narrowed := true }
def PathPartsUptoSaid : Prop := pathPartsUptoRow.holds Tryd.pinned (OpenSpec.upto pathPartsSpec)

/-- 'cellarerlaw12.NodeReads', WHERE WHAT IT READS IS OF BULK AT MOST 1048576: true; the input reads as it did. -/
def nodeReadsUptoRow : OpenClaim := { program := "ytbjompcaekbjoaadoor", sum := "776582d42b0292d2fc214d2028bb79c0953fe4eb99c22bc4ca279a1dfa3f12ea", func := "cellarer/cellarerlaw12.NodeReads", spec := "nodeReads", inPlace := ["internal/bytealg.CountString", "internal/bytealg.IndexByteString", "internal/bytealg.IndexString"], unfollowed := true, recurses := true, named := ["internal/bytealg.MaxLen", "unicode/utf8.first", "unicode/utf8.acceptRanges"], apart := false, laid := [("unicode/utf8.acceptRanges", laid_unicode_utf8_acceptRanges), ("unicode/utf8.first", laid_unicode_utf8_first)], narrowed := true }
def NodeReadsUptoSaid : Prop := nodeReadsUptoRow.holds Tryd.pinned (OpenSpec.upto nodeReadsSpec)

/-- 'cellarerlaw12.NodeFull', WHERE WHAT IT READS IS OF BULK AT MOST 1048576: true; the input reads as it did. -/
def nodeFullUptoRow : OpenClaim := { program := "ytbjompcaekbjoaadoor", sum := "776582d42b0292d2fc214d2028bb79c0953fe4eb99c22bc4ca279a1dfa3f12ea", func := "cellarer/cellarerlaw12.NodeFull", spec := "nodeFull", inPlace := ["internal/bytealg.CountString", "internal/bytealg.IndexByteString", "internal/bytealg.IndexString"], unfollowed := true, recurses := true, named := ["internal/bytealg.MaxLen", "unicode/utf8.first", "unicode/utf8.acceptRanges"], apart := false, laid := [("unicode/utf8.acceptRanges", laid_unicode_utf8_acceptRanges), ("unicode/utf8.first", laid_unicode_utf8_first)], narrowed := true }
def NodeFullUptoSaid : Prop := nodeFullUptoRow.holds Tryd.pinned (OpenSpec.upto nodeFullSpec)

/-- 'cellarerlaw12.NodeUnlike', WHERE WHAT IT READS IS OF BULK AT MOST 1048576: true; the input reads as it did. -/
def nodeUnlikeUptoRow : OpenClaim := { program := "ytbjompcaekbjoaadoor", sum := "776582d42b0292d2fc214d2028bb79c0953fe4eb99c22bc4ca279a1dfa3f12ea", func := "cellarer/cellarerlaw12.NodeUnlike", spec := "nodeUnlike", inPlace := ["internal/bytealg.CountString", "internal/bytealg.IndexByteString", "internal/bytealg.IndexString"], unfollowed := true, recurses := true, named := ["internal/bytealg.MaxLen", "unicode/utf8.first", "unicode/utf8.acceptRanges"], apart := false, laid := [("unicode/utf8.acceptRanges", laid_unicode_utf8_acceptRanges), ("unicode/utf8.first", laid_unicode_utf8_first)], narrowed := true }
def NodeUnlikeUptoSaid : Prop := nodeUnlikeUptoRow.holds Tryd.pinned (OpenSpec.upto nodeUnlikeSpec)

/-- 'cellarerlaw12.NodeTexts', WHERE WHAT IT READS IS OF BULK AT MOST 1048576: true; the input reads as it did. -/
def nodeTextsUptoRow : OpenClaim := { program := "ytbjompcaekbjoaadoor", sum := "776582d42b0292d2fc214d2028bb79c0953fe4eb99c22bc4ca279a1dfa3f12ea", func := "cellarer/cellarerlaw12.NodeTexts", spec := "nodeTexts", inPlace := ["internal/bytealg.CountString", "internal/bytealg.IndexByteString", "internal/bytealg.IndexString"], unfollowed := true, recurses := true, named := ["internal/bytealg.MaxLen", "unicode/utf8.first", "unicode/utf8.acceptRanges"], apart := false, laid := [("unicode/utf8.acceptRanges", laid_unicode_utf8_acceptRanges), ("unicode/utf8.first", laid_unicode_utf8_first)], narrowed := true }
def NodeTextsUptoSaid : Prop := nodeTextsUptoRow.holds Tryd.pinned (OpenSpec.upto nodeTextsSpec)

end Rows
end Go.Proofs.YtbjompcaekbjoaaDoor
