/-
  NARROWER THAN 'FOR EVERY INPUT', by the rows' own cells (each row's printed sentence says how): CellarerNodes: laid · NodeReads: laid · NodeFull: laid · NodeUnlike: laid · CellarerFiles: laid · NodeKinds: laid · NodeTexts: laid · WalkFull: laid · WalkUnder: laid · WalkParts: laid · WalkDiffs: laid · WalkTurns: laid.
  DERIVED. THE GIVEN ROWS OF THIS SEAT. 12 by the template 'for every input the law returns true; each argument reads behind the call as it read before'; 0 by the template 'total and deterministic' (their statements: YtaoejgnfoecpfaaDoorTotals.lean).
  GIVEN WITH THE SEED: the statements are not yours to turn. If you find one false, say at which input.
  Laid BY PROGRAM, IN A SANDBOX (cutbox-rows.mjs): the forced cells as the released guide's own fill.sh prints them over the translation 2d9096e2cc99f4b0… (all of the seat's roots in one cut). By AI agents, Wed Nov 11 2026. No macro, syntax, notation, axiom, sorry.
-/
import Derived.Test.YtaoejgnfoecpfaaDoorChecked
import GoSem.PinnedTables
import GoSem.Claim
import GoSem.ClaimJoined
import GoSem.ClaimMapViews
import Derived.JoinedTies
import Derived.KernelRfl
namespace Go.Proofs.YtaoejgnfoecpfaaDoor
/- THE CELL 'sum', in the pinned program and in every row, IS THE sha256 OF THE DUMP (.gsa) THAT YtaoejgnfoecpfaaDoorProg.lean LOADS. Nothing in Lean hashes anything: it is a label: what it is worth is what the hold of that sum in a sandbox is worth. -/
noncomputable def Tryd.pinned : Pinned := { name := "ytaoejgnfoecpfaadoor", sum := "2d9096e2cc99f4b0cd52b456006e8d3e74a9d2fc230d686f1c34b12e947f5b08", checked := Tryd.checked }
namespace Rows
def none {H : Type} : Left H := { results := [], args := [] }

/- WHAT THE LISTED PACKAGE-LEVEL VARIABLES READ AS WHEN THE CALL BEGINS. Each datum BY PROGRAM (the guide's laid-datum.mjs) off the statement by which the dump's own 'gosem.cut.vars' lays the variable. In a bare row this is a premise. The card (YtaoejgnfoecpfaaDoorCards.lean) ties it to the program's text. -/
def laid_unicode_utf8_acceptRanges {H : Type} : DataW H := .agg [.agg [.lit (.int .u8 128), .lit (.int .u8 191)], .agg [.lit (.int .u8 160), .lit (.int .u8 191)], .agg [.lit (.int .u8 128), .lit (.int .u8 159)], .agg [.lit (.int .u8 144), .lit (.int .u8 191)], .agg [.lit (.int .u8 128), .lit (.int .u8 143)], .agg [.lit (.int .u8 0), .lit (.int .u8 0)], .agg [.lit (.int .u8 0), .lit (.int .u8 0)], .agg [.lit (.int .u8 0), .lit (.int .u8 0)], .agg [.lit (.int .u8 0), .lit (.int .u8 0)], .agg [.lit (.int .u8 0), .lit (.int .u8 0)], .agg [.lit (.int .u8 0), .lit (.int .u8 0)], .agg [.lit (.int .u8 0), .lit (.int .u8 0)], .agg [.lit (.int .u8 0), .lit (.int .u8 0)], .agg [.lit (.int .u8 0), .lit (.int .u8 0)], .agg [.lit (.int .u8 0), .lit (.int .u8 0)], .agg [.lit (.int .u8 0), .lit (.int .u8 0)]]
/-- One of Go's own tables, pinned by name: the form's constant. -/
def laid_unicode_utf8_first : DataW Unit := Go.Pinned.utf8First

/-- 'cellarertop.CellarerNodes': WHATEVER THE INPUT: true; the input reads as it did. -/
def cellarerNodesSpec : ChangeSpec := { name := "cellarerNodes", fn := fun _ => fun
  | [d] => { results := [.lit (.bool true)], args := [d] }
  | _ => none }
def cellarerNodesRow : OpenClaim := { program := "ytaoejgnfoecpfaadoor", sum := "2d9096e2cc99f4b0cd52b456006e8d3e74a9d2fc230d686f1c34b12e947f5b08", func := "cellarer/cellarertop.CellarerNodes", spec := "cellarerNodes", inPlace := ["internal/bytealg.CountString", "internal/bytealg.IndexByteString", "internal/bytealg.IndexString"], unfollowed := true, recurses := true, named := ["internal/bytealg.MaxLen", "unicode/utf8.first", "unicode/utf8.acceptRanges"], apart := false, laid := [("unicode/utf8.acceptRanges", laid_unicode_utf8_acceptRanges), ("unicode/utf8.first", laid_unicode_utf8_first)] }
def CellarerNodesSaid : Prop := cellarerNodesRow.holds Tryd.pinned (OpenSpec.ofChange cellarerNodesSpec)

/-- ITS FALSE NEIGHBOUR: 'it returns false'. Refute it at one input. -/
def cellarerNodesWrong : ChangeSpec := { name := "cellarerNodes", fn := fun _ => fun
  | [d] => { results := [.lit (.bool false)], args := [d] }
  | _ => none }
def CellarerNodesWrongFalsely : Prop := cellarerNodesRow.holds Tryd.pinned (OpenSpec.ofChange cellarerNodesWrong)

/-- 'cellarerlaw12.NodeReads': WHATEVER THE INPUT: true; the input reads as it did. -/
def nodeReadsSpec : ChangeSpec := { name := "nodeReads", fn := fun _ => fun
  | [d] => { results := [.lit (.bool true)], args := [d] }
  | _ => none }
def nodeReadsRow : OpenClaim := { program := "ytaoejgnfoecpfaadoor", sum := "2d9096e2cc99f4b0cd52b456006e8d3e74a9d2fc230d686f1c34b12e947f5b08", func := "cellarer/cellarerlaw12.NodeReads", spec := "nodeReads", inPlace := ["internal/bytealg.CountString", "internal/bytealg.IndexByteString", "internal/bytealg.IndexString"], unfollowed := true, recurses := true, named := ["internal/bytealg.MaxLen", "unicode/utf8.first", "unicode/utf8.acceptRanges"], apart := false, laid := [("unicode/utf8.acceptRanges", laid_unicode_utf8_acceptRanges), ("unicode/utf8.first", laid_unicode_utf8_first)] }
def NodeReadsSaid : Prop := nodeReadsRow.holds Tryd.pinned (OpenSpec.ofChange nodeReadsSpec)

/-- ITS FALSE NEIGHBOUR: 'it returns false'. Refute it at one input. -/
def nodeReadsWrong : ChangeSpec := { name := "nodeReads", fn := fun _ => fun
  | [d] => { results := [.lit (.bool false)], args := [d] }
  | _ => none }
def NodeReadsWrongFalsely : Prop := nodeReadsRow.holds Tryd.pinned (OpenSpec.ofChange nodeReadsWrong)

/-- 'cellarerlaw12.NodeFull': WHATEVER THE INPUT: true; the input reads as it did. -/
def nodeFullSpec : ChangeSpec := { name := "nodeFull", fn := fun _ => fun
  | [d1, d2] => { results := [.lit (.bool true)], args := [d1, d2] }
  | _ => none }
def nodeFullRow : OpenClaim := { program := "ytaoejgnfoecpfaadoor", sum := "2d9096e2cc99f4b0cd52b456006e8d3e74a9d2fc230d686f1c34b12e947f5b08", func := "cellarer/cellarerlaw12.NodeFull", spec := "nodeFull", inPlace := ["internal/bytealg.CountString", "internal/bytealg.IndexByteString", "internal/bytealg.IndexString"], unfollowed := true, recurses := true, named := ["internal/bytealg.MaxLen", "unicode/utf8.first", "unicode/utf8.acceptRanges"], apart := false, laid := [("unicode/utf8.acceptRanges", laid_unicode_utf8_acceptRanges), ("unicode/utf8.first", laid_unicode_utf8_first)] }
def NodeFullSaid : Prop := nodeFullRow.holds Tryd.pinned (OpenSpec.ofChange nodeFullSpec)

/-- ITS FALSE NEIGHBOUR: 'it returns false'. Refute it at one input. -/
def nodeFullWrong : ChangeSpec := { name := "nodeFull", fn := fun _ => fun
  | [d1, d2] => { results := [.lit (.bool false)], args := [d1, d2] }
  | _ => none }
def NodeFullWrongFalsely : Prop := nodeFullRow.holds Tryd.pinned (OpenSpec.ofChange nodeFullWrong)

/-- 'cellarerlaw12.NodeUnlike': WHATEVER THE INPUT: true; the input reads as it did. -/
def nodeUnlikeSpec : ChangeSpec := { name := "nodeUnlike", fn := fun _ => fun
  | [d1, d2, d3] => { results := [.lit (.bool true)], args := [d1, d2, d3] }
  | _ => none }
def nodeUnlikeRow : OpenClaim := { program := "ytaoejgnfoecpfaadoor", sum := "2d9096e2cc99f4b0cd52b456006e8d3e74a9d2fc230d686f1c34b12e947f5b08", func := "cellarer/cellarerlaw12.NodeUnlike", spec := "nodeUnlike", inPlace := ["internal/bytealg.CountString", "internal/bytealg.IndexByteString", "internal/bytealg.IndexString"], unfollowed := true, recurses := true, named := ["internal/bytealg.MaxLen", "unicode/utf8.first", "unicode/utf8.acceptRanges"], apart := false, laid := [("unicode/utf8.acceptRanges", laid_unicode_utf8_acceptRanges), ("unicode/utf8.first", laid_unicode_utf8_first)] }
def NodeUnlikeSaid : Prop := nodeUnlikeRow.holds Tryd.pinned (OpenSpec.ofChange nodeUnlikeSpec)

/-- ITS FALSE NEIGHBOUR: 'it returns false'. Refute it at one input. -/
def nodeUnlikeWrong : ChangeSpec := { name := "nodeUnlike", fn := fun _ => fun
  | [d1, d2, d3] => { results := [.lit (.bool false)], args := [d1, d2, d3] }
  | _ => none }
def NodeUnlikeWrongFalsely : Prop := nodeUnlikeRow.holds Tryd.pinned (OpenSpec.ofChange nodeUnlikeWrong)

/-- 'cellarertop.CellarerFiles': WHATEVER THE INPUT: true; the input reads as it did. -/
def cellarerFilesSpec : ChangeSpec := { name := "cellarerFiles", fn := fun _ => fun
  | [d1, d2, d3] => { results := [.lit (.bool true)], args := [d1, d2, d3] }
  | _ => none }
def cellarerFilesRow : OpenClaim := { program := "ytaoejgnfoecpfaadoor", sum := "2d9096e2cc99f4b0cd52b456006e8d3e74a9d2fc230d686f1c34b12e947f5b08", func := "cellarer/cellarertop.CellarerFiles", spec := "cellarerFiles", inPlace := ["internal/bytealg.CountString", "internal/bytealg.IndexByteString", "internal/bytealg.IndexString", "maps.clone"], unfollowed := true, recurses := true, named := ["internal/bytealg.MaxLen", "unicode/utf8.first", "unicode/utf8.acceptRanges"], apart := false, laid := [("unicode/utf8.acceptRanges", laid_unicode_utf8_acceptRanges), ("unicode/utf8.first", laid_unicode_utf8_first)] }
def CellarerFilesSaid : Prop := cellarerFilesRow.holds Tryd.pinned (OpenSpec.ofChange cellarerFilesSpec)

/-- ITS FALSE NEIGHBOUR: 'it returns false'. Refute it at one input. -/
def cellarerFilesWrong : ChangeSpec := { name := "cellarerFiles", fn := fun _ => fun
  | [d1, d2, d3] => { results := [.lit (.bool false)], args := [d1, d2, d3] }
  | _ => none }
def CellarerFilesWrongFalsely : Prop := cellarerFilesRow.holds Tryd.pinned (OpenSpec.ofChange cellarerFilesWrong)

/-- 'cellarerlaw12.NodeKinds': WHATEVER THE INPUT: true; the input reads as it did. -/
def nodeKindsSpec : ChangeSpec := { name := "nodeKinds", fn := fun _ => fun
  | [d] => { results := [.lit (.bool true)], args := [d] }
  | _ => none }
def nodeKindsRow : OpenClaim := { program := "ytaoejgnfoecpfaadoor", sum := "2d9096e2cc99f4b0cd52b456006e8d3e74a9d2fc230d686f1c34b12e947f5b08", func := "cellarer/cellarerlaw12.NodeKinds", spec := "nodeKinds", inPlace := ["internal/bytealg.CountString", "internal/bytealg.IndexByteString", "internal/bytealg.IndexString"], unfollowed := true, recurses := true, named := ["internal/bytealg.MaxLen", "unicode/utf8.first", "unicode/utf8.acceptRanges"], apart := false, laid := [("unicode/utf8.acceptRanges", laid_unicode_utf8_acceptRanges), ("unicode/utf8.first", laid_unicode_utf8_first)] }
def NodeKindsSaid : Prop := nodeKindsRow.holds Tryd.pinned (OpenSpec.ofChange nodeKindsSpec)

/-- ITS FALSE NEIGHBOUR: 'it returns false'. Refute it at one input. -/
def nodeKindsWrong : ChangeSpec := { name := "nodeKinds", fn := fun _ => fun
  | [d] => { results := [.lit (.bool false)], args := [d] }
  | _ => none }
def NodeKindsWrongFalsely : Prop := nodeKindsRow.holds Tryd.pinned (OpenSpec.ofChange nodeKindsWrong)

/-- 'cellarerlaw12.NodeTexts': WHATEVER THE INPUT: true; the input reads as it did. -/
def nodeTextsSpec : ChangeSpec := { name := "nodeTexts", fn := fun _ => fun
  | [d] => { results := [.lit (.bool true)], args := [d] }
  | _ => none }
def nodeTextsRow : OpenClaim := { program := "ytaoejgnfoecpfaadoor", sum := "2d9096e2cc99f4b0cd52b456006e8d3e74a9d2fc230d686f1c34b12e947f5b08", func := "cellarer/cellarerlaw12.NodeTexts", spec := "nodeTexts", inPlace := ["internal/bytealg.CountString", "internal/bytealg.IndexByteString", "internal/bytealg.IndexString"], unfollowed := true, recurses := true, named := ["internal/bytealg.MaxLen", "unicode/utf8.first", "unicode/utf8.acceptRanges"], apart := false, laid := [("unicode/utf8.acceptRanges", laid_unicode_utf8_acceptRanges), ("unicode/utf8.first", laid_unicode_utf8_first)] }
def NodeTextsSaid : Prop := nodeTextsRow.holds Tryd.pinned (OpenSpec.ofChange nodeTextsSpec)

/-- ITS FALSE NEIGHBOUR: 'it returns false'. Refute it at one input. -/
def nodeTextsWrong : ChangeSpec := { name := "nodeTexts", fn := fun _ => fun
  | [d] => { results := [.lit (.bool false)], args := [d] }
  | _ => none }
def NodeTextsWrongFalsely : Prop := nodeTextsRow.holds Tryd.pinned (OpenSpec.ofChange nodeTextsWrong)

/-- 'cellarerlaw13.WalkFull': WHATEVER THE INPUT: true; the input reads as it did. -/
def walkFullSpec : ChangeSpec := { name := "walkFull", fn := fun _ => fun
  | [d1, d2] => { results := [.lit (.bool true)], args := [d1, d2] }
  | _ => none }
def walkFullRow : OpenClaim := { program := "ytaoejgnfoecpfaadoor", sum := "2d9096e2cc99f4b0cd52b456006e8d3e74a9d2fc230d686f1c34b12e947f5b08", func := "cellarer/cellarerlaw13.WalkFull", spec := "walkFull", inPlace := ["internal/bytealg.CountString", "internal/bytealg.IndexByteString", "internal/bytealg.IndexString"], unfollowed := true, recurses := true, named := ["internal/bytealg.MaxLen", "unicode/utf8.first", "unicode/utf8.acceptRanges"], apart := false, laid := [("unicode/utf8.acceptRanges", laid_unicode_utf8_acceptRanges), ("unicode/utf8.first", laid_unicode_utf8_first)] }
def WalkFullSaid : Prop := walkFullRow.holds Tryd.pinned (OpenSpec.ofChange walkFullSpec)

/-- ITS FALSE NEIGHBOUR: 'it returns false'. Refute it at one input. -/
def walkFullWrong : ChangeSpec := { name := "walkFull", fn := fun _ => fun
  | [d1, d2] => { results := [.lit (.bool false)], args := [d1, d2] }
  | _ => none }
def WalkFullWrongFalsely : Prop := walkFullRow.holds Tryd.pinned (OpenSpec.ofChange walkFullWrong)

/-- 'cellarerlaw13.WalkUnder': WHATEVER THE INPUT: true; the input reads as it did. -/
def walkUnderSpec : ChangeSpec := { name := "walkUnder", fn := fun _ => fun
  | [d1, d2] => { results := [.lit (.bool true)], args := [d1, d2] }
  | _ => none }
def walkUnderRow : OpenClaim := { program := "ytaoejgnfoecpfaadoor", sum := "2d9096e2cc99f4b0cd52b456006e8d3e74a9d2fc230d686f1c34b12e947f5b08", func := "cellarer/cellarerlaw13.WalkUnder", spec := "walkUnder", inPlace := ["internal/bytealg.CountString", "internal/bytealg.IndexByteString", "internal/bytealg.IndexString"], unfollowed := true, recurses := true, named := ["internal/bytealg.MaxLen", "unicode/utf8.first", "unicode/utf8.acceptRanges"], apart := false, laid := [("unicode/utf8.acceptRanges", laid_unicode_utf8_acceptRanges), ("unicode/utf8.first", laid_unicode_utf8_first)] }
def WalkUnderSaid : Prop := walkUnderRow.holds Tryd.pinned (OpenSpec.ofChange walkUnderSpec)

/-- ITS FALSE NEIGHBOUR: 'it returns false'. Refute it at one input. -/
def walkUnderWrong : ChangeSpec := { name := "walkUnder", fn := fun _ => fun
  | [d1, d2] => { results := [.lit (.bool false)], args := [d1, d2] }
  | _ => none }
def WalkUnderWrongFalsely : Prop := walkUnderRow.holds Tryd.pinned (OpenSpec.ofChange walkUnderWrong)

/-- 'cellarerlaw13.WalkParts': WHATEVER THE INPUT: true; the input reads as it did. -/
def walkPartsSpec : ChangeSpec := { name := "walkParts", fn := fun _ => fun
  | [d1, d2] => { results := [.lit (.bool true)], args := [d1, d2] }
  | _ => none }
def walkPartsRow : OpenClaim := { program := "ytaoejgnfoecpfaadoor", sum := "2d9096e2cc99f4b0cd52b456006e8d3e74a9d2fc230d686f1c34b12e947f5b08", func := "cellarer/cellarerlaw13.WalkParts", spec := "walkParts", inPlace := ["internal/bytealg.CountString", "internal/bytealg.IndexByteString", "internal/bytealg.IndexString"], unfollowed := true, recurses := true, named := ["internal/bytealg.MaxLen", "unicode/utf8.first", "unicode/utf8.acceptRanges"], apart := false, laid := [("unicode/utf8.acceptRanges", laid_unicode_utf8_acceptRanges), ("unicode/utf8.first", laid_unicode_utf8_first)] }
def WalkPartsSaid : Prop := walkPartsRow.holds Tryd.pinned (OpenSpec.ofChange walkPartsSpec)

/-- ITS FALSE NEIGHBOUR: 'it returns false'. Refute it at one input. -/
def walkPartsWrong : ChangeSpec := { name := "walkParts", fn := fun _ => fun
  | [d1, d2] => { results := [.lit (.bool false)], args := [d1, d2] }
  | _ => none }
def WalkPartsWrongFalsely : Prop := walkPartsRow.holds Tryd.pinned (OpenSpec.ofChange walkPartsWrong)

/-- 'cellarerlaw13.WalkDiffs': WHATEVER THE INPUT: true; the input reads as it did. -/
def walkDiffsSpec : ChangeSpec := { name := "walkDiffs", fn := fun _ => fun
  | [d1, d2] => { results := [.lit (.bool true)], args := [d1, d2] }
  | _ => none }
def walkDiffsRow : OpenClaim := { program := "ytaoejgnfoecpfaadoor", sum := "2d9096e2cc99f4b0cd52b456006e8d3e74a9d2fc230d686f1c34b12e947f5b08", func := "cellarer/cellarerlaw13.WalkDiffs", spec := "walkDiffs", inPlace := ["internal/bytealg.CountString", "internal/bytealg.IndexByteString", "internal/bytealg.IndexString"], unfollowed := true, recurses := true, named := ["internal/bytealg.MaxLen", "unicode/utf8.first", "unicode/utf8.acceptRanges"], apart := false, laid := [("unicode/utf8.acceptRanges", laid_unicode_utf8_acceptRanges), ("unicode/utf8.first", laid_unicode_utf8_first)] }
def WalkDiffsSaid : Prop := walkDiffsRow.holds Tryd.pinned (OpenSpec.ofChange walkDiffsSpec)

/-- ITS FALSE NEIGHBOUR: 'it returns false'. Refute it at one input. -/
def walkDiffsWrong : ChangeSpec := { name := "walkDiffs", fn := fun _ => fun
  | [d1, d2] => { results := [.lit (.bool false)], args := [d1, d2] }
  | _ => none }
def WalkDiffsWrongFalsely : Prop := walkDiffsRow.holds Tryd.pinned (OpenSpec.ofChange walkDiffsWrong)

/-- 'cellarerlaw13.WalkTurns': WHATEVER THE INPUT: true; the input reads as it did. -/
def walkTurnsSpec : ChangeSpec := { name := "walkTurns", fn := fun _ => fun
  | [d1, d2] => { results := [.lit (.bool true)], args := [d1, d2] }
  | _ => none }
def walkTurnsRow : OpenClaim := { program := "ytaoejgnfoecpfaadoor", sum := "2d9096e2cc99f4b0cd52b456006e8d3e74a9d2fc230d686f1c34b12e947f5b08", func := "cellarer/cellarerlaw13.WalkTurns", spec := "walkTurns", inPlace := ["internal/bytealg.CountString", "internal/bytealg.IndexByteString", "internal/bytealg.IndexString"], unfollowed := true, recurses := true, named := ["internal/bytealg.MaxLen", "unicode/utf8.first", "unicode/utf8.acceptRanges"], apart := false, laid := [("unicode/utf8.acceptRanges", laid_unicode_utf8_acceptRanges), ("unicode/utf8.first", laid_unicode_utf8_first)] }
def WalkTurnsSaid : Prop := walkTurnsRow.holds Tryd.pinned (OpenSpec.ofChange walkTurnsSpec)

/-- ITS FALSE NEIGHBOUR: 'it returns false'. Refute it at one input. -/
def walkTurnsWrong : ChangeSpec := { name := "walkTurns", fn := fun _ => fun
  | [d1, d2] => { results := [.lit (.bool false)], args := [d1, d2] }
  | _ => none }
def WalkTurnsWrongFalsely : Prop := walkTurnsRow.holds Tryd.pinned (OpenSpec.ofChange walkTurnsWrong)

/- THE SECOND FORM. 'bulk': how many values and letters a reading holds, each counted each time it is reached (what is shared counts as often as it is met; a slice's spare places count too). A statement '..UptoSaid' is the law's where the arguments, and the package variables that the reading takes, are together of bulk at most 1048576: NARROWER than '..Said'. Prove '..Said' where nothing that the law and all that it calls make is longer than what came in: it says more and counts as full. Else prove '..UptoSaid'. A law counts once. -/
mutual
def uptoBulk {H : Type} : DataW H → Nat
  | .lit (.string bytes) => bytes.length + 1
  | .lit _ => 1
  | .nil => 1
  | .ptr d => uptoBulk d + 1
  | .slice elems spare => uptoBulkAll elems + uptoBulkAll spare + 1
  | .agg parts => uptoBulkAll parts + 1
  | .iface _ d => uptoBulk d + 1
  | .map entries => uptoBulkEntries entries + 1
  | .held _ => 1
def uptoBulkAll {H : Type} : List (DataW H) → Nat
  | [] => 0
  | d :: r => uptoBulk d + uptoBulkAll r
def uptoBulkEntries {H : Type} : List (Lit × DataW H) → Nat
  | [] => 0
  | x :: r => uptoBulkEntry x + uptoBulkEntries r
def uptoBulkEntry {H : Type} : Lit × DataW H → Nat
  | (.string bytes, d) => bytes.length + uptoBulk d + 1
  | (_, d) => uptoBulk d + 1
 end
def uptoSmall : (H : Type) → List (DataW H) → Bool := fun _ ds => decide (uptoBulkAll ds ≤ 1048576)
def OpenSpec.upto (s : _root_.Go.ChangeSpec) : _root_.Go.OpenSpec := { _root_.Go.OpenSpec.ofChange s with cond := some uptoSmall }

/-- 'cellarertop.CellarerNodes', WHERE WHAT IT READS IS OF BULK AT MOST 1048576: true; the input reads as it did. -/
def cellarerNodesUptoRow : OpenClaim := { program := "ytaoejgnfoecpfaadoor", sum := "2d9096e2cc99f4b0cd52b456006e8d3e74a9d2fc230d686f1c34b12e947f5b08", func := "cellarer/cellarertop.CellarerNodes", spec := "cellarerNodes", inPlace := ["internal/bytealg.CountString", "internal/bytealg.IndexByteString", "internal/bytealg.IndexString"], unfollowed := true, recurses := true, named := ["internal/bytealg.MaxLen", "unicode/utf8.first", "unicode/utf8.acceptRanges"], apart := false, laid := [("unicode/utf8.acceptRanges", laid_unicode_utf8_acceptRanges), ("unicode/utf8.first", laid_unicode_utf8_first)], narrowed := true }
def CellarerNodesUptoSaid : Prop := cellarerNodesUptoRow.holds Tryd.pinned (OpenSpec.upto cellarerNodesSpec)

/-- 'cellarerlaw12.NodeReads', WHERE WHAT IT READS IS OF BULK AT MOST 1048576: true; the input reads as it did. -/
def nodeReadsUptoRow : OpenClaim := { program := "ytaoejgnfoecpfaadoor", sum := "2d9096e2cc99f4b0cd52b456006e8d3e74a9d2fc230d686f1c34b12e947f5b08", func := "cellarer/cellarerlaw12.NodeReads", spec := "nodeReads", inPlace := ["internal/bytealg.CountString", "internal/bytealg.IndexByteString", "internal/bytealg.IndexString"], unfollowed := true, recurses := true, named := ["internal/bytealg.MaxLen", "unicode/utf8.first", "unicode/utf8.acceptRanges"], apart := false, laid := [("unicode/utf8.acceptRanges", laid_unicode_utf8_acceptRanges), ("unicode/utf8.first", laid_unicode_utf8_first)], narrowed := true }
def NodeReadsUptoSaid : Prop := nodeReadsUptoRow.holds Tryd.pinned (OpenSpec.upto nodeReadsSpec)

/-- 'cellarerlaw12.NodeFull', WHERE WHAT IT READS IS OF BULK AT MOST 1048576: true; the input reads as it did. -/
def nodeFullUptoRow : OpenClaim := { program := "ytaoejgnfoecpfaadoor", sum := "2d9096e2cc99f4b0cd52b456006e8d3e74a9d2fc230d686f1c34b12e947f5b08", func := "cellarer/cellarerlaw12.NodeFull", spec := "nodeFull", inPlace := ["internal/bytealg.CountString", "internal/bytealg.IndexByteString", "internal/bytealg.IndexString"], unfollowed := true, recurses := true, named := ["internal/bytealg.MaxLen", "unicode/utf8.first", "unicode/utf8.acceptRanges"], apart := false, laid := [("unicode/utf8.acceptRanges", laid_unicode_utf8_acceptRanges), ("unicode/utf8.first", laid_unicode_utf8_first)], narrowed := true }
def NodeFullUptoSaid : Prop := nodeFullUptoRow.holds Tryd.pinned (OpenSpec.upto nodeFullSpec)

/-- 'cellarerlaw12.NodeUnlike', WHERE WHAT IT READS IS OF BULK AT MOST 1048576: true; the input reads as it did. -/
def nodeUnlikeUptoRow : OpenClaim := { program := "ytaoejgnfoecpfaadoor", sum := "2d9096e2cc99f4b0cd52b456006e8d3e74a9d2fc230d686f1c34b12e947f5b08", func := "cellarer/cellarerlaw12.NodeUnlike", spec := "nodeUnlike", inPlace := ["internal/bytealg.CountString", "internal/bytealg.IndexByteString", "internal/bytealg.IndexString"], unfollowed := true, recurses := true, named := ["internal/bytealg.MaxLen", "unicode/utf8.first", "unicode/utf8.acceptRanges"], apart := false, laid := [("unicode/utf8.acceptRanges", laid_unicode_utf8_acceptRanges), ("unicode/utf8.first", laid_unicode_utf8_first)], narrowed := true }
def NodeUnlikeUptoSaid : Prop := nodeUnlikeUptoRow.holds Tryd.pinned (OpenSpec.upto nodeUnlikeSpec)

/-- 'cellarertop.CellarerFiles', WHERE WHAT IT READS IS OF BULK AT MOST 1048576: true; the input reads as it did. -/
def cellarerFilesUptoRow : OpenClaim := { program := "ytaoejgnfoecpfaadoor", sum := "2d9096e2cc99f4b0cd52b456006e8d3e74a9d2fc230d686f1c34b12e947f5b08", func := "cellarer/cellarertop.CellarerFiles", spec := "cellarerFiles", inPlace := ["internal/bytealg.CountString", "internal/bytealg.IndexByteString", "internal/bytealg.IndexString", "maps.clone"], unfollowed := true, recurses := true, named := ["internal/bytealg.MaxLen", "unicode/utf8.first", "unicode/utf8.acceptRanges"], apart := false, laid := [("unicode/utf8.acceptRanges", laid_unicode_utf8_acceptRanges), ("unicode/utf8.first", laid_unicode_utf8_first)], narrowed := true }
def CellarerFilesUptoSaid : Prop := cellarerFilesUptoRow.holds Tryd.pinned (OpenSpec.upto cellarerFilesSpec)

/-- 'cellarerlaw12.NodeKinds', WHERE WHAT IT READS IS OF BULK AT MOST 1048576: true; the input reads as it did. -/
def nodeKindsUptoRow : OpenClaim := { program := "ytaoejgnfoecpfaadoor", sum := "2d9096e2cc99f4b0cd52b456006e8d3e74a9d2fc230d686f1c34b12e947f5b08", func := "cellarer/cellarerlaw12.NodeKinds", spec := "nodeKinds", inPlace := ["internal/bytealg.CountString", "internal/bytealg.IndexByteString", "internal/bytealg.IndexString"], unfollowed := true, recurses := true, named := ["internal/bytealg.MaxLen", "unicode/utf8.first", "unicode/utf8.acceptRanges"], apart := false, laid := [("unicode/utf8.acceptRanges", laid_unicode_utf8_acceptRanges), ("unicode/utf8.first", laid_unicode_utf8_first)], narrowed := true }
def NodeKindsUptoSaid : Prop := nodeKindsUptoRow.holds Tryd.pinned (OpenSpec.upto nodeKindsSpec)

/-- 'cellarerlaw12.NodeTexts', WHERE WHAT IT READS IS OF BULK AT MOST 1048576: true; the input reads as it did. -/
def nodeTextsUptoRow : OpenClaim := { program := "ytaoejgnfoecpfaadoor", sum := "2d9096e2cc99f4b0cd52b456006e8d3e74a9d2fc230d686f1c34b12e947f5b08", func := "cellarer/cellarerlaw12.NodeTexts", spec := "nodeTexts", inPlace := ["internal/bytealg.CountString", "internal/bytealg.IndexByteString", "internal/bytealg.IndexString"], unfollowed := true, recurses := true, named := ["internal/bytealg.MaxLen", "unicode/utf8.first", "unicode/utf8.acceptRanges"], apart := false, laid := [("unicode/utf8.acceptRanges", laid_unicode_utf8_acceptRanges), ("unicode/utf8.first", laid_unicode_utf8_first)], narrowed := true }
def NodeTextsUptoSaid : Prop := nodeTextsUptoRow.holds Tryd.pinned (OpenSpec.upto nodeTextsSpec)

/-- 'cellarerlaw13.WalkFull', WHERE WHAT IT READS IS OF BULK AT MOST 1048576: true; the input reads as it did. -/
def walkFullUptoRow : OpenClaim := { program := "ytaoejgnfoecpfaadoor", sum := "2d9096e2cc99f4b0cd52b456006e8d3e74a9d2fc230d686f1c34b12e947f5b08", func := "cellarer/cellarerlaw13.WalkFull", spec := "walkFull", inPlace := ["internal/bytealg.CountString", "internal/bytealg.IndexByteString", "internal/bytealg.IndexString"], unfollowed := true, recurses := true, named := ["internal/bytealg.MaxLen", "unicode/utf8.first", "unicode/utf8.acceptRanges"], apart := false, laid := [("unicode/utf8.acceptRanges", laid_unicode_utf8_acceptRanges), ("unicode/utf8.first", laid_unicode_utf8_first)], narrowed := true }
def WalkFullUptoSaid : Prop := walkFullUptoRow.holds Tryd.pinned (OpenSpec.upto walkFullSpec)

/-- 'cellarerlaw13.WalkUnder', WHERE WHAT IT READS IS OF BULK AT MOST 1048576: true; the input reads as it did. -/
def walkUnderUptoRow : OpenClaim := { program := "ytaoejgnfoecpfaadoor", sum := "2d9096e2cc99f4b0cd52b456006e8d3e74a9d2fc230d686f1c34b12e947f5b08", func := "cellarer/cellarerlaw13.WalkUnder", spec := "walkUnder", inPlace := ["internal/bytealg.CountString", "internal/bytealg.IndexByteString", "internal/bytealg.IndexString"], unfollowed := true, recurses := true, named := ["internal/bytealg.MaxLen", "unicode/utf8.first", "unicode/utf8.acceptRanges"], apart := false, laid := [("unicode/utf8.acceptRanges", laid_unicode_utf8_acceptRanges), ("unicode/utf8.first", laid_unicode_utf8_first)], narrowed := true }
def WalkUnderUptoSaid : Prop := walkUnderUptoRow.holds Tryd.pinned (OpenSpec.upto walkUnderSpec)

/-- 'cellarerlaw13.WalkParts', WHERE WHAT IT READS IS OF BULK AT MOST 1048576: true; the input reads as it did. -/
def walkPartsUptoRow : OpenClaim := { program := "ytaoejgnfoecpfaadoor", sum := "2d9096e2cc99f4b0cd52b456006e8d3e74a9d2fc230d686f1c34b12e947f5b08", func := "cellarer/cellarerlaw13.WalkParts", spec := "walkParts", inPlace := ["internal/bytealg.CountString", "internal/bytealg.IndexByteString", "internal/bytealg.IndexString"], unfollowed := true, recurses := true, named := ["internal/bytealg.MaxLen", "unicode/utf8.first", "unicode/utf8.acceptRanges"], apart := false, laid := [("unicode/utf8.acceptRanges", laid_unicode_utf8_acceptRanges), ("unicode/utf8.first", laid_unicode_utf8_first)], narrowed := true }
def WalkPartsUptoSaid : Prop := walkPartsUptoRow.holds Tryd.pinned (OpenSpec.upto walkPartsSpec)

/-- 'cellarerlaw13.WalkDiffs', WHERE WHAT IT READS IS OF BULK AT MOST 1048576: true; the input reads as it did. -/
def walkDiffsUptoRow : OpenClaim := { program := "ytaoejgnfoecpfaadoor", sum := "2d9096e2cc99f4b0cd52b456006e8d3e74a9d2fc230d686f1c34b12e947f5b08", func := "cellarer/cellarerlaw13.WalkDiffs", spec := "walkDiffs", inPlace := ["internal/bytealg.CountString", "internal/bytealg.IndexByteString", "internal/bytealg.IndexString"], unfollowed := true, recurses := true, named := ["internal/bytealg.MaxLen", "unicode/utf8.first", "unicode/utf8.acceptRanges"], apart := false, laid := [("unicode/utf8.acceptRanges", laid_unicode_utf8_acceptRanges), ("unicode/utf8.first", laid_unicode_utf8_first)], narrowed := true }
def WalkDiffsUptoSaid : Prop := walkDiffsUptoRow.holds Tryd.pinned (OpenSpec.upto walkDiffsSpec)

/-- 'cellarerlaw13.WalkTurns', WHERE WHAT IT READS IS OF BULK AT MOST 1048576: true; the input reads as it did. -/
def walkTurnsUptoRow : OpenClaim := { program := "ytaoejgnfoecpfaadoor", sum := "2d9096e2cc99f4b0cd52b456006e8d3e74a9d2fc230d686f1c34b12e947f5b08", func := "cellarer/cellarerlaw13.WalkTurns", spec := "walkTurns", inPlace := ["internal/bytealg.CountString", "internal/bytealg.IndexByteString", "internal/bytealg.IndexString"], unfollowed := true, recurses := true, named := ["internal/bytealg.MaxLen", "unicode/utf8.first", "unicode/utf8.acceptRanges"], apart := false, laid := [("unicode/utf8.acceptRanges", laid_unicode_utf8_acceptRanges), ("unicode/utf8.first", laid_unicode_utf8_first)], narrowed := true }
def WalkTurnsUptoSaid : Prop := walkTurnsUptoRow.holds Tryd.pinned (OpenSpec.upto walkTurnsSpec)

end Rows
end Go.Proofs.YtaoejgnfoecpfaaDoor
