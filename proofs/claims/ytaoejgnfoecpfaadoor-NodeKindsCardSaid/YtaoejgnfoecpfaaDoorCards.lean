/-
  DERIVED. GIVEN WITH THE SEED: THE CARDS: each row of YtaoejgnfoecpfaaDoorRows.lean that lists a variable, with what it lists TIED to the program's text (the seventh form; the later family's looks); each row that meets fmt, with fmt's text TOLD by the authors' own Lean function (tested against real Go, not proved from fmt's source: count such statements apart). THE CARD IS WHAT COUNTS. Prove the row's statement (the work); the ties are given (YtaoejgnfoecpfaaDoorTie.lean); close each card by the builder's one call (the guide's Derived/Test/ToyasCard.lean, 'card_holds'). Laid BY PROGRAM, IN A SANDBOX (cutbox-door.mjs). By AI agents, Wed Nov 11 2026. No macro, syntax, notation, axiom, sorry.
-/
import Derived.Test.YtaoejgnfoecpfaaDoorRows
import GoSem.ClaimSeven
namespace Go.Proofs.YtaoejgnfoecpfaaDoor
namespace Rows

/-- THE TIED CARD OF 'cellarertop.CellarerNodes'. -/
def cellarerNodesCard : Claim7 := { stood := { row := cellarerNodesRow, standIns := [], harness := (true, "9d1b759b6525561ad633739f0cc8ff7be369acecbd4d764e62db2580f4e3baa1"), looks := true }, kinds := [], alts := [], laidByText := true, laidKinds := [.data, .pinned], laidTests := true, laidLooks := .later }
def CellarerNodesCardSaid : Prop := Claim7.holds Tryd.pinned (.plain (OpenSpec.ofChange cellarerNodesSpec)) cellarerNodesCard

/-- THE TIED CARD OF 'cellarerlaw12.NodeReads'. -/
def nodeReadsCard : Claim7 := { stood := { row := nodeReadsRow, standIns := [], harness := (true, "9d1b759b6525561ad633739f0cc8ff7be369acecbd4d764e62db2580f4e3baa1"), looks := true }, kinds := [], alts := [], laidByText := true, laidKinds := [.data, .pinned], laidTests := true, laidLooks := .later }
def NodeReadsCardSaid : Prop := Claim7.holds Tryd.pinned (.plain (OpenSpec.ofChange nodeReadsSpec)) nodeReadsCard

/-- THE TIED CARD OF 'cellarerlaw12.NodeFull'. -/
def nodeFullCard : Claim7 := { stood := { row := nodeFullRow, standIns := [], harness := (true, "9d1b759b6525561ad633739f0cc8ff7be369acecbd4d764e62db2580f4e3baa1"), looks := true }, kinds := [], alts := [], laidByText := true, laidKinds := [.data, .pinned], laidTests := true, laidLooks := .later }
def NodeFullCardSaid : Prop := Claim7.holds Tryd.pinned (.plain (OpenSpec.ofChange nodeFullSpec)) nodeFullCard

/-- THE TIED CARD OF 'cellarerlaw12.NodeUnlike'. -/
def nodeUnlikeCard : Claim7 := { stood := { row := nodeUnlikeRow, standIns := [], harness := (true, "9d1b759b6525561ad633739f0cc8ff7be369acecbd4d764e62db2580f4e3baa1"), looks := true }, kinds := [], alts := [], laidByText := true, laidKinds := [.data, .pinned], laidTests := true, laidLooks := .later }
def NodeUnlikeCardSaid : Prop := Claim7.holds Tryd.pinned (.plain (OpenSpec.ofChange nodeUnlikeSpec)) nodeUnlikeCard

/-- THE TIED CARD OF 'cellarertop.CellarerFiles'. -/
def cellarerFilesCard : Claim7 := { stood := { row := cellarerFilesRow, standIns := [], harness := (true, "9d1b759b6525561ad633739f0cc8ff7be369acecbd4d764e62db2580f4e3baa1"), looks := true }, kinds := [], alts := [], laidByText := true, laidKinds := [.data, .pinned], laidTests := true, laidLooks := .later }
def CellarerFilesCardSaid : Prop := Claim7.holds Tryd.pinned (.plain (OpenSpec.ofChange cellarerFilesSpec)) cellarerFilesCard

/-- THE TIED CARD OF 'cellarerlaw12.NodeKinds'. -/
def nodeKindsCard : Claim7 := { stood := { row := nodeKindsRow, standIns := [], harness := (true, "9d1b759b6525561ad633739f0cc8ff7be369acecbd4d764e62db2580f4e3baa1"), looks := true }, kinds := [], alts := [], laidByText := true, laidKinds := [.data, .pinned], laidTests := true, laidLooks := .later }
def NodeKindsCardSaid : Prop := Claim7.holds Tryd.pinned (.plain (OpenSpec.ofChange nodeKindsSpec)) nodeKindsCard

/-- THE TIED CARD OF 'cellarerlaw12.NodeTexts'. -/
def nodeTextsCard : Claim7 := { stood := { row := nodeTextsRow, standIns := [], harness := (true, "9d1b759b6525561ad633739f0cc8ff7be369acecbd4d764e62db2580f4e3baa1"), looks := true }, kinds := [], alts := [], laidByText := true, laidKinds := [.data, .pinned], laidTests := true, laidLooks := .later }
def NodeTextsCardSaid : Prop := Claim7.holds Tryd.pinned (.plain (OpenSpec.ofChange nodeTextsSpec)) nodeTextsCard

/-- THE TIED CARD OF 'cellarerlaw13.WalkFull'. -/
def walkFullCard : Claim7 := { stood := { row := walkFullRow, standIns := [], harness := (true, "9d1b759b6525561ad633739f0cc8ff7be369acecbd4d764e62db2580f4e3baa1"), looks := true }, kinds := [], alts := [], laidByText := true, laidKinds := [.data, .pinned], laidTests := true, laidLooks := .later }
def WalkFullCardSaid : Prop := Claim7.holds Tryd.pinned (.plain (OpenSpec.ofChange walkFullSpec)) walkFullCard

/-- THE TIED CARD OF 'cellarerlaw13.WalkUnder'. -/
def walkUnderCard : Claim7 := { stood := { row := walkUnderRow, standIns := [], harness := (true, "9d1b759b6525561ad633739f0cc8ff7be369acecbd4d764e62db2580f4e3baa1"), looks := true }, kinds := [], alts := [], laidByText := true, laidKinds := [.data, .pinned], laidTests := true, laidLooks := .later }
def WalkUnderCardSaid : Prop := Claim7.holds Tryd.pinned (.plain (OpenSpec.ofChange walkUnderSpec)) walkUnderCard

/-- THE TIED CARD OF 'cellarerlaw13.WalkParts'. -/
def walkPartsCard : Claim7 := { stood := { row := walkPartsRow, standIns := [], harness := (true, "9d1b759b6525561ad633739f0cc8ff7be369acecbd4d764e62db2580f4e3baa1"), looks := true }, kinds := [], alts := [], laidByText := true, laidKinds := [.data, .pinned], laidTests := true, laidLooks := .later }
def WalkPartsCardSaid : Prop := Claim7.holds Tryd.pinned (.plain (OpenSpec.ofChange walkPartsSpec)) walkPartsCard

/-- THE TIED CARD OF 'cellarerlaw13.WalkDiffs'. -/
def walkDiffsCard : Claim7 := { stood := { row := walkDiffsRow, standIns := [], harness := (true, "9d1b759b6525561ad633739f0cc8ff7be369acecbd4d764e62db2580f4e3baa1"), looks := true }, kinds := [], alts := [], laidByText := true, laidKinds := [.data, .pinned], laidTests := true, laidLooks := .later }
def WalkDiffsCardSaid : Prop := Claim7.holds Tryd.pinned (.plain (OpenSpec.ofChange walkDiffsSpec)) walkDiffsCard

/-- THE TIED CARD OF 'cellarerlaw13.WalkTurns'. -/
def walkTurnsCard : Claim7 := { stood := { row := walkTurnsRow, standIns := [], harness := (true, "9d1b759b6525561ad633739f0cc8ff7be369acecbd4d764e62db2580f4e3baa1"), looks := true }, kinds := [], alts := [], laidByText := true, laidKinds := [.data, .pinned], laidTests := true, laidLooks := .later }
def WalkTurnsCardSaid : Prop := Claim7.holds Tryd.pinned (.plain (OpenSpec.ofChange walkTurnsSpec)) walkTurnsCard

/-- THE SECOND FORM's CARD OF 'cellarertop.CellarerNodes'. -/
def cellarerNodesUptoCard : Claim7 := { stood := { row := cellarerNodesUptoRow, standIns := [], harness := (true, "9d1b759b6525561ad633739f0cc8ff7be369acecbd4d764e62db2580f4e3baa1"), looks := true }, kinds := [], alts := [], laidByText := true, laidKinds := [.data, .pinned], laidTests := true, laidLooks := .later }
def CellarerNodesUptoCardSaid : Prop := Claim7.holds Tryd.pinned (.plain (OpenSpec.upto cellarerNodesSpec)) cellarerNodesUptoCard

/-- THE SECOND FORM's CARD OF 'cellarerlaw12.NodeReads'. -/
def nodeReadsUptoCard : Claim7 := { stood := { row := nodeReadsUptoRow, standIns := [], harness := (true, "9d1b759b6525561ad633739f0cc8ff7be369acecbd4d764e62db2580f4e3baa1"), looks := true }, kinds := [], alts := [], laidByText := true, laidKinds := [.data, .pinned], laidTests := true, laidLooks := .later }
def NodeReadsUptoCardSaid : Prop := Claim7.holds Tryd.pinned (.plain (OpenSpec.upto nodeReadsSpec)) nodeReadsUptoCard

/-- THE SECOND FORM's CARD OF 'cellarerlaw12.NodeFull'. -/
def nodeFullUptoCard : Claim7 := { stood := { row := nodeFullUptoRow, standIns := [], harness := (true, "9d1b759b6525561ad633739f0cc8ff7be369acecbd4d764e62db2580f4e3baa1"), looks := true }, kinds := [], alts := [], laidByText := true, laidKinds := [.data, .pinned], laidTests := true, laidLooks := .later }
def NodeFullUptoCardSaid : Prop := Claim7.holds Tryd.pinned (.plain (OpenSpec.upto nodeFullSpec)) nodeFullUptoCard

/-- THE SECOND FORM's CARD OF 'cellarerlaw12.NodeUnlike'. -/
def nodeUnlikeUptoCard : Claim7 := { stood := { row := nodeUnlikeUptoRow, standIns := [], harness := (true, "9d1b759b6525561ad633739f0cc8ff7be369acecbd4d764e62db2580f4e3baa1"), looks := true }, kinds := [], alts := [], laidByText := true, laidKinds := [.data, .pinned], laidTests := true, laidLooks := .later }
def NodeUnlikeUptoCardSaid : Prop := Claim7.holds Tryd.pinned (.plain (OpenSpec.upto nodeUnlikeSpec)) nodeUnlikeUptoCard

/-- THE SECOND FORM's CARD OF 'cellarertop.CellarerFiles'. -/
def cellarerFilesUptoCard : Claim7 := { stood := { row := cellarerFilesUptoRow, standIns := [], harness := (true, "9d1b759b6525561ad633739f0cc8ff7be369acecbd4d764e62db2580f4e3baa1"), looks := true }, kinds := [], alts := [], laidByText := true, laidKinds := [.data, .pinned], laidTests := true, laidLooks := .later }
def CellarerFilesUptoCardSaid : Prop := Claim7.holds Tryd.pinned (.plain (OpenSpec.upto cellarerFilesSpec)) cellarerFilesUptoCard

/-- THE SECOND FORM's CARD OF 'cellarerlaw12.NodeKinds'. -/
def nodeKindsUptoCard : Claim7 := { stood := { row := nodeKindsUptoRow, standIns := [], harness := (true, "9d1b759b6525561ad633739f0cc8ff7be369acecbd4d764e62db2580f4e3baa1"), looks := true }, kinds := [], alts := [], laidByText := true, laidKinds := [.data, .pinned], laidTests := true, laidLooks := .later }
def NodeKindsUptoCardSaid : Prop := Claim7.holds Tryd.pinned (.plain (OpenSpec.upto nodeKindsSpec)) nodeKindsUptoCard

/-- THE SECOND FORM's CARD OF 'cellarerlaw12.NodeTexts'. -/
def nodeTextsUptoCard : Claim7 := { stood := { row := nodeTextsUptoRow, standIns := [], harness := (true, "9d1b759b6525561ad633739f0cc8ff7be369acecbd4d764e62db2580f4e3baa1"), looks := true }, kinds := [], alts := [], laidByText := true, laidKinds := [.data, .pinned], laidTests := true, laidLooks := .later }
def NodeTextsUptoCardSaid : Prop := Claim7.holds Tryd.pinned (.plain (OpenSpec.upto nodeTextsSpec)) nodeTextsUptoCard

/-- THE SECOND FORM's CARD OF 'cellarerlaw13.WalkFull'. -/
def walkFullUptoCard : Claim7 := { stood := { row := walkFullUptoRow, standIns := [], harness := (true, "9d1b759b6525561ad633739f0cc8ff7be369acecbd4d764e62db2580f4e3baa1"), looks := true }, kinds := [], alts := [], laidByText := true, laidKinds := [.data, .pinned], laidTests := true, laidLooks := .later }
def WalkFullUptoCardSaid : Prop := Claim7.holds Tryd.pinned (.plain (OpenSpec.upto walkFullSpec)) walkFullUptoCard

/-- THE SECOND FORM's CARD OF 'cellarerlaw13.WalkUnder'. -/
def walkUnderUptoCard : Claim7 := { stood := { row := walkUnderUptoRow, standIns := [], harness := (true, "9d1b759b6525561ad633739f0cc8ff7be369acecbd4d764e62db2580f4e3baa1"), looks := true }, kinds := [], alts := [], laidByText := true, laidKinds := [.data, .pinned], laidTests := true, laidLooks := .later }
def WalkUnderUptoCardSaid : Prop := Claim7.holds Tryd.pinned (.plain (OpenSpec.upto walkUnderSpec)) walkUnderUptoCard

/-- THE SECOND FORM's CARD OF 'cellarerlaw13.WalkParts'. -/
def walkPartsUptoCard : Claim7 := { stood := { row := walkPartsUptoRow, standIns := [], harness := (true, "9d1b759b6525561ad633739f0cc8ff7be369acecbd4d764e62db2580f4e3baa1"), looks := true }, kinds := [], alts := [], laidByText := true, laidKinds := [.data, .pinned], laidTests := true, laidLooks := .later }
def WalkPartsUptoCardSaid : Prop := Claim7.holds Tryd.pinned (.plain (OpenSpec.upto walkPartsSpec)) walkPartsUptoCard

/-- THE SECOND FORM's CARD OF 'cellarerlaw13.WalkDiffs'. -/
def walkDiffsUptoCard : Claim7 := { stood := { row := walkDiffsUptoRow, standIns := [], harness := (true, "9d1b759b6525561ad633739f0cc8ff7be369acecbd4d764e62db2580f4e3baa1"), looks := true }, kinds := [], alts := [], laidByText := true, laidKinds := [.data, .pinned], laidTests := true, laidLooks := .later }
def WalkDiffsUptoCardSaid : Prop := Claim7.holds Tryd.pinned (.plain (OpenSpec.upto walkDiffsSpec)) walkDiffsUptoCard

/-- THE SECOND FORM's CARD OF 'cellarerlaw13.WalkTurns'. -/
def walkTurnsUptoCard : Claim7 := { stood := { row := walkTurnsUptoRow, standIns := [], harness := (true, "9d1b759b6525561ad633739f0cc8ff7be369acecbd4d764e62db2580f4e3baa1"), looks := true }, kinds := [], alts := [], laidByText := true, laidKinds := [.data, .pinned], laidTests := true, laidLooks := .later }
def WalkTurnsUptoCardSaid : Prop := Claim7.holds Tryd.pinned (.plain (OpenSpec.upto walkTurnsSpec)) walkTurnsUptoCard
end Rows
end Go.Proofs.YtaoejgnfoecpfaaDoor
