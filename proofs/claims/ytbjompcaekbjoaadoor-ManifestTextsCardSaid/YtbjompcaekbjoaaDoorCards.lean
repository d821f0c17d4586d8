/-
  DERIVED. GIVEN WITH THE SEED: THE CARDS: each row of YtbjompcaekbjoaaDoorRows.lean that lists a variable, with what it lists TIED to the program's text (the seventh form; the later family's looks); each row that meets fmt, with fmt's text TOLD by the authors' own Lean function (tested against real Go, not proved from fmt's source: count such statements apart). THE CARD IS WHAT COUNTS. Prove the row's statement (the work); the ties are given (YtbjompcaekbjoaaDoorTie.lean); close each card by the builder's one call (the guide's Derived/Test/ToyasCard.lean, 'card_holds'). Laid BY PROGRAM, IN A SANDBOX (cutbox-door.mjs). By AI agents, Wed Nov 11 2026. No macro, syntax, notation, axiom, sorry.
-/
import Derived.Test.YtbjompcaekbjoaaDoorRows
import GoSem.ClaimSeven
namespace Go.Proofs.YtbjompcaekbjoaaDoor
namespace Rows

/-- THE TIED CARD OF 'cellarerlaw19.ManifestTexts'. -/
def manifestTextsCard : Claim7 := { stood := { row := manifestTextsRow, standIns := [], harness := (true, "056812f5542ac0e1b5607e10e370c5df68f4c6adf166e775c54494303504def0"), looks := true }, kinds := [], alts := [], laidByText := true, laidKinds := [.data, .pinned], laidTests := true, laidLooks := .later }
def ManifestTextsCardSaid : Prop := Claim7.holds Tryd.pinned (.plain (OpenSpec.ofChange manifestTextsSpec)) manifestTextsCard

/-- THE TIED CARD OF 'cellarerlaw19.ManifestUnlike'. -/
def manifestUnlikeCard : Claim7 := { stood := { row := manifestUnlikeRow, standIns := [], harness := (true, "056812f5542ac0e1b5607e10e370c5df68f4c6adf166e775c54494303504def0"), looks := true }, kinds := [], alts := [], laidByText := true, laidKinds := [.data, .pinned], laidTests := true, laidLooks := .later }
def ManifestUnlikeCardSaid : Prop := Claim7.holds Tryd.pinned (.plain (OpenSpec.ofChange manifestUnlikeSpec)) manifestUnlikeCard

/-- THE TIED CARD OF 'cellarerlaw11.PathOrders'. -/
def pathOrdersCard : Claim7 := { stood := { row := pathOrdersRow, standIns := [], harness := (true, "056812f5542ac0e1b5607e10e370c5df68f4c6adf166e775c54494303504def0"), looks := true }, kinds := [], alts := [], laidByText := true, laidKinds := [.data, .pinned], laidTests := true, laidLooks := .later }
def PathOrdersCardSaid : Prop := Claim7.holds Tryd.pinned (.plain (OpenSpec.ofChange pathOrdersSpec)) pathOrdersCard

/-- THE TIED CARD OF 'cellarerlaw11.PathTotal'. -/
def pathTotalCard : Claim7 := { stood := { row := pathTotalRow, standIns := [], harness := (true, "056812f5542ac0e1b5607e10e370c5df68f4c6adf166e775c54494303504def0"), looks := true }, kinds := [], alts := [], laidByText := true, laidKinds := [.data, .pinned], laidTests := true, laidLooks := .later }
def PathTotalCardSaid : Prop := Claim7.holds Tryd.pinned (.plain (OpenSpec.ofChange pathTotalSpec)) pathTotalCard

/-- THE TIED CARD OF 'cellarerlaw11.PathRunes'. -/
def pathRunesCard : Claim7 := { stood := { row := pathRunesRow, standIns := [], harness := (true, "056812f5542ac0e1b5607e10e370c5df68f4c6adf166e775c54494303504def0"), looks := true }, kinds := [], alts := [], laidByText := true, laidKinds := [.data, .pinned], laidTests := true, laidLooks := .later }
def PathRunesCardSaid : Prop := Claim7.holds Tryd.pinned (.plain (OpenSpec.ofChange pathRunesSpec)) pathRunesCard

/-- THE TIED CARD OF 'cellarerlaw11.PathFolds'. -/
def pathFoldsCard : Claim7 := { stood := { row := pathFoldsRow, standIns := [], harness := (true, "056812f5542ac0e1b5607e10e370c5df68f4c6adf166e775c54494303504def0"), looks := true }, kinds := [], alts := [], laidByText := true, laidKinds := [.data, .pinned], laidTests := true, laidLooks := .later }
def PathFoldsCardSaid : Prop := Claim7.holds Tryd.pinned (.plain (OpenSpec.ofChange pathFoldsSpec)) pathFoldsCard

/-- THE TIED CARD OF 'cellarerlaw11.PathNames'. -/
def pathNamesCard : Claim7 := { stood := { row := pathNamesRow, standIns := [], harness := (true, "056812f5542ac0e1b5607e10e370c5df68f4c6adf166e775c54494303504def0"), looks := true }, kinds := [], alts := [], laidByText := true, laidKinds := [.data, .pinned], laidTests := true, laidLooks := .later }
def PathNamesCardSaid : Prop := Claim7.holds Tryd.pinned (.plain (OpenSpec.ofChange pathNamesSpec)) pathNamesCard

/-- THE TIED CARD OF 'cellarerlaw11.PathParts'. -/
def pathPartsCard : Claim7 := { stood := { row := pathPartsRow, standIns := [], harness := (true, "056812f5542ac0e1b5607e10e370c5df68f4c6adf166e775c54494303504def0"), looks := true }, kinds := [], alts := [], laidByText := true, laidKinds := [.data, .pinned], laidTests := true, laidLooks := .later }
def PathPartsCardSaid : Prop := Claim7.holds Tryd.pinned (.plain (OpenSpec.ofChange pathPartsSpec)) pathPartsCard

/-- THE TIED CARD OF 'cellarerlaw12.NodeReads'. -/
def nodeReadsCard : Claim7 := { stood := { row := nodeReadsRow, standIns := [], harness := (true, "056812f5542ac0e1b5607e10e370c5df68f4c6adf166e775c54494303504def0"), looks := true }, kinds := [], alts := [], laidByText := true, laidKinds := [.data, .pinned], laidTests := true, laidLooks := .later }
def NodeReadsCardSaid : Prop := Claim7.holds Tryd.pinned (.plain (OpenSpec.ofChange nodeReadsSpec)) nodeReadsCard

/-- THE TIED CARD OF 'cellarerlaw12.NodeFull'. -/
def nodeFullCard : Claim7 := { stood := { row := nodeFullRow, standIns := [], harness := (true, "056812f5542ac0e1b5607e10e370c5df68f4c6adf166e775c54494303504def0"), looks := true }, kinds := [], alts := [], laidByText := true, laidKinds := [.data, .pinned], laidTests := true, laidLooks := .later }
def NodeFullCardSaid : Prop := Claim7.holds Tryd.pinned (.plain (OpenSpec.ofChange nodeFullSpec)) nodeFullCard

/-- THE TIED CARD OF 'cellarerlaw12.NodeUnlike'. -/
def nodeUnlikeCard : Claim7 := { stood := { row := nodeUnlikeRow, standIns := [], harness := (true, "056812f5542ac0e1b5607e10e370c5df68f4c6adf166e775c54494303504def0"), looks := true }, kinds := [], alts := [], laidByText := true, laidKinds := [.data, .pinned], laidTests := true, laidLooks := .later }
def NodeUnlikeCardSaid : Prop := Claim7.holds Tryd.pinned (.plain (OpenSpec.ofChange nodeUnlikeSpec)) nodeUnlikeCard

/-- THE TIED CARD OF 'cellarerlaw12.NodeTexts'. -/
def nodeTextsCard : Claim7 := { stood := { row := nodeTextsRow, standIns := [], harness := (true, "056812f5542ac0e1b5607e10e370c5df68f4c6adf166e775c54494303504def0"), looks := true }, kinds := [], alts := [], laidByText := true, laidKinds := [.data, .pinned], laidTests := true, laidLooks := .later }
def NodeTextsCardSaid : Prop := Claim7.holds Tryd.pinned (.plain (OpenSpec.ofChange nodeTextsSpec)) nodeTextsCard

/-- THE SECOND FORM's CARD OF 'cellarerlaw19.ManifestTexts'. -/
def manifestTextsUptoCard : Claim7 := { stood := { row := manifestTextsUptoRow, standIns := [], harness := (true, "056812f5542ac0e1b5607e10e370c5df68f4c6adf166e775c54494303504def0"), looks := true }, kinds := [], alts := [], laidByText := true, laidKinds := [.data, .pinned], laidTests := true, laidLooks := .later }
def ManifestTextsUptoCardSaid : Prop := Claim7.holds Tryd.pinned (.plain (OpenSpec.upto manifestTextsSpec)) manifestTextsUptoCard

/-- THE SECOND FORM's CARD OF 'cellarerlaw19.ManifestUnlike'. -/
def manifestUnlikeUptoCard : Claim7 := { stood := { row := manifestUnlikeUptoRow, standIns := [], harness := (true, "056812f5542ac0e1b5607e10e370c5df68f4c6adf166e775c54494303504def0"), looks := true }, kinds := [], alts := [], laidByText := true, laidKinds := [.data, .pinned], laidTests := true, laidLooks := .later }
def ManifestUnlikeUptoCardSaid : Prop := Claim7.holds Tryd.pinned (.plain (OpenSpec.upto manifestUnlikeSpec)) manifestUnlikeUptoCard

/-- THE SECOND FORM's CARD OF 'cellarerlaw11.PathOrders'. -/
def pathOrdersUptoCard : Claim7 := { stood := { row := pathOrdersUptoRow, standIns := [], harness := (true, "056812f5542ac0e1b5607e10e370c5df68f4c6adf166e775c54494303504def0"), looks := true }, kinds := [], alts := [], laidByText := true, laidKinds := [.data, .pinned], laidTests := true, laidLooks := .later }
def PathOrdersUptoCardSaid : Prop := Claim7.holds Tryd.pinned (.plain (OpenSpec.upto pathOrdersSpec)) pathOrdersUptoCard

/-- THE SECOND FORM's CARD OF 'cellarerlaw11.PathTotal'. -/
def pathTotalUptoCard : Claim7 := { stood := { row := pathTotalUptoRow, standIns := [], harness := (true, "056812f5542ac0e1b5607e10e370c5df68f4c6adf166e775c54494303504def0"), looks := true }, kinds := [], alts := [], laidByText := true, laidKinds := [.data, .pinned], laidTests := true, laidLooks := .later }
def PathTotalUptoCardSaid : Prop := Claim7.holds Tryd.pinned (.plain (OpenSpec.upto pathTotalSpec)) pathTotalUptoCard

/-- THE SECOND FORM's CARD OF 'cellarerlaw11.PathRunes'. -/
def pathRunesUptoCard : Claim7 := { stood := { row := pathRunesUptoRow, standIns := [], harness := (true, "056812f5542ac0e1b5607e10e370c5df68f4c6adf166e775c54494303504def0"), looks := true }, kinds := [], alts := [], laidByText := true, laidKinds := [.data, .pinned], laidTests := true, laidLooks := .later }
def PathRunesUptoCardSaid : Prop := Claim7.holds Tryd.pinned (.plain (OpenSpec.upto pathRunesSpec)) pathRunesUptoCard

/-- THE SECOND FORM's CARD OF 'cellarerlaw11.PathFolds'. -/
def pathFoldsUptoCard : Claim7 := { stood := { row := pathFoldsUptoRow, standIns := [], harness := (true, "056812f5542ac0e1b5607e10e370c5df68f4c6adf166e775c54494303504def0"), looks := true }, kinds := [], alts := [], laidByText := true, laidKinds := [.data, .pinned], laidTests := true, laidLooks := .later }
def PathFoldsUptoCardSaid : Prop := Claim7.holds Tryd.pinned (.plain (OpenSpec.upto pathFoldsSpec)) pathFoldsUptoCard

/-- THE SECOND FORM's CARD OF 'cellarerlaw11.PathNames'. -/
def pathNamesUptoCard : Claim7 := { stood := { row := pathNamesUptoRow, standIns := [], harness := (true, "056812f5542ac0e1b5607e10e370c5df68f4c6adf166e775c54494303504def0"), looks := true }, kinds := [], alts := [], laidByText := true, laidKinds := [.data, .pinned], laidTests := true, laidLooks := .later }
def PathNamesUptoCardSaid : Prop := Claim7.holds Tryd.pinned (.plain (OpenSpec.upto pathNamesSpec)) pathNamesUptoCard

/-- THE SECOND FORM's CARD OF 'cellarerlaw11.PathParts'. -/
def pathPartsUptoCard : Claim7 := { stood := { row := pathPartsUptoRow, standIns := [], harness := (true, "056812f5542ac0e1b5607e10e370c5df68f4c6adf166e775c54494303504def0"), looks := true }, kinds := [], alts := [], laidByText := true, laidKinds := [.data, .pinned], laidTests := true, laidLooks := .later }
def PathPartsUptoCardSaid : Prop := Claim7.holds Tryd.pinned (.plain (OpenSpec.upto pathPartsSpec)) pathPartsUptoCard

/-- THE SECOND FORM's CARD OF 'cellarerlaw12.NodeReads'. -/
def nodeReadsUptoCard : Claim7 := { stood := { row := nodeReadsUptoRow, standIns := [], harness := (true, "056812f5542ac0e1b5607e10e370c5df68f4c6adf166e775c54494303504def0"), looks := true }, kinds := [], alts := [], laidByText := true, laidKinds := [.data, .pinned], laidTests := true, laidLooks := .later }
def NodeReadsUptoCardSaid : Prop := Claim7.holds Tryd.pinned (.plain (OpenSpec.upto nodeReadsSpec)) nodeReadsUptoCard

/-- THE SECOND FORM's CARD OF 'cellarerlaw12.NodeFull'. -/
def nodeFullUptoCard : Claim7 := { stood := { row := nodeFullUptoRow, standIns := [], harness := (true, "056812f5542ac0e1b5607e10e370c5df68f4c6adf166e775c54494303504def0"), looks := true }, kinds := [], alts := [], laidByText := true, laidKinds := [.data, .pinned], laidTests := true, laidLooks := .later }
def NodeFullUptoCardSaid : Prop := Claim7.holds Tryd.pinned (.plain (OpenSpec.upto nodeFullSpec)) nodeFullUptoCard

/-- THE SECOND FORM's CARD OF 'cellarerlaw12.NodeUnlike'. -/
def nodeUnlikeUptoCard : Claim7 := { stood := { row := nodeUnlikeUptoRow, standIns := [], harness := (true, "056812f5542ac0e1b5607e10e370c5df68f4c6adf166e775c54494303504def0"), looks := true }, kinds := [], alts := [], laidByText := true, laidKinds := [.data, .pinned], laidTests := true, laidLooks := .later }
def NodeUnlikeUptoCardSaid : Prop := Claim7.holds Tryd.pinned (.plain (OpenSpec.upto nodeUnlikeSpec)) nodeUnlikeUptoCard

/-- THE SECOND FORM's CARD OF 'cellarerlaw12.NodeTexts'. -/
def nodeTextsUptoCard : Claim7 := { stood := { row := nodeTextsUptoRow, standIns := [], harness := (true, "056812f5542ac0e1b5607e10e370c5df68f4c6adf166e775c54494303504def0"), looks := true }, kinds := [], alts := [], laidByText := true, laidKinds := [.data, .pinned], laidTests := true, laidLooks := .later }
def NodeTextsUptoCardSaid : Prop := Claim7.holds Tryd.pinned (.plain (OpenSpec.upto nodeTextsSpec)) nodeTextsUptoCard
end Rows
end Go.Proofs.YtbjompcaekbjoaaDoor
