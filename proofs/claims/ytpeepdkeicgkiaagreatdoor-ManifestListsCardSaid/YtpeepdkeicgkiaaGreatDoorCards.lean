/-
  DERIVED. GIVEN WITH THE SEED: THE CARDS: each row of YtpeepdkeicgkiaaGreatDoorRows.lean that lists a variable, with what it lists TIED to the program's text (the seventh form; the later family's looks); each row that meets fmt, with fmt's text TOLD by the authors' own Lean function (tested against real Go, not proved from fmt's source: count such statements apart). THE CARD IS WHAT COUNTS. Prove the row's statement (the work); the ties are given (YtpeepdkeicgkiaaGreatDoorTie.lean); close each card by the builder's one call (the guide's Derived/Test/ToyasCard.lean, 'card_holds'). Laid BY PROGRAM, IN A SANDBOX (cutbox-door.mjs). By AI agents, Wed Nov 11 2026. No macro, syntax, notation, axiom, sorry.
-/
import Derived.Test.YtpeepdkeicgkiaaGreatDoorRows
import GoSem.ClaimSeven
namespace Go.Proofs.YtpeepdkeicgkiaaGreatDoor
namespace Rows

/-- THE TIED CARD OF 'cellarertop.CellarerWhen'. -/
def cellarerWhenCard : Claim7 := { stood := { row := cellarerWhenRow, standIns := [], harness := (true, "367e12b654e00f607def898a5cefbb523bd0ec1b5830d241be8b1b568dde4b8c"), looks := true }, kinds := [], alts := [], laidByText := true, laidKinds := [.data, .pinned], laidTests := true, laidLooks := .later }
def CellarerWhenCardSaid : Prop := Claim7.holds Tryz.pinned (.plain (OpenSpec.ofChange cellarerWhenSpec)) cellarerWhenCard

/-- THE TIED CARD OF 'cellarerlaw19.ManifestOrder'. -/
def manifestOrderCard : Claim7 := { stood := { row := manifestOrderRow, standIns := [], harness := (true, "367e12b654e00f607def898a5cefbb523bd0ec1b5830d241be8b1b568dde4b8c"), looks := true }, kinds := [], alts := [], laidByText := true, laidKinds := [.data, .pinned], laidTests := true, laidLooks := .later }
def ManifestOrderCardSaid : Prop := Claim7.holds Tryz.pinned (.plain (OpenSpec.ofChange manifestOrderSpec)) manifestOrderCard

/-- THE TIED CARD OF 'cellarerlaw19.ManifestGoes'. -/
def manifestGoesCard : Claim7 := { stood := { row := manifestGoesRow, standIns := [], harness := (true, "367e12b654e00f607def898a5cefbb523bd0ec1b5830d241be8b1b568dde4b8c"), looks := true }, kinds := [], alts := [], laidByText := true, laidKinds := [.data, .pinned], laidTests := true, laidLooks := .later }
def ManifestGoesCardSaid : Prop := Claim7.holds Tryz.pinned (.plain (OpenSpec.ofChange manifestGoesSpec)) manifestGoesCard

/-- THE TIED CARD OF 'cellarerlaw19.ManifestLists'. -/
def manifestListsCard : Claim7 := { stood := { row := manifestListsRow, standIns := [], harness := (true, "367e12b654e00f607def898a5cefbb523bd0ec1b5830d241be8b1b568dde4b8c"), looks := true }, kinds := [], alts := [], laidByText := true, laidKinds := [.data, .pinned], laidTests := true, laidLooks := .later }
def ManifestListsCardSaid : Prop := Claim7.holds Tryz.pinned (.plain (OpenSpec.ofChange manifestListsSpec)) manifestListsCard

/-- THE SECOND FORM's CARD OF 'cellarertop.CellarerWhen'. -/
def cellarerWhenUptoCard : Claim7 := { stood := { row := cellarerWhenUptoRow, standIns := [], harness := (true, "367e12b654e00f607def898a5cefbb523bd0ec1b5830d241be8b1b568dde4b8c"), looks := true }, kinds := [], alts := [], laidByText := true, laidKinds := [.data, .pinned], laidTests := true, laidLooks := .later }
def CellarerWhenUptoCardSaid : Prop := Claim7.holds Tryz.pinned (.plain (OpenSpec.upto cellarerWhenSpec)) cellarerWhenUptoCard

/-- THE SECOND FORM's CARD OF 'cellarerlaw19.ManifestOrder'. -/
def manifestOrderUptoCard : Claim7 := { stood := { row := manifestOrderUptoRow, standIns := [], harness := (true, "367e12b654e00f607def898a5cefbb523bd0ec1b5830d241be8b1b568dde4b8c"), looks := true }, kinds := [], alts := [], laidByText := true, laidKinds := [.data, .pinned], laidTests := true, laidLooks := .later }
def ManifestOrderUptoCardSaid : Prop := Claim7.holds Tryz.pinned (.plain (OpenSpec.upto manifestOrderSpec)) manifestOrderUptoCard

/-- THE SECOND FORM's CARD OF 'cellarerlaw19.ManifestGoes'. -/
def manifestGoesUptoCard : Claim7 := { stood := { row := manifestGoesUptoRow, standIns := [], harness := (true, "367e12b654e00f607def898a5cefbb523bd0ec1b5830d241be8b1b568dde4b8c"), looks := true }, kinds := [], alts := [], laidByText := true, laidKinds := [.data, .pinned], laidTests := true, laidLooks := .later }
def ManifestGoesUptoCardSaid : Prop := Claim7.holds Tryz.pinned (.plain (OpenSpec.upto manifestGoesSpec)) manifestGoesUptoCard

/-- THE SECOND FORM's CARD OF 'cellarerlaw19.ManifestLists'. -/
def manifestListsUptoCard : Claim7 := { stood := { row := manifestListsUptoRow, standIns := [], harness := (true, "367e12b654e00f607def898a5cefbb523bd0ec1b5830d241be8b1b568dde4b8c"), looks := true }, kinds := [], alts := [], laidByText := true, laidKinds := [.data, .pinned], laidTests := true, laidLooks := .later }
def ManifestListsUptoCardSaid : Prop := Claim7.holds Tryz.pinned (.plain (OpenSpec.upto manifestListsSpec)) manifestListsUptoCard
end Rows
end Go.Proofs.YtpeepdkeicgkiaaGreatDoor
