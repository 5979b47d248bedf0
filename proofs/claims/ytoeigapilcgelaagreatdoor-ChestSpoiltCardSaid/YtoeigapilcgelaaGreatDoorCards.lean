/-
  DERIVED. GIVEN WITH THE SEED: THE CARDS: each row of YtoeigapilcgelaaGreatDoorRows.lean that lists a variable, with what it lists TIED to the program's text (the seventh form; the later family's looks); each row that meets fmt, with fmt's text TOLD by the authors' own Lean function (tested against real Go, not proved from fmt's source: count such statements apart). THE CARD IS WHAT COUNTS. Prove the row's statement (the work); the ties are given (YtoeigapilcgelaaGreatDoorTie.lean); close each card by the builder's one call (the guide's Derived/Test/ToyasCard.lean, 'card_holds'). Laid BY PROGRAM, IN A SANDBOX (cutbox-door.mjs). By AI agents, Wed Nov 11 2026. No macro, syntax, notation, axiom, sorry.
-/
import Derived.Test.YtoeigapilcgelaaGreatDoorRows
import GoSem.ClaimSeven
namespace Go.Proofs.YtoeigapilcgelaaGreatDoor
namespace Rows

/-- THE TIED CARD OF 'kelirlaw08.ChestFaulty'. -/
def chestFaultyCard : Claim7 := { stood := { row := chestFaultyRow, standIns := [], harness := (true, "4dbe305bd0d2873f321981dc12b66b5286b89dbad057d331d346cb2e19ef5f7b"), looks := true }, kinds := [], alts := [], laidByText := true, laidKinds := [.data, .data, .data, .data, .pinned], laidTests := true, laidLooks := .later }
def ChestFaultyCardSaid : Prop := Claim7.holds Tryz.pinned (.plain (OpenSpec.ofChange chestFaultySpec)) chestFaultyCard

/-- THE TIED CARD OF 'kelirlaw08.ChestBests'. -/
def chestBestsCard : Claim7 := { stood := { row := chestBestsRow, standIns := [], harness := (true, "4dbe305bd0d2873f321981dc12b66b5286b89dbad057d331d346cb2e19ef5f7b"), looks := true }, kinds := [], alts := [], laidByText := true, laidKinds := [.data, .data, .data, .data, .pinned], laidTests := true, laidLooks := .later }
def ChestBestsCardSaid : Prop := Claim7.holds Tryz.pinned (.plain (OpenSpec.ofChange chestBestsSpec)) chestBestsCard

/-- THE TIED CARD OF 'kelirlaw08.ChestFewest'. -/
def chestFewestCard : Claim7 := { stood := { row := chestFewestRow, standIns := [], harness := (true, "4dbe305bd0d2873f321981dc12b66b5286b89dbad057d331d346cb2e19ef5f7b"), looks := true }, kinds := [], alts := [], laidByText := true, laidKinds := [.data, .data, .data, .data, .pinned], laidTests := true, laidLooks := .later }
def ChestFewestCardSaid : Prop := Claim7.holds Tryz.pinned (.plain (OpenSpec.ofChange chestFewestSpec)) chestFewestCard

/-- THE TIED CARD OF 'kelirlaw08.ChestKnowns'. -/
def chestKnownsCard : Claim7 := { stood := { row := chestKnownsRow, standIns := [], harness := (true, "4dbe305bd0d2873f321981dc12b66b5286b89dbad057d331d346cb2e19ef5f7b"), looks := true }, kinds := [], alts := [], laidByText := true, laidKinds := [.data, .data, .data, .data, .pinned], laidTests := true, laidLooks := .later }
def ChestKnownsCardSaid : Prop := Claim7.holds Tryz.pinned (.plain (OpenSpec.ofChange chestKnownsSpec)) chestKnownsCard

/-- THE TIED CARD OF 'kelirlaw08.ChestTrue'. -/
def chestTrueCard : Claim7 := { stood := { row := chestTrueRow, standIns := [], harness := (true, "4dbe305bd0d2873f321981dc12b66b5286b89dbad057d331d346cb2e19ef5f7b"), looks := true }, kinds := [], alts := [], laidByText := true, laidKinds := [.data, .data, .data, .data, .pinned], laidTests := true, laidLooks := .later }
def ChestTrueCardSaid : Prop := Claim7.holds Tryz.pinned (.plain (OpenSpec.ofChange chestTrueSpec)) chestTrueCard

/-- THE TIED CARD OF 'kelirlaw08.ChestOuts'. -/
def chestOutsCard : Claim7 := { stood := { row := chestOutsRow, standIns := [], harness := (true, "4dbe305bd0d2873f321981dc12b66b5286b89dbad057d331d346cb2e19ef5f7b"), looks := true }, kinds := [], alts := [], laidByText := true, laidKinds := [.data, .data, .data, .data, .pinned], laidTests := true, laidLooks := .later }
def ChestOutsCardSaid : Prop := Claim7.holds Tryz.pinned (.plain (OpenSpec.ofChange chestOutsSpec)) chestOutsCard

/-- THE TIED CARD OF 'kelirlaw08.ChestAbove'. -/
def chestAboveCard : Claim7 := { stood := { row := chestAboveRow, standIns := [], harness := (true, "4dbe305bd0d2873f321981dc12b66b5286b89dbad057d331d346cb2e19ef5f7b"), looks := true }, kinds := [], alts := [], laidByText := true, laidKinds := [.data, .data, .data, .data, .pinned], laidTests := true, laidLooks := .later }
def ChestAboveCardSaid : Prop := Claim7.holds Tryz.pinned (.plain (OpenSpec.ofChange chestAboveSpec)) chestAboveCard

/-- THE TIED CARD OF 'kelirlaw08.ChestEases'. -/
def chestEasesCard : Claim7 := { stood := { row := chestEasesRow, standIns := [], harness := (true, "4dbe305bd0d2873f321981dc12b66b5286b89dbad057d331d346cb2e19ef5f7b"), looks := true }, kinds := [], alts := [], laidByText := true, laidKinds := [.data, .data, .data, .data, .pinned], laidTests := true, laidLooks := .later }
def ChestEasesCardSaid : Prop := Claim7.holds Tryz.pinned (.plain (OpenSpec.ofChange chestEasesSpec)) chestEasesCard

/-- THE TIED CARD OF 'kelirlaw08.ChestLeast'. -/
def chestLeastCard : Claim7 := { stood := { row := chestLeastRow, standIns := [], harness := (true, "4dbe305bd0d2873f321981dc12b66b5286b89dbad057d331d346cb2e19ef5f7b"), looks := true }, kinds := [], alts := [], laidByText := true, laidKinds := [.data, .data, .data, .data, .pinned], laidTests := true, laidLooks := .later }
def ChestLeastCardSaid : Prop := Claim7.holds Tryz.pinned (.plain (OpenSpec.ofChange chestLeastSpec)) chestLeastCard

/-- THE TIED CARD OF 'kelirlaw08.ChestLaters'. -/
def chestLatersCard : Claim7 := { stood := { row := chestLatersRow, standIns := [], harness := (true, "4dbe305bd0d2873f321981dc12b66b5286b89dbad057d331d346cb2e19ef5f7b"), looks := true }, kinds := [], alts := [], laidByText := true, laidKinds := [.data, .data, .data, .data, .pinned], laidTests := true, laidLooks := .later }
def ChestLatersCardSaid : Prop := Claim7.holds Tryz.pinned (.plain (OpenSpec.ofChange chestLatersSpec)) chestLatersCard

/-- THE TIED CARD OF 'kelirlaw08.ChestMoved'. -/
def chestMovedCard : Claim7 := { stood := { row := chestMovedRow, standIns := [], harness := (true, "4dbe305bd0d2873f321981dc12b66b5286b89dbad057d331d346cb2e19ef5f7b"), looks := true }, kinds := [], alts := [], laidByText := true, laidKinds := [.data, .data, .data, .data, .pinned], laidTests := true, laidLooks := .later }
def ChestMovedCardSaid : Prop := Claim7.holds Tryz.pinned (.plain (OpenSpec.ofChange chestMovedSpec)) chestMovedCard

/-- THE TIED CARD OF 'kelirlaw08.ChestChests'. -/
def chestChestsCard : Claim7 := { stood := { row := chestChestsRow, standIns := [], harness := (true, "4dbe305bd0d2873f321981dc12b66b5286b89dbad057d331d346cb2e19ef5f7b"), looks := true }, kinds := [], alts := [], laidByText := true, laidKinds := [.data, .data, .data, .data, .pinned], laidTests := true, laidLooks := .later }
def ChestChestsCardSaid : Prop := Claim7.holds Tryz.pinned (.plain (OpenSpec.ofChange chestChestsSpec)) chestChestsCard

/-- THE TIED CARD OF 'kelirlaw08.ChestSplit'. -/
def chestSplitCard : Claim7 := { stood := { row := chestSplitRow, standIns := [], harness := (true, "4dbe305bd0d2873f321981dc12b66b5286b89dbad057d331d346cb2e19ef5f7b"), looks := true }, kinds := [], alts := [], laidByText := true, laidKinds := [.data, .data, .data, .data, .pinned], laidTests := true, laidLooks := .later }
def ChestSplitCardSaid : Prop := Claim7.holds Tryz.pinned (.plain (OpenSpec.ofChange chestSplitSpec)) chestSplitCard

/-- THE TIED CARD OF 'kelirlaw08.ChestClashes'. -/
def chestClashesCard : Claim7 := { stood := { row := chestClashesRow, standIns := [], harness := (true, "4dbe305bd0d2873f321981dc12b66b5286b89dbad057d331d346cb2e19ef5f7b"), looks := true }, kinds := [], alts := [], laidByText := true, laidKinds := [.data, .data, .data, .data, .pinned], laidTests := true, laidLooks := .later }
def ChestClashesCardSaid : Prop := Claim7.holds Tryz.pinned (.plain (OpenSpec.ofChange chestClashesSpec)) chestClashesCard

/-- THE TIED CARD OF 'kelirlaw08.ChestProven'. -/
def chestProvenCard : Claim7 := { stood := { row := chestProvenRow, standIns := [], harness := (true, "4dbe305bd0d2873f321981dc12b66b5286b89dbad057d331d346cb2e19ef5f7b"), looks := true }, kinds := [], alts := [], laidByText := true, laidKinds := [.data, .data, .data, .data, .pinned], laidTests := true, laidLooks := .later }
def ChestProvenCardSaid : Prop := Claim7.holds Tryz.pinned (.plain (OpenSpec.ofChange chestProvenSpec)) chestProvenCard

/-- THE TIED CARD OF 'kelirlaw08.ChestEnough'. -/
def chestEnoughCard : Claim7 := { stood := { row := chestEnoughRow, standIns := [], harness := (true, "4dbe305bd0d2873f321981dc12b66b5286b89dbad057d331d346cb2e19ef5f7b"), looks := true }, kinds := [], alts := [], laidByText := true, laidKinds := [.data, .data, .data, .data, .pinned], laidTests := true, laidLooks := .later }
def ChestEnoughCardSaid : Prop := Claim7.holds Tryz.pinned (.plain (OpenSpec.ofChange chestEnoughSpec)) chestEnoughCard

/-- THE TIED CARD OF 'kelirlaw08.ChestMore'. -/
def chestMoreCard : Claim7 := { stood := { row := chestMoreRow, standIns := [], harness := (true, "4dbe305bd0d2873f321981dc12b66b5286b89dbad057d331d346cb2e19ef5f7b"), looks := true }, kinds := [], alts := [], laidByText := true, laidKinds := [.data, .data, .data, .data, .pinned], laidTests := true, laidLooks := .later }
def ChestMoreCardSaid : Prop := Claim7.holds Tryz.pinned (.plain (OpenSpec.ofChange chestMoreSpec)) chestMoreCard

/-- THE TIED CARD OF 'kelirlaw08.ChestWrongs'. -/
def chestWrongsCard : Claim7 := { stood := { row := chestWrongsRow, standIns := [], harness := (true, "4dbe305bd0d2873f321981dc12b66b5286b89dbad057d331d346cb2e19ef5f7b"), looks := true }, kinds := [], alts := [], laidByText := true, laidKinds := [.data, .data, .data, .data, .pinned], laidTests := true, laidLooks := .later }
def ChestWrongsCardSaid : Prop := Claim7.holds Tryz.pinned (.plain (OpenSpec.ofChange chestWrongsSpec)) chestWrongsCard

/-- THE TIED CARD OF 'kelirlaw08.ChestPrints'. -/
def chestPrintsCard : Claim7 := { stood := { row := chestPrintsRow, standIns := [], harness := (true, "4dbe305bd0d2873f321981dc12b66b5286b89dbad057d331d346cb2e19ef5f7b"), looks := true }, kinds := [], alts := [], laidByText := true, laidKinds := [.data, .data, .data, .data, .pinned], laidTests := true, laidLooks := .later }
def ChestPrintsCardSaid : Prop := Claim7.holds Tryz.pinned (.plain (OpenSpec.ofChange chestPrintsSpec)) chestPrintsCard

/-- THE TIED CARD OF 'kelirlaw08.ChestReads'. -/
def chestReadsCard : Claim7 := { stood := { row := chestReadsRow, standIns := [], harness := (true, "4dbe305bd0d2873f321981dc12b66b5286b89dbad057d331d346cb2e19ef5f7b"), looks := true }, kinds := [], alts := [], laidByText := true, laidKinds := [.data, .data, .data, .data, .pinned], laidTests := true, laidLooks := .later }
def ChestReadsCardSaid : Prop := Claim7.holds Tryz.pinned (.plain (OpenSpec.ofChange chestReadsSpec)) chestReadsCard

/-- THE TIED CARD OF 'kelirlaw08.ChestSpoilt'. -/
def chestSpoiltCard : Claim7 := { stood := { row := chestSpoiltRow, standIns := [], harness := (true, "4dbe305bd0d2873f321981dc12b66b5286b89dbad057d331d346cb2e19ef5f7b"), looks := true }, kinds := [], alts := [], laidByText := true, laidKinds := [.data, .data, .data, .data, .pinned], laidTests := true, laidLooks := .later }
def ChestSpoiltCardSaid : Prop := Claim7.holds Tryz.pinned (.plain (OpenSpec.ofChange chestSpoiltSpec)) chestSpoiltCard

/-- THE SECOND FORM's CARD OF 'kelirlaw08.ChestFaulty'. -/
def chestFaultyUptoCard : Claim7 := { stood := { row := chestFaultyUptoRow, standIns := [], harness := (true, "4dbe305bd0d2873f321981dc12b66b5286b89dbad057d331d346cb2e19ef5f7b"), looks := true }, kinds := [], alts := [], laidByText := true, laidKinds := [.data, .data, .data, .data, .pinned], laidTests := true, laidLooks := .later }
def ChestFaultyUptoCardSaid : Prop := Claim7.holds Tryz.pinned (.plain (OpenSpec.upto chestFaultySpec)) chestFaultyUptoCard

/-- THE SECOND FORM's CARD OF 'kelirlaw08.ChestBests'. -/
def chestBestsUptoCard : Claim7 := { stood := { row := chestBestsUptoRow, standIns := [], harness := (true, "4dbe305bd0d2873f321981dc12b66b5286b89dbad057d331d346cb2e19ef5f7b"), looks := true }, kinds := [], alts := [], laidByText := true, laidKinds := [.data, .data, .data, .data, .pinned], laidTests := true, laidLooks := .later }
def ChestBestsUptoCardSaid : Prop := Claim7.holds Tryz.pinned (.plain (OpenSpec.upto chestBestsSpec)) chestBestsUptoCard

/-- THE SECOND FORM's CARD OF 'kelirlaw08.ChestFewest'. -/
def chestFewestUptoCard : Claim7 := { stood := { row := chestFewestUptoRow, standIns := [], harness := (true, "4dbe305bd0d2873f321981dc12b66b5286b89dbad057d331d346cb2e19ef5f7b"), looks := true }, kinds := [], alts := [], laidByText := true, laidKinds := [.data, .data, .data, .data, .pinned], laidTests := true, laidLooks := .later }
def ChestFewestUptoCardSaid : Prop := Claim7.holds Tryz.pinned (.plain (OpenSpec.upto chestFewestSpec)) chestFewestUptoCard

/-- THE SECOND FORM's CARD OF 'kelirlaw08.ChestKnowns'. -/
def chestKnownsUptoCard : Claim7 := { stood := { row := chestKnownsUptoRow, standIns := [], harness := (true, "4dbe305bd0d2873f321981dc12b66b5286b89dbad057d331d346cb2e19ef5f7b"), looks := true }, kinds := [], alts := [], laidByText := true, laidKinds := [.data, .data, .data, .data, .pinned], laidTests := true, laidLooks := .later }
def ChestKnownsUptoCardSaid : Prop := Claim7.holds Tryz.pinned (.plain (OpenSpec.upto chestKnownsSpec)) chestKnownsUptoCard

/-- THE SECOND FORM's CARD OF 'kelirlaw08.ChestTrue'. -/
def chestTrueUptoCard : Claim7 := { stood := { row := chestTrueUptoRow, standIns := [], harness := (true, "4dbe305bd0d2873f321981dc12b66b5286b89dbad057d331d346cb2e19ef5f7b"), looks := true }, kinds := [], alts := [], laidByText := true, laidKinds := [.data, .data, .data, .data, .pinned], laidTests := true, laidLooks := .later }
def ChestTrueUptoCardSaid : Prop := Claim7.holds Tryz.pinned (.plain (OpenSpec.upto chestTrueSpec)) chestTrueUptoCard

/-- THE SECOND FORM's CARD OF 'kelirlaw08.ChestOuts'. -/
def chestOutsUptoCard : Claim7 := { stood := { row := chestOutsUptoRow, standIns := [], harness := (true, "4dbe305bd0d2873f321981dc12b66b5286b89dbad057d331d346cb2e19ef5f7b"), looks := true }, kinds := [], alts := [], laidByText := true, laidKinds := [.data, .data, .data, .data, .pinned], laidTests := true, laidLooks := .later }
def ChestOutsUptoCardSaid : Prop := Claim7.holds Tryz.pinned (.plain (OpenSpec.upto chestOutsSpec)) chestOutsUptoCard

/-- THE SECOND FORM's CARD OF 'kelirlaw08.ChestAbove'. -/
def chestAboveUptoCard : Claim7 := { stood := { row := chestAboveUptoRow, standIns := [], harness := (true, "4dbe305bd0d2873f321981dc12b66b5286b89dbad057d331d346cb2e19ef5f7b"), looks := true }, kinds := [], alts := [], laidByText := true, laidKinds := [.data, .data, .data, .data, .pinned], laidTests := true, laidLooks := .later }
def ChestAboveUptoCardSaid : Prop := Claim7.holds Tryz.pinned (.plain (OpenSpec.upto chestAboveSpec)) chestAboveUptoCard

/-- THE SECOND FORM's CARD OF 'kelirlaw08.ChestEases'. -/
def chestEasesUptoCard : Claim7 := { stood := { row := chestEasesUptoRow, standIns := [], harness := (true, "4dbe305bd0d2873f321981dc12b66b5286b89dbad057d331d346cb2e19ef5f7b"), looks := true }, kinds := [], alts := [], laidByText := true, laidKinds := [.data, .data, .data, .data, .pinned], laidTests := true, laidLooks := .later }
def ChestEasesUptoCardSaid : Prop := Claim7.holds Tryz.pinned (.plain (OpenSpec.upto chestEasesSpec)) chestEasesUptoCard

/-- THE SECOND FORM's CARD OF 'kelirlaw08.ChestLeast'. -/
def chestLeastUptoCard : Claim7 := { stood := { row := chestLeastUptoRow, standIns := [], harness := (true, "4dbe305bd0d2873f321981dc12b66b5286b89dbad057d331d346cb2e19ef5f7b"), looks := true }, kinds := [], alts := [], laidByText := true, laidKinds := [.data, .data, .data, .data, .pinned], laidTests := true, laidLooks := .later }
def ChestLeastUptoCardSaid : Prop := Claim7.holds Tryz.pinned (.plain (OpenSpec.upto chestLeastSpec)) chestLeastUptoCard

/-- THE SECOND FORM's CARD OF 'kelirlaw08.ChestLaters'. -/
def chestLatersUptoCard : Claim7 := { stood := { row := chestLatersUptoRow, standIns := [], harness := (true, "4dbe305bd0d2873f321981dc12b66b5286b89dbad057d331d346cb2e19ef5f7b"), looks := true }, kinds := [], alts := [], laidByText := true, laidKinds := [.data, .data, .data, .data, .pinned], laidTests := true, laidLooks := .later }
def ChestLatersUptoCardSaid : Prop := Claim7.holds Tryz.pinned (.plain (OpenSpec.upto chestLatersSpec)) chestLatersUptoCard

/-- THE SECOND FORM's CARD OF 'kelirlaw08.ChestMoved'. -/
def chestMovedUptoCard : Claim7 := { stood := { row := chestMovedUptoRow, standIns := [], harness := (true, "4dbe305bd0d2873f321981dc12b66b5286b89dbad057d331d346cb2e19ef5f7b"), looks := true }, kinds := [], alts := [], laidByText := true, laidKinds := [.data, .data, .data, .data, .pinned], laidTests := true, laidLooks := .later }
def ChestMovedUptoCardSaid : Prop := Claim7.holds Tryz.pinned (.plain (OpenSpec.upto chestMovedSpec)) chestMovedUptoCard

/-- THE SECOND FORM's CARD OF 'kelirlaw08.ChestChests'. -/
def chestChestsUptoCard : Claim7 := { stood := { row := chestChestsUptoRow, standIns := [], harness := (true, "4dbe305bd0d2873f321981dc12b66b5286b89dbad057d331d346cb2e19ef5f7b"), looks := true }, kinds := [], alts := [], laidByText := true, laidKinds := [.data, .data, .data, .data, .pinned], laidTests := true, laidLooks := .later }
def ChestChestsUptoCardSaid : Prop := Claim7.holds Tryz.pinned (.plain (OpenSpec.upto chestChestsSpec)) chestChestsUptoCard

/-- THE SECOND FORM's CARD OF 'kelirlaw08.ChestSplit'. -/
def chestSplitUptoCard : Claim7 := { stood := { row := chestSplitUptoRow, standIns := [], harness := (true, "4dbe305bd0d2873f321981dc12b66b5286b89dbad057d331d346cb2e19ef5f7b"), looks := true }, kinds := [], alts := [], laidByText := true, laidKinds := [.data, .data, .data, .data, .pinned], laidTests := true, laidLooks := .later }
def ChestSplitUptoCardSaid : Prop := Claim7.holds Tryz.pinned (.plain (OpenSpec.upto chestSplitSpec)) chestSplitUptoCard

/-- THE SECOND FORM's CARD OF 'kelirlaw08.ChestClashes'. -/
def chestClashesUptoCard : Claim7 := { stood := { row := chestClashesUptoRow, standIns := [], harness := (true, "4dbe305bd0d2873f321981dc12b66b5286b89dbad057d331d346cb2e19ef5f7b"), looks := true }, kinds := [], alts := [], laidByText := true, laidKinds := [.data, .data, .data, .data, .pinned], laidTests := true, laidLooks := .later }
def ChestClashesUptoCardSaid : Prop := Claim7.holds Tryz.pinned (.plain (OpenSpec.upto chestClashesSpec)) chestClashesUptoCard

/-- THE SECOND FORM's CARD OF 'kelirlaw08.ChestProven'. -/
def chestProvenUptoCard : Claim7 := { stood := { row := chestProvenUptoRow, standIns := [], harness := (true, "4dbe305bd0d2873f321981dc12b66b5286b89dbad057d331d346cb2e19ef5f7b"), looks := true }, kinds := [], alts := [], laidByText := true, laidKinds := [.data, .data, .data, .data, .pinned], laidTests := true, laidLooks := .later }
def ChestProvenUptoCardSaid : Prop := Claim7.holds Tryz.pinned (.plain (OpenSpec.upto chestProvenSpec)) chestProvenUptoCard

/-- THE SECOND FORM's CARD OF 'kelirlaw08.ChestEnough'. -/
def chestEnoughUptoCard : Claim7 := { stood := { row := chestEnoughUptoRow, standIns := [], harness := (true, "4dbe305bd0d2873f321981dc12b66b5286b89dbad057d331d346cb2e19ef5f7b"), looks := true }, kinds := [], alts := [], laidByText := true, laidKinds := [.data, .data, .data, .data, .pinned], laidTests := true, laidLooks := .later }
def ChestEnoughUptoCardSaid : Prop := Claim7.holds Tryz.pinned (.plain (OpenSpec.upto chestEnoughSpec)) chestEnoughUptoCard

/-- THE SECOND FORM's CARD OF 'kelirlaw08.ChestMore'. -/
def chestMoreUptoCard : Claim7 := { stood := { row := chestMoreUptoRow, standIns := [], harness := (true, "4dbe305bd0d2873f321981dc12b66b5286b89dbad057d331d346cb2e19ef5f7b"), looks := true }, kinds := [], alts := [], laidByText := true, laidKinds := [.data, .data, .data, .data, .pinned], laidTests := true, laidLooks := .later }
def ChestMoreUptoCardSaid : Prop := Claim7.holds Tryz.pinned (.plain (OpenSpec.upto chestMoreSpec)) chestMoreUptoCard

/-- THE SECOND FORM's CARD OF 'kelirlaw08.ChestWrongs'. -/
def chestWrongsUptoCard : Claim7 := { stood := { row := chestWrongsUptoRow, standIns := [], harness := (true, "4dbe305bd0d2873f321981dc12b66b5286b89dbad057d331d346cb2e19ef5f7b"), looks := true }, kinds := [], alts := [], laidByText := true, laidKinds := [.data, .data, .data, .data, .pinned], laidTests := true, laidLooks := .later }
def ChestWrongsUptoCardSaid : Prop := Claim7.holds Tryz.pinned (.plain (OpenSpec.upto chestWrongsSpec)) chestWrongsUptoCard

/-- THE SECOND FORM's CARD OF 'kelirlaw08.ChestPrints'. -/
def chestPrintsUptoCard : Claim7 := { stood := { row := chestPrintsUptoRow, standIns := [], harness := (true, "4dbe305bd0d2873f321981dc12b66b5286b89dbad057d331d346cb2e19ef5f7b"), looks := true }, kinds := [], alts := [], laidByText := true, laidKinds := [.data, .data, .data, .data, .pinned], laidTests := true, laidLooks := .later }
def ChestPrintsUptoCardSaid : Prop := Claim7.holds Tryz.pinned (.plain (OpenSpec.upto chestPrintsSpec)) chestPrintsUptoCard

/-- THE SECOND FORM's CARD OF 'kelirlaw08.ChestReads'. -/
def chestReadsUptoCard : Claim7 := { stood := { row := chestReadsUptoRow, standIns := [], harness := (true, "4dbe305bd0d2873f321981dc12b66b5286b89dbad057d331d346cb2e19ef5f7b"), looks := true }, kinds := [], alts := [], laidByText := true, laidKinds := [.data, .data, .data, .data, .pinned], laidTests := true, laidLooks := .later }
def ChestReadsUptoCardSaid : Prop := Claim7.holds Tryz.pinned (.plain (OpenSpec.upto chestReadsSpec)) chestReadsUptoCard

/-- THE SECOND FORM's CARD OF 'kelirlaw08.ChestSpoilt'. -/
def chestSpoiltUptoCard : Claim7 := { stood := { row := chestSpoiltUptoRow, standIns := [], harness := (true, "4dbe305bd0d2873f321981dc12b66b5286b89dbad057d331d346cb2e19ef5f7b"), looks := true }, kinds := [], alts := [], laidByText := true, laidKinds := [.data, .data, .data, .data, .pinned], laidTests := true, laidLooks := .later }
def ChestSpoiltUptoCardSaid : Prop := Claim7.holds Tryz.pinned (.plain (OpenSpec.upto chestSpoiltSpec)) chestSpoiltUptoCard
end Rows
end Go.Proofs.YtoeigapilcgelaaGreatDoor
