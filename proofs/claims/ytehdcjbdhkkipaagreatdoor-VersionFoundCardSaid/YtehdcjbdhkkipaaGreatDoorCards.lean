/-
  DERIVED. GIVEN WITH THE SEED: THE CARDS: each row of YtehdcjbdhkkipaaGreatDoorRows.lean that lists a variable, with what it lists TIED to the program's text (the seventh form; the later family's looks); each row that meets fmt, with fmt's text TOLD by the authors' own Lean function (tested against real Go, not proved from fmt's source: count such statements apart). THE CARD IS WHAT COUNTS. Prove the row's statement (the work); the ties are given (YtehdcjbdhkkipaaGreatDoorTie.lean); close each card by the builder's one call (the guide's Derived/Test/ToyasCard.lean, 'card_holds'). Laid BY PROGRAM, IN A SANDBOX (cutbox-door.mjs). By AI agents, Wed Nov 11 2026. No macro, syntax, notation, axiom, sorry.
-/
import Derived.Test.YtehdcjbdhkkipaaGreatDoorRows
import GoSem.ClaimSeven
namespace Go.Proofs.YtehdcjbdhkkipaaGreatDoor
namespace Rows

/-- THE TIED CARD OF 'kelirlaw06.VersionFar'. -/
def versionFarCard : Claim7 := { stood := { row := versionFarRow, standIns := [], harness := (true, "fb5e5a295f3424106e054488290b3ed9056994dfd20e5e358b94615fffb8f66f"), looks := true }, kinds := [], alts := [], laidByText := true, laidKinds := [.data, .data, .data, .data, .pinned], laidTests := true, laidLooks := .later }
def VersionFarCardSaid : Prop := Claim7.holds Tryz.pinned (.plain (OpenSpec.ofChange versionFarSpec)) versionFarCard

/-- THE TIED CARD OF 'kelirlaw06.VersionSteps'. -/
def versionStepsCard : Claim7 := { stood := { row := versionStepsRow, standIns := [], harness := (true, "fb5e5a295f3424106e054488290b3ed9056994dfd20e5e358b94615fffb8f66f"), looks := true }, kinds := [], alts := [], laidByText := true, laidKinds := [.data, .data, .data, .data, .pinned], laidTests := true, laidLooks := .later }
def VersionStepsCardSaid : Prop := Claim7.holds Tryz.pinned (.plain (OpenSpec.ofChange versionStepsSpec)) versionStepsCard

/-- THE TIED CARD OF 'kelirlaw06.VersionFewest'. -/
def versionFewestCard : Claim7 := { stood := { row := versionFewestRow, standIns := [], harness := (true, "fb5e5a295f3424106e054488290b3ed9056994dfd20e5e358b94615fffb8f66f"), looks := true }, kinds := [], alts := [], laidByText := true, laidKinds := [.data, .data, .data, .data, .pinned], laidTests := true, laidLooks := .later }
def VersionFewestCardSaid : Prop := Claim7.holds Tryz.pinned (.plain (OpenSpec.ofChange versionFewestSpec)) versionFewestCard

/-- THE TIED CARD OF 'kelirlaw06.VersionBetweens'. -/
def versionBetweensCard : Claim7 := { stood := { row := versionBetweensRow, standIns := [], harness := (true, "fb5e5a295f3424106e054488290b3ed9056994dfd20e5e358b94615fffb8f66f"), looks := true }, kinds := [], alts := [], laidByText := true, laidKinds := [.data, .data, .data, .data, .pinned], laidTests := true, laidLooks := .later }
def VersionBetweensCardSaid : Prop := Claim7.holds Tryz.pinned (.plain (OpenSpec.ofChange versionBetweensSpec)) versionBetweensCard

/-- THE TIED CARD OF 'kelirlaw06.VersionLies'. -/
def versionLiesCard : Claim7 := { stood := { row := versionLiesRow, standIns := [], harness := (true, "fb5e5a295f3424106e054488290b3ed9056994dfd20e5e358b94615fffb8f66f"), looks := true }, kinds := [], alts := [], laidByText := true, laidKinds := [.data, .data, .data, .data, .pinned], laidTests := true, laidLooks := .later }
def VersionLiesCardSaid : Prop := Claim7.holds Tryz.pinned (.plain (OpenSpec.ofChange versionLiesSpec)) versionLiesCard

/-- THE TIED CARD OF 'kelirlaw06.VersionLeasts'. -/
def versionLeastsCard : Claim7 := { stood := { row := versionLeastsRow, standIns := [], harness := (true, "fb5e5a295f3424106e054488290b3ed9056994dfd20e5e358b94615fffb8f66f"), looks := true }, kinds := [], alts := [], laidByText := true, laidKinds := [.data, .data, .data, .data, .pinned], laidTests := true, laidLooks := .later }
def VersionLeastsCardSaid : Prop := Claim7.holds Tryz.pinned (.plain (OpenSpec.ofChange versionLeastsSpec)) versionLeastsCard

/-- THE TIED CARD OF 'kelirlaw06.VersionRival'. -/
def versionRivalCard : Claim7 := { stood := { row := versionRivalRow, standIns := [], harness := (true, "fb5e5a295f3424106e054488290b3ed9056994dfd20e5e358b94615fffb8f66f"), looks := true }, kinds := [], alts := [], laidByText := true, laidKinds := [.data, .data, .data, .data, .pinned], laidTests := true, laidLooks := .later }
def VersionRivalCardSaid : Prop := Claim7.holds Tryz.pinned (.plain (OpenSpec.ofChange versionRivalSpec)) versionRivalCard

/-- THE TIED CARD OF 'kelirlaw06.VersionTexts'. -/
def versionTextsCard : Claim7 := { stood := { row := versionTextsRow, standIns := [], harness := (true, "fb5e5a295f3424106e054488290b3ed9056994dfd20e5e358b94615fffb8f66f"), looks := true }, kinds := [], alts := [], laidByText := true, laidKinds := [.data, .data, .data, .data, .pinned], laidTests := true, laidLooks := .later }
def VersionTextsCardSaid : Prop := Claim7.holds Tryz.pinned (.plain (OpenSpec.ofChange versionTextsSpec)) versionTextsCard

/-- THE TIED CARD OF 'kelirlaw06.VersionAsks'. -/
def versionAsksCard : Claim7 := { stood := { row := versionAsksRow, standIns := [], harness := (true, "fb5e5a295f3424106e054488290b3ed9056994dfd20e5e358b94615fffb8f66f"), looks := true }, kinds := [], alts := [], laidByText := true, laidKinds := [.data, .data, .data, .data, .pinned], laidTests := true, laidLooks := .later }
def VersionAsksCardSaid : Prop := Claim7.holds Tryz.pinned (.plain (OpenSpec.ofChange versionAsksSpec)) versionAsksCard

/-- THE TIED CARD OF 'kelirlaw06.VersionFound'. -/
def versionFoundCard : Claim7 := { stood := { row := versionFoundRow, standIns := [], harness := (true, "fb5e5a295f3424106e054488290b3ed9056994dfd20e5e358b94615fffb8f66f"), looks := true }, kinds := [], alts := [], laidByText := true, laidKinds := [.data, .data, .data, .data, .pinned], laidTests := true, laidLooks := .later }
def VersionFoundCardSaid : Prop := Claim7.holds Tryz.pinned (.plain (OpenSpec.ofChange versionFoundSpec)) versionFoundCard

/-- THE TIED CARD OF 'kelirlaw06.VersionMixes'. -/
def versionMixesCard : Claim7 := { stood := { row := versionMixesRow, standIns := [], harness := (true, "fb5e5a295f3424106e054488290b3ed9056994dfd20e5e358b94615fffb8f66f"), looks := true }, kinds := [], alts := [], laidByText := true, laidKinds := [.data, .data, .data, .data, .pinned], laidTests := true, laidLooks := .later }
def VersionMixesCardSaid : Prop := Claim7.holds Tryz.pinned (.plain (OpenSpec.ofChange versionMixesSpec)) versionMixesCard

/-- THE TIED CARD OF 'kelirlaw06.VersionMade'. -/
def versionMadeCard : Claim7 := { stood := { row := versionMadeRow, standIns := [], harness := (true, "fb5e5a295f3424106e054488290b3ed9056994dfd20e5e358b94615fffb8f66f"), looks := true }, kinds := [], alts := [], laidByText := true, laidKinds := [.data, .data, .data, .data, .pinned], laidTests := true, laidLooks := .later }
def VersionMadeCardSaid : Prop := Claim7.holds Tryz.pinned (.plain (OpenSpec.ofChange versionMadeSpec)) versionMadeCard

/-- THE TIED CARD OF 'kelirlaw06.VersionMore'. -/
def versionMoreCard : Claim7 := { stood := { row := versionMoreRow, standIns := [], harness := (true, "fb5e5a295f3424106e054488290b3ed9056994dfd20e5e358b94615fffb8f66f"), looks := true }, kinds := [], alts := [], laidByText := true, laidKinds := [.data, .data, .data, .data, .pinned], laidTests := true, laidLooks := .later }
def VersionMoreCardSaid : Prop := Claim7.holds Tryz.pinned (.plain (OpenSpec.ofChange versionMoreSpec)) versionMoreCard

/-- THE TIED CARD OF 'kelirlaw06.VersionChanges'. -/
def versionChangesCard : Claim7 := { stood := { row := versionChangesRow, standIns := [], harness := (true, "fb5e5a295f3424106e054488290b3ed9056994dfd20e5e358b94615fffb8f66f"), looks := true }, kinds := [], alts := [], laidByText := true, laidKinds := [.data, .data, .data, .data, .pinned], laidTests := true, laidLooks := .later }
def VersionChangesCardSaid : Prop := Claim7.holds Tryz.pinned (.plain (OpenSpec.ofChange versionChangesSpec)) versionChangesCard

/-- THE TIED CARD OF 'kelirlaw06.VersionTrue'. -/
def versionTrueCard : Claim7 := { stood := { row := versionTrueRow, standIns := [], harness := (true, "fb5e5a295f3424106e054488290b3ed9056994dfd20e5e358b94615fffb8f66f"), looks := true }, kinds := [], alts := [], laidByText := true, laidKinds := [.data, .data, .data, .data, .pinned], laidTests := true, laidLooks := .later }
def VersionTrueCardSaid : Prop := Claim7.holds Tryz.pinned (.plain (OpenSpec.ofChange versionTrueSpec)) versionTrueCard

/-- THE TIED CARD OF 'kelirlaw06.VersionTotals'. -/
def versionTotalsCard : Claim7 := { stood := { row := versionTotalsRow, standIns := [], harness := (true, "fb5e5a295f3424106e054488290b3ed9056994dfd20e5e358b94615fffb8f66f"), looks := true }, kinds := [], alts := [], laidByText := true, laidKinds := [.data, .data, .data, .data, .pinned], laidTests := true, laidLooks := .later }
def VersionTotalsCardSaid : Prop := Claim7.holds Tryz.pinned (.plain (OpenSpec.ofChange versionTotalsSpec)) versionTotalsCard

/-- THE TIED CARD OF 'kelirlaw06.VersionCopied'. -/
def versionCopiedCard : Claim7 := { stood := { row := versionCopiedRow, standIns := [], harness := (true, "fb5e5a295f3424106e054488290b3ed9056994dfd20e5e358b94615fffb8f66f"), looks := true }, kinds := [], alts := [], laidByText := true, laidKinds := [.data, .data, .data, .data, .pinned], laidTests := true, laidLooks := .later }
def VersionCopiedCardSaid : Prop := Claim7.holds Tryz.pinned (.plain (OpenSpec.ofChange versionCopiedSpec)) versionCopiedCard

/-- THE TIED CARD OF 'kelirlaw06.VersionPrints'. -/
def versionPrintsCard : Claim7 := { stood := { row := versionPrintsRow, standIns := [], harness := (true, "fb5e5a295f3424106e054488290b3ed9056994dfd20e5e358b94615fffb8f66f"), looks := true }, kinds := [], alts := [], laidByText := true, laidKinds := [.data, .data, .data, .data, .pinned], laidTests := true, laidLooks := .later }
def VersionPrintsCardSaid : Prop := Claim7.holds Tryz.pinned (.plain (OpenSpec.ofChange versionPrintsSpec)) versionPrintsCard

/-- THE TIED CARD OF 'kelirlaw06.VersionReads'. -/
def versionReadsCard : Claim7 := { stood := { row := versionReadsRow, standIns := [], harness := (true, "fb5e5a295f3424106e054488290b3ed9056994dfd20e5e358b94615fffb8f66f"), looks := true }, kinds := [], alts := [], laidByText := true, laidKinds := [.data, .data, .data, .data, .pinned], laidTests := true, laidLooks := .later }
def VersionReadsCardSaid : Prop := Claim7.holds Tryz.pinned (.plain (OpenSpec.ofChange versionReadsSpec)) versionReadsCard

/-- THE TIED CARD OF 'kelirlaw06.VersionSpoilt'. -/
def versionSpoiltCard : Claim7 := { stood := { row := versionSpoiltRow, standIns := [], harness := (true, "fb5e5a295f3424106e054488290b3ed9056994dfd20e5e358b94615fffb8f66f"), looks := true }, kinds := [], alts := [], laidByText := true, laidKinds := [.data, .data, .data, .data, .pinned], laidTests := true, laidLooks := .later }
def VersionSpoiltCardSaid : Prop := Claim7.holds Tryz.pinned (.plain (OpenSpec.ofChange versionSpoiltSpec)) versionSpoiltCard

/-- THE SECOND FORM's CARD OF 'kelirlaw06.VersionFar'. -/
def versionFarUptoCard : Claim7 := { stood := { row := versionFarUptoRow, standIns := [], harness := (true, "fb5e5a295f3424106e054488290b3ed9056994dfd20e5e358b94615fffb8f66f"), looks := true }, kinds := [], alts := [], laidByText := true, laidKinds := [.data, .data, .data, .data, .pinned], laidTests := true, laidLooks := .later }
def VersionFarUptoCardSaid : Prop := Claim7.holds Tryz.pinned (.plain (OpenSpec.upto versionFarSpec)) versionFarUptoCard

/-- THE SECOND FORM's CARD OF 'kelirlaw06.VersionSteps'. -/
def versionStepsUptoCard : Claim7 := { stood := { row := versionStepsUptoRow, standIns := [], harness := (true, "fb5e5a295f3424106e054488290b3ed9056994dfd20e5e358b94615fffb8f66f"), looks := true }, kinds := [], alts := [], laidByText := true, laidKinds := [.data, .data, .data, .data, .pinned], laidTests := true, laidLooks := .later }
def VersionStepsUptoCardSaid : Prop := Claim7.holds Tryz.pinned (.plain (OpenSpec.upto versionStepsSpec)) versionStepsUptoCard

/-- THE SECOND FORM's CARD OF 'kelirlaw06.VersionFewest'. -/
def versionFewestUptoCard : Claim7 := { stood := { row := versionFewestUptoRow, standIns := [], harness := (true, "fb5e5a295f3424106e054488290b3ed9056994dfd20e5e358b94615fffb8f66f"), looks := true }, kinds := [], alts := [], laidByText := true, laidKinds := [.data, .data, .data, .data, .pinned], laidTests := true, laidLooks := .later }
def VersionFewestUptoCardSaid : Prop := Claim7.holds Tryz.pinned (.plain (OpenSpec.upto versionFewestSpec)) versionFewestUptoCard

/-- THE SECOND FORM's CARD OF 'kelirlaw06.VersionBetweens'. -/
def versionBetweensUptoCard : Claim7 := { stood := { row := versionBetweensUptoRow, standIns := [], harness := (true, "fb5e5a295f3424106e054488290b3ed9056994dfd20e5e358b94615fffb8f66f"), looks := true }, kinds := [], alts := [], laidByText := true, laidKinds := [.data, .data, .data, .data, .pinned], laidTests := true, laidLooks := .later }
def VersionBetweensUptoCardSaid : Prop := Claim7.holds Tryz.pinned (.plain (OpenSpec.upto versionBetweensSpec)) versionBetweensUptoCard

/-- THE SECOND FORM's CARD OF 'kelirlaw06.VersionLies'. -/
def versionLiesUptoCard : Claim7 := { stood := { row := versionLiesUptoRow, standIns := [], harness := (true, "fb5e5a295f3424106e054488290b3ed9056994dfd20e5e358b94615fffb8f66f"), looks := true }, kinds := [], alts := [], laidByText := true, laidKinds := [.data, .data, .data, .data, .pinned], laidTests := true, laidLooks := .later }
def VersionLiesUptoCardSaid : Prop := Claim7.holds Tryz.pinned (.plain (OpenSpec.upto versionLiesSpec)) versionLiesUptoCard

/-- THE SECOND FORM's CARD OF 'kelirlaw06.VersionLeasts'. -/
def versionLeastsUptoCard : Claim7 := { stood := { row := versionLeastsUptoRow, standIns := [], harness := (true, "fb5e5a295f3424106e054488290b3ed9056994dfd20e5e358b94615fffb8f66f"), looks := true }, kinds := [], alts := [], laidByText := true, laidKinds := [.data, .data, .data, .data, .pinned], laidTests := true, laidLooks := .later }
def VersionLeastsUptoCardSaid : Prop := Claim7.holds Tryz.pinned (.plain (OpenSpec.upto versionLeastsSpec)) versionLeastsUptoCard

/-- THE SECOND FORM's CARD OF 'kelirlaw06.VersionRival'. -/
def versionRivalUptoCard : Claim7 := { stood := { row := versionRivalUptoRow, standIns := [], harness := (true, "fb5e5a295f3424106e054488290b3ed9056994dfd20e5e358b94615fffb8f66f"), looks := true }, kinds := [], alts := [], laidByText := true, laidKinds := [.data, .data, .data, .data, .pinned], laidTests := true, laidLooks := .later }
def VersionRivalUptoCardSaid : Prop := Claim7.holds Tryz.pinned (.plain (OpenSpec.upto versionRivalSpec)) versionRivalUptoCard

/-- THE SECOND FORM's CARD OF 'kelirlaw06.VersionTexts'. -/
def versionTextsUptoCard : Claim7 := { stood := { row := versionTextsUptoRow, standIns := [], harness := (true, "fb5e5a295f3424106e054488290b3ed9056994dfd20e5e358b94615fffb8f66f"), looks := true }, kinds := [], alts := [], laidByText := true, laidKinds := [.data, .data, .data, .data, .pinned], laidTests := true, laidLooks := .later }
def VersionTextsUptoCardSaid : Prop := Claim7.holds Tryz.pinned (.plain (OpenSpec.upto versionTextsSpec)) versionTextsUptoCard

/-- THE SECOND FORM's CARD OF 'kelirlaw06.VersionAsks'. -/
def versionAsksUptoCard : Claim7 := { stood := { row := versionAsksUptoRow, standIns := [], harness := (true, "fb5e5a295f3424106e054488290b3ed9056994dfd20e5e358b94615fffb8f66f"), looks := true }, kinds := [], alts := [], laidByText := true, laidKinds := [.data, .data, .data, .data, .pinned], laidTests := true, laidLooks := .later }
def VersionAsksUptoCardSaid : Prop := Claim7.holds Tryz.pinned (.plain (OpenSpec.upto versionAsksSpec)) versionAsksUptoCard

/-- THE SECOND FORM's CARD OF 'kelirlaw06.VersionFound'. -/
def versionFoundUptoCard : Claim7 := { stood := { row := versionFoundUptoRow, standIns := [], harness := (true, "fb5e5a295f3424106e054488290b3ed9056994dfd20e5e358b94615fffb8f66f"), looks := true }, kinds := [], alts := [], laidByText := true, laidKinds := [.data, .data, .data, .data, .pinned], laidTests := true, laidLooks := .later }
def VersionFoundUptoCardSaid : Prop := Claim7.holds Tryz.pinned (.plain (OpenSpec.upto versionFoundSpec)) versionFoundUptoCard

/-- THE SECOND FORM's CARD OF 'kelirlaw06.VersionMixes'. -/
def versionMixesUptoCard : Claim7 := { stood := { row := versionMixesUptoRow, standIns := [], harness := (true, "fb5e5a295f3424106e054488290b3ed9056994dfd20e5e358b94615fffb8f66f"), looks := true }, kinds := [], alts := [], laidByText := true, laidKinds := [.data, .data, .data, .data, .pinned], laidTests := true, laidLooks := .later }
def VersionMixesUptoCardSaid : Prop := Claim7.holds Tryz.pinned (.plain (OpenSpec.upto versionMixesSpec)) versionMixesUptoCard

/-- THE SECOND FORM's CARD OF 'kelirlaw06.VersionMade'. -/
def versionMadeUptoCard : Claim7 := { stood := { row := versionMadeUptoRow, standIns := [], harness := (true, "fb5e5a295f3424106e054488290b3ed9056994dfd20e5e358b94615fffb8f66f"), looks := true }, kinds := [], alts := [], laidByText := true, laidKinds := [.data, .data, .data, .data, .pinned], laidTests := true, laidLooks := .later }
def VersionMadeUptoCardSaid : Prop := Claim7.holds Tryz.pinned (.plain (OpenSpec.upto versionMadeSpec)) versionMadeUptoCard

/-- THE SECOND FORM's CARD OF 'kelirlaw06.VersionMore'. -/
def versionMoreUptoCard : Claim7 := { stood := { row := versionMoreUptoRow, standIns := [], harness := (true, "fb5e5a295f3424106e054488290b3ed9056994dfd20e5e358b94615fffb8f66f"), looks := true }, kinds := [], alts := [], laidByText := true, laidKinds := [.data, .data, .data, .data, .pinned], laidTests := true, laidLooks := .later }
def VersionMoreUptoCardSaid : Prop := Claim7.holds Tryz.pinned (.plain (OpenSpec.upto versionMoreSpec)) versionMoreUptoCard

/-- THE SECOND FORM's CARD OF 'kelirlaw06.VersionChanges'. -/
def versionChangesUptoCard : Claim7 := { stood := { row := versionChangesUptoRow, standIns := [], harness := (true, "fb5e5a295f3424106e054488290b3ed9056994dfd20e5e358b94615fffb8f66f"), looks := true }, kinds := [], alts := [], laidByText := true, laidKinds := [.data, .data, .data, .data, .pinned], laidTests := true, laidLooks := .later }
def VersionChangesUptoCardSaid : Prop := Claim7.holds Tryz.pinned (.plain (OpenSpec.upto versionChangesSpec)) versionChangesUptoCard

/-- THE SECOND FORM's CARD OF 'kelirlaw06.VersionTrue'. -/
def versionTrueUptoCard : Claim7 := { stood := { row := versionTrueUptoRow, standIns := [], harness := (true, "fb5e5a295f3424106e054488290b3ed9056994dfd20e5e358b94615fffb8f66f"), looks := true }, kinds := [], alts := [], laidByText := true, laidKinds := [.data, .data, .data, .data, .pinned], laidTests := true, laidLooks := .later }
def VersionTrueUptoCardSaid : Prop := Claim7.holds Tryz.pinned (.plain (OpenSpec.upto versionTrueSpec)) versionTrueUptoCard

/-- THE SECOND FORM's CARD OF 'kelirlaw06.VersionTotals'. -/
def versionTotalsUptoCard : Claim7 := { stood := { row := versionTotalsUptoRow, standIns := [], harness := (true, "fb5e5a295f3424106e054488290b3ed9056994dfd20e5e358b94615fffb8f66f"), looks := true }, kinds := [], alts := [], laidByText := true, laidKinds := [.data, .data, .data, .data, .pinned], laidTests := true, laidLooks := .later }
def VersionTotalsUptoCardSaid : Prop := Claim7.holds Tryz.pinned (.plain (OpenSpec.upto versionTotalsSpec)) versionTotalsUptoCard

/-- THE SECOND FORM's CARD OF 'kelirlaw06.VersionCopied'. -/
def versionCopiedUptoCard : Claim7 := { stood := { row := versionCopiedUptoRow, standIns := [], harness := (true, "fb5e5a295f3424106e054488290b3ed9056994dfd20e5e358b94615fffb8f66f"), looks := true }, kinds := [], alts := [], laidByText := true, laidKinds := [.data, .data, .data, .data, .pinned], laidTests := true, laidLooks := .later }
def VersionCopiedUptoCardSaid : Prop := Claim7.holds Tryz.pinned (.plain (OpenSpec.upto versionCopiedSpec)) versionCopiedUptoCard

/-- THE SECOND FORM's CARD OF 'kelirlaw06.VersionPrints'. -/
def versionPrintsUptoCard : Claim7 := { stood := { row := versionPrintsUptoRow, standIns := [], harness := (true, "fb5e5a295f3424106e054488290b3ed9056994dfd20e5e358b94615fffb8f66f"), looks := true }, kinds := [], alts := [], laidByText := true, laidKinds := [.data, .data, .data, .data, .pinned], laidTests := true, laidLooks := .later }
def VersionPrintsUptoCardSaid : Prop := Claim7.holds Tryz.pinned (.plain (OpenSpec.upto versionPrintsSpec)) versionPrintsUptoCard

/-- THE SECOND FORM's CARD OF 'kelirlaw06.VersionReads'. -/
def versionReadsUptoCard : Claim7 := { stood := { row := versionReadsUptoRow, standIns := [], harness := (true, "fb5e5a295f3424106e054488290b3ed9056994dfd20e5e358b94615fffb8f66f"), looks := true }, kinds := [], alts := [], laidByText := true, laidKinds := [.data, .data, .data, .data, .pinned], laidTests := true, laidLooks := .later }
def VersionReadsUptoCardSaid : Prop := Claim7.holds Tryz.pinned (.plain (OpenSpec.upto versionReadsSpec)) versionReadsUptoCard

/-- THE SECOND FORM's CARD OF 'kelirlaw06.VersionSpoilt'. -/
def versionSpoiltUptoCard : Claim7 := { stood := { row := versionSpoiltUptoRow, standIns := [], harness := (true, "fb5e5a295f3424106e054488290b3ed9056994dfd20e5e358b94615fffb8f66f"), looks := true }, kinds := [], alts := [], laidByText := true, laidKinds := [.data, .data, .data, .data, .pinned], laidTests := true, laidLooks := .later }
def VersionSpoiltUptoCardSaid : Prop := Claim7.holds Tryz.pinned (.plain (OpenSpec.upto versionSpoiltSpec)) versionSpoiltUptoCard
end Rows
end Go.Proofs.YtehdcjbdhkkipaaGreatDoor
