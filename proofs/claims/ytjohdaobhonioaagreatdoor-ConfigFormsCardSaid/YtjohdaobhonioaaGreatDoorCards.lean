/-
  DERIVED. GIVEN WITH THE SEED: THE CARDS: each row of YtjohdaobhonioaaGreatDoorRows.lean that lists a variable, with what it lists TIED to the program's text (the seventh form; the later family's looks); each row that meets fmt, with fmt's text TOLD by the authors' own Lean function (tested against real Go, not proved from fmt's source: count such statements apart). THE CARD IS WHAT COUNTS. Prove the row's statement (the work); the ties are given (YtjohdaobhonioaaGreatDoorTie.lean); close each card by the builder's one call (the guide's Derived/Test/ToyasCard.lean, 'card_holds'). Laid BY PROGRAM, IN A SANDBOX (cutbox-door.mjs). By AI agents, Wed Nov 11 2026. No macro, syntax, notation, axiom, sorry.
-/
import Derived.Test.YtjohdaobhonioaaGreatDoorRows
import GoSem.ClaimSeven
namespace Go.Proofs.YtjohdaobhonioaaGreatDoor
namespace Rows

/-- THE TIED CARD OF 'stratalaw21.ConfigBack'. -/
def configBackCard : Claim7 := { stood := { row := configBackRow, standIns := [], harness := (true, "e28ac61719a67bebc4c3e3285f038af0c7945a831c18c41a237959b9d21ea68f"), looks := true }, kinds := [], alts := [], laidByText := true, laidKinds := [.data, .data, .data, .data, .sentinel, .sentinel, .pinned], laidTests := true, laidLooks := .later }
def ConfigBackCardSaid : Prop := Claim7.holds Tryz.pinned (.plain (OpenSpec.ofChange configBackSpec)) configBackCard

/-- THE TIED CARD OF 'stratalaw21.ConfigBackManifests'. -/
def configBackManifestsCard : Claim7 := { stood := { row := configBackManifestsRow, standIns := [], harness := (true, "e28ac61719a67bebc4c3e3285f038af0c7945a831c18c41a237959b9d21ea68f"), looks := true }, kinds := [], alts := [], laidByText := true, laidKinds := [.data, .data, .data, .data, .sentinel, .sentinel, .pinned], laidTests := true, laidLooks := .later }
def ConfigBackManifestsCardSaid : Prop := Claim7.holds Tryz.pinned (.plain (OpenSpec.ofChange configBackManifestsSpec)) configBackManifestsCard

/-- THE TIED CARD OF 'stratalaw21.ConfigForms'. -/
def configFormsCard : Claim7 := { stood := { row := configFormsRow, standIns := [], harness := (true, "e28ac61719a67bebc4c3e3285f038af0c7945a831c18c41a237959b9d21ea68f"), looks := true }, kinds := [], alts := [], laidByText := true, laidKinds := [.data, .data, .data, .data, .sentinel, .sentinel, .pinned], laidTests := true, laidLooks := .later }
def ConfigFormsCardSaid : Prop := Claim7.holds Tryz.pinned (.plain (OpenSpec.ofChange configFormsSpec)) configFormsCard

/-- THE TIED CARD OF 'stratalaw21.ConfigImages'. -/
def configImagesCard : Claim7 := { stood := { row := configImagesRow, standIns := [], harness := (true, "e28ac61719a67bebc4c3e3285f038af0c7945a831c18c41a237959b9d21ea68f"), looks := true }, kinds := [], alts := [], laidByText := true, laidKinds := [.data, .data, .data, .data, .handle, .sentinel, .sentinel, .pinned], laidTests := true, laidLooks := .later }
def ConfigImagesCardSaid : Prop := Claim7.holds Tryz.pinned (.plain (OpenSpec.ofChange configImagesSpec)) configImagesCard

/-- THE TIED CARD OF 'stratalaw21.ConfigReads'. -/
def configReadsCard : Claim7 := { stood := { row := configReadsRow, standIns := [], harness := (true, "e28ac61719a67bebc4c3e3285f038af0c7945a831c18c41a237959b9d21ea68f"), looks := true }, kinds := [], alts := [], laidByText := true, laidKinds := [.data, .data, .data, .data, .handle, .sentinel, .sentinel, .pinned], laidTests := true, laidLooks := .later }
def ConfigReadsCardSaid : Prop := Claim7.holds Tryz.pinned (.plain (OpenSpec.ofChange configReadsSpec)) configReadsCard

/-- THE TIED CARD OF 'stratalaw21.ConfigManifests'. -/
def configManifestsCard : Claim7 := { stood := { row := configManifestsRow, standIns := [], harness := (true, "e28ac61719a67bebc4c3e3285f038af0c7945a831c18c41a237959b9d21ea68f"), looks := true }, kinds := [], alts := [], laidByText := true, laidKinds := [.data, .data, .data, .data, .handle, .sentinel, .sentinel, .pinned], laidTests := true, laidLooks := .later }
def ConfigManifestsCardSaid : Prop := Claim7.holds Tryz.pinned (.plain (OpenSpec.ofChange configManifestsSpec)) configManifestsCard

/-- THE TIED CARD OF 'stratalaw21.ConfigReadsManifests'. -/
def configReadsManifestsCard : Claim7 := { stood := { row := configReadsManifestsRow, standIns := [], harness := (true, "e28ac61719a67bebc4c3e3285f038af0c7945a831c18c41a237959b9d21ea68f"), looks := true }, kinds := [], alts := [], laidByText := true, laidKinds := [.data, .data, .data, .data, .handle, .sentinel, .sentinel, .pinned], laidTests := true, laidLooks := .later }
def ConfigReadsManifestsCardSaid : Prop := Claim7.holds Tryz.pinned (.plain (OpenSpec.ofChange configReadsManifestsSpec)) configReadsManifestsCard

/-- THE TIED CARD OF 'stratalaw21.ConfigKnown'. -/
def configKnownCard : Claim7 := { stood := { row := configKnownRow, standIns := [], harness := (true, "e28ac61719a67bebc4c3e3285f038af0c7945a831c18c41a237959b9d21ea68f"), looks := true }, kinds := [], alts := [], laidByText := true, laidKinds := [.data, .data, .data, .widerDeep, .data, .data, .handle, .sentinel, .sentinel, .pinned], laidTests := true, laidLooks := .later }
def ConfigKnownCardSaid : Prop := Claim7.holds Tryz.pinned (.plain (OpenSpec.ofChange configKnownSpec)) configKnownCard

/-- THE SECOND FORM's CARD OF 'stratalaw21.ConfigBack'. -/
def configBackUptoCard : Claim7 := { stood := { row := configBackUptoRow, standIns := [], harness := (true, "e28ac61719a67bebc4c3e3285f038af0c7945a831c18c41a237959b9d21ea68f"), looks := true }, kinds := [], alts := [], laidByText := true, laidKinds := [.data, .data, .data, .data, .sentinel, .sentinel, .pinned], laidTests := true, laidLooks := .later }
def ConfigBackUptoCardSaid : Prop := Claim7.holds Tryz.pinned (.plain (OpenSpec.upto configBackSpec)) configBackUptoCard

/-- THE SECOND FORM's CARD OF 'stratalaw21.ConfigBackManifests'. -/
def configBackManifestsUptoCard : Claim7 := { stood := { row := configBackManifestsUptoRow, standIns := [], harness := (true, "e28ac61719a67bebc4c3e3285f038af0c7945a831c18c41a237959b9d21ea68f"), looks := true }, kinds := [], alts := [], laidByText := true, laidKinds := [.data, .data, .data, .data, .sentinel, .sentinel, .pinned], laidTests := true, laidLooks := .later }
def ConfigBackManifestsUptoCardSaid : Prop := Claim7.holds Tryz.pinned (.plain (OpenSpec.upto configBackManifestsSpec)) configBackManifestsUptoCard

/-- THE SECOND FORM's CARD OF 'stratalaw21.ConfigForms'. -/
def configFormsUptoCard : Claim7 := { stood := { row := configFormsUptoRow, standIns := [], harness := (true, "e28ac61719a67bebc4c3e3285f038af0c7945a831c18c41a237959b9d21ea68f"), looks := true }, kinds := [], alts := [], laidByText := true, laidKinds := [.data, .data, .data, .data, .sentinel, .sentinel, .pinned], laidTests := true, laidLooks := .later }
def ConfigFormsUptoCardSaid : Prop := Claim7.holds Tryz.pinned (.plain (OpenSpec.upto configFormsSpec)) configFormsUptoCard

/-- THE SECOND FORM's CARD OF 'stratalaw21.ConfigImages'. -/
def configImagesUptoCard : Claim7 := { stood := { row := configImagesUptoRow, standIns := [], harness := (true, "e28ac61719a67bebc4c3e3285f038af0c7945a831c18c41a237959b9d21ea68f"), looks := true }, kinds := [], alts := [], laidByText := true, laidKinds := [.data, .data, .data, .data, .handle, .sentinel, .sentinel, .pinned], laidTests := true, laidLooks := .later }
def ConfigImagesUptoCardSaid : Prop := Claim7.holds Tryz.pinned (.plain (OpenSpec.upto configImagesSpec)) configImagesUptoCard

/-- THE SECOND FORM's CARD OF 'stratalaw21.ConfigReads'. -/
def configReadsUptoCard : Claim7 := { stood := { row := configReadsUptoRow, standIns := [], harness := (true, "e28ac61719a67bebc4c3e3285f038af0c7945a831c18c41a237959b9d21ea68f"), looks := true }, kinds := [], alts := [], laidByText := true, laidKinds := [.data, .data, .data, .data, .handle, .sentinel, .sentinel, .pinned], laidTests := true, laidLooks := .later }
def ConfigReadsUptoCardSaid : Prop := Claim7.holds Tryz.pinned (.plain (OpenSpec.upto configReadsSpec)) configReadsUptoCard

/-- THE SECOND FORM's CARD OF 'stratalaw21.ConfigManifests'. -/
def configManifestsUptoCard : Claim7 := { stood := { row := configManifestsUptoRow, standIns := [], harness := (true, "e28ac61719a67bebc4c3e3285f038af0c7945a831c18c41a237959b9d21ea68f"), looks := true }, kinds := [], alts := [], laidByText := true, laidKinds := [.data, .data, .data, .data, .handle, .sentinel, .sentinel, .pinned], laidTests := true, laidLooks := .later }
def ConfigManifestsUptoCardSaid : Prop := Claim7.holds Tryz.pinned (.plain (OpenSpec.upto configManifestsSpec)) configManifestsUptoCard

/-- THE SECOND FORM's CARD OF 'stratalaw21.ConfigReadsManifests'. -/
def configReadsManifestsUptoCard : Claim7 := { stood := { row := configReadsManifestsUptoRow, standIns := [], harness := (true, "e28ac61719a67bebc4c3e3285f038af0c7945a831c18c41a237959b9d21ea68f"), looks := true }, kinds := [], alts := [], laidByText := true, laidKinds := [.data, .data, .data, .data, .handle, .sentinel, .sentinel, .pinned], laidTests := true, laidLooks := .later }
def ConfigReadsManifestsUptoCardSaid : Prop := Claim7.holds Tryz.pinned (.plain (OpenSpec.upto configReadsManifestsSpec)) configReadsManifestsUptoCard

/-- THE SECOND FORM's CARD OF 'stratalaw21.ConfigKnown'. -/
def configKnownUptoCard : Claim7 := { stood := { row := configKnownUptoRow, standIns := [], harness := (true, "e28ac61719a67bebc4c3e3285f038af0c7945a831c18c41a237959b9d21ea68f"), looks := true }, kinds := [], alts := [], laidByText := true, laidKinds := [.data, .data, .data, .widerDeep, .data, .data, .handle, .sentinel, .sentinel, .pinned], laidTests := true, laidLooks := .later }
def ConfigKnownUptoCardSaid : Prop := Claim7.holds Tryz.pinned (.plain (OpenSpec.upto configKnownSpec)) configKnownUptoCard
end Rows
end Go.Proofs.YtjohdaobhonioaaGreatDoor
