/-
  DERIVED. GIVEN WITH THE SEED: THE CARDS: each row of YtlfeddgpfaigkaaGreatDoorRows.lean that lists a variable, with what it lists TIED to the program's text (the seventh form; the later family's looks); each row that meets fmt, with fmt's text TOLD by the authors' own Lean function (tested against real Go, not proved from fmt's source: count such statements apart). THE CARD IS WHAT COUNTS. Prove the row's statement (the work); the ties are given (YtlfeddgpfaigkaaGreatDoorTie.lean); close each card by the builder's one call (the guide's Derived/Test/ToyasCard.lean, 'card_holds'). Laid BY PROGRAM, IN A SANDBOX (cutbox-door.mjs). By AI agents, Wed Nov 11 2026. No macro, syntax, notation, axiom, sorry.
-/
import Derived.Test.YtlfeddgpfaigkaaGreatDoorRows
import GoSem.ClaimSeven
namespace Go.Proofs.YtlfeddgpfaigkaaGreatDoor
namespace Rows

/-- THE TIED CARD OF 'stratalaw04.JsonPrints'. -/
def jsonPrintsCard : Claim7 := { stood := { row := jsonPrintsRow, standIns := [], harness := (true, "2ed6cf63d80b4373e60ca6a0bcd034e91b21e8b2453e7d083e361e2cd87987e5"), looks := true }, kinds := [], alts := [], laidByText := true, laidKinds := [.data, .data, .data, .data, .handle, .sentinel, .sentinel, .pinned], laidTests := true, laidLooks := .later }
def JsonPrintsCardSaid : Prop := Claim7.holds Tryz.pinned (.plain (OpenSpec.ofChange jsonPrintsSpec)) jsonPrintsCard

/-- THE TIED CARD OF 'stratalaw04.JsonParses'. -/
def jsonParsesCard : Claim7 := { stood := { row := jsonParsesRow, standIns := [], harness := (true, "2ed6cf63d80b4373e60ca6a0bcd034e91b21e8b2453e7d083e361e2cd87987e5"), looks := true }, kinds := [], alts := [], laidByText := true, laidKinds := [.data, .data, .data, .data, .handle, .sentinel, .sentinel, .pinned], laidTests := true, laidLooks := .later }
def JsonParsesCardSaid : Prop := Claim7.holds Tryz.pinned (.plain (OpenSpec.ofChange jsonParsesSpec)) jsonParsesCard

/-- THE TIED CARD OF 'stratalaw04.JsonBack'. -/
def jsonBackCard : Claim7 := { stood := { row := jsonBackRow, standIns := [], harness := (true, "2ed6cf63d80b4373e60ca6a0bcd034e91b21e8b2453e7d083e361e2cd87987e5"), looks := true }, kinds := [], alts := [], laidByText := true, laidKinds := [.data, .data, .data, .data, .handle, .sentinel, .sentinel, .pinned], laidTests := true, laidLooks := .later }
def JsonBackCardSaid : Prop := Claim7.holds Tryz.pinned (.plain (OpenSpec.ofChange jsonBackSpec)) jsonBackCard

/-- THE TIED CARD OF 'stratalaw04.JsonForm'. -/
def jsonFormCard : Claim7 := { stood := { row := jsonFormRow, standIns := [], harness := (true, "2ed6cf63d80b4373e60ca6a0bcd034e91b21e8b2453e7d083e361e2cd87987e5"), looks := true }, kinds := [], alts := [], laidByText := true, laidKinds := [.data, .data, .data, .data, .handle, .sentinel, .sentinel, .pinned], laidTests := true, laidLooks := .later }
def JsonFormCardSaid : Prop := Claim7.holds Tryz.pinned (.plain (OpenSpec.ofChange jsonFormSpec)) jsonFormCard

/-- THE TIED CARD OF 'stratalaw04.JsonHeads'. -/
def jsonHeadsCard : Claim7 := { stood := { row := jsonHeadsRow, standIns := [], harness := (true, "2ed6cf63d80b4373e60ca6a0bcd034e91b21e8b2453e7d083e361e2cd87987e5"), looks := true }, kinds := [], alts := [], laidByText := true, laidKinds := [.data, .data, .data, .data, .handle, .sentinel, .sentinel, .pinned], laidTests := true, laidLooks := .later }
def JsonHeadsCardSaid : Prop := Claim7.holds Tryz.pinned (.plain (OpenSpec.ofChange jsonHeadsSpec)) jsonHeadsCard

/-- THE TIED CARD OF 'stratalaw04.JsonKnown'. -/
def jsonKnownCard : Claim7 := { stood := { row := jsonKnownRow, standIns := [], harness := (true, "2ed6cf63d80b4373e60ca6a0bcd034e91b21e8b2453e7d083e361e2cd87987e5"), looks := true }, kinds := [], alts := [], laidByText := true, laidKinds := [.data, .data, .data, .data, .handle, .sentinel, .sentinel, .pinned], laidTests := true, laidLooks := .later }
def JsonKnownCardSaid : Prop := Claim7.holds Tryz.pinned (.plain (OpenSpec.ofChange jsonKnownSpec)) jsonKnownCard

/-- THE SECOND FORM's CARD OF 'stratalaw04.JsonPrints'. -/
def jsonPrintsUptoCard : Claim7 := { stood := { row := jsonPrintsUptoRow, standIns := [], harness := (true, "2ed6cf63d80b4373e60ca6a0bcd034e91b21e8b2453e7d083e361e2cd87987e5"), looks := true }, kinds := [], alts := [], laidByText := true, laidKinds := [.data, .data, .data, .data, .handle, .sentinel, .sentinel, .pinned], laidTests := true, laidLooks := .later }
def JsonPrintsUptoCardSaid : Prop := Claim7.holds Tryz.pinned (.plain (OpenSpec.upto jsonPrintsSpec)) jsonPrintsUptoCard

/-- THE SECOND FORM's CARD OF 'stratalaw04.JsonParses'. -/
def jsonParsesUptoCard : Claim7 := { stood := { row := jsonParsesUptoRow, standIns := [], harness := (true, "2ed6cf63d80b4373e60ca6a0bcd034e91b21e8b2453e7d083e361e2cd87987e5"), looks := true }, kinds := [], alts := [], laidByText := true, laidKinds := [.data, .data, .data, .data, .handle, .sentinel, .sentinel, .pinned], laidTests := true, laidLooks := .later }
def JsonParsesUptoCardSaid : Prop := Claim7.holds Tryz.pinned (.plain (OpenSpec.upto jsonParsesSpec)) jsonParsesUptoCard

/-- THE SECOND FORM's CARD OF 'stratalaw04.JsonBack'. -/
def jsonBackUptoCard : Claim7 := { stood := { row := jsonBackUptoRow, standIns := [], harness := (true, "2ed6cf63d80b4373e60ca6a0bcd034e91b21e8b2453e7d083e361e2cd87987e5"), looks := true }, kinds := [], alts := [], laidByText := true, laidKinds := [.data, .data, .data, .data, .handle, .sentinel, .sentinel, .pinned], laidTests := true, laidLooks := .later }
def JsonBackUptoCardSaid : Prop := Claim7.holds Tryz.pinned (.plain (OpenSpec.upto jsonBackSpec)) jsonBackUptoCard

/-- THE SECOND FORM's CARD OF 'stratalaw04.JsonForm'. -/
def jsonFormUptoCard : Claim7 := { stood := { row := jsonFormUptoRow, standIns := [], harness := (true, "2ed6cf63d80b4373e60ca6a0bcd034e91b21e8b2453e7d083e361e2cd87987e5"), looks := true }, kinds := [], alts := [], laidByText := true, laidKinds := [.data, .data, .data, .data, .handle, .sentinel, .sentinel, .pinned], laidTests := true, laidLooks := .later }
def JsonFormUptoCardSaid : Prop := Claim7.holds Tryz.pinned (.plain (OpenSpec.upto jsonFormSpec)) jsonFormUptoCard

/-- THE SECOND FORM's CARD OF 'stratalaw04.JsonHeads'. -/
def jsonHeadsUptoCard : Claim7 := { stood := { row := jsonHeadsUptoRow, standIns := [], harness := (true, "2ed6cf63d80b4373e60ca6a0bcd034e91b21e8b2453e7d083e361e2cd87987e5"), looks := true }, kinds := [], alts := [], laidByText := true, laidKinds := [.data, .data, .data, .data, .handle, .sentinel, .sentinel, .pinned], laidTests := true, laidLooks := .later }
def JsonHeadsUptoCardSaid : Prop := Claim7.holds Tryz.pinned (.plain (OpenSpec.upto jsonHeadsSpec)) jsonHeadsUptoCard

/-- THE SECOND FORM's CARD OF 'stratalaw04.JsonKnown'. -/
def jsonKnownUptoCard : Claim7 := { stood := { row := jsonKnownUptoRow, standIns := [], harness := (true, "2ed6cf63d80b4373e60ca6a0bcd034e91b21e8b2453e7d083e361e2cd87987e5"), looks := true }, kinds := [], alts := [], laidByText := true, laidKinds := [.data, .data, .data, .data, .handle, .sentinel, .sentinel, .pinned], laidTests := true, laidLooks := .later }
def JsonKnownUptoCardSaid : Prop := Claim7.holds Tryz.pinned (.plain (OpenSpec.upto jsonKnownSpec)) jsonKnownUptoCard
end Rows
end Go.Proofs.YtlfeddgpfaigkaaGreatDoor
