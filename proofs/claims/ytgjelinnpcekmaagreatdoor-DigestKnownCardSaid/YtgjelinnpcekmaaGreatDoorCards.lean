/-
  DERIVED. GIVEN WITH THE SEED: THE CARDS: each row of YtgjelinnpcekmaaGreatDoorRows.lean that lists a variable, with what it lists TIED to the program's text (the seventh form; the later family's looks); each row that meets fmt, with fmt's text TOLD by the authors' own Lean function (tested against real Go, not proved from fmt's source: count such statements apart). THE CARD IS WHAT COUNTS. Prove the row's statement (the work); the ties are given (YtgjelinnpcekmaaGreatDoorTie.lean); close each card by the builder's one call (the guide's Derived/Test/ToyasCard.lean, 'card_holds'). Laid BY PROGRAM, IN A SANDBOX (cutbox-door.mjs). By AI agents, Wed Nov 11 2026. No macro, syntax, notation, axiom, sorry.
-/
import Derived.Test.YtgjelinnpcekmaaGreatDoorRows
import GoSem.ClaimSeven
namespace Go.Proofs.YtgjelinnpcekmaaGreatDoor
namespace Rows

/-- THE TIED CARD OF 'stratalaw03.DigestKnown'. -/
def digestKnownCard : Claim7 := { stood := { row := digestKnownRow, standIns := [], harness := (true, "763c419a4a3569fd16c7946aacbf8b888f453ebf852237f4ed805b4cbd99e583"), looks := true }, kinds := [], alts := [], laidByText := true, laidKinds := [.data, .data, .data, .widerDeep, .data, .handle, .data], laidTests := true, laidLooks := .later }
def DigestKnownCardSaid : Prop := Claim7.holds Tryz.pinned (.plain (OpenSpec.ofChange digestKnownSpec)) digestKnownCard

/-- THE SECOND FORM's CARD OF 'stratalaw03.DigestKnown'. -/
def digestKnownUptoCard : Claim7 := { stood := { row := digestKnownUptoRow, standIns := [], harness := (true, "763c419a4a3569fd16c7946aacbf8b888f453ebf852237f4ed805b4cbd99e583"), looks := true }, kinds := [], alts := [], laidByText := true, laidKinds := [.data, .data, .data, .widerDeep, .data, .handle, .data], laidTests := true, laidLooks := .later }
def DigestKnownUptoCardSaid : Prop := Claim7.holds Tryz.pinned (.plain (OpenSpec.upto digestKnownSpec)) digestKnownUptoCard
end Rows
end Go.Proofs.YtgjelinnpcekmaaGreatDoor
