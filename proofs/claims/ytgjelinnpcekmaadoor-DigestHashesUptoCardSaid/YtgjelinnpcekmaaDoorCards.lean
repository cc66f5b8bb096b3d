/-
  DERIVED. GIVEN WITH THE SEED: THE CARDS: each row of YtgjelinnpcekmaaDoorRows.lean that lists a variable, with what it lists TIED to the program's text (the seventh form; the later family's looks); each row that meets fmt, with fmt's text TOLD by the authors' own Lean function (tested against real Go, not proved from fmt's source: count such statements apart). THE CARD IS WHAT COUNTS. Prove the row's statement (the work); the ties are given (YtgjelinnpcekmaaDoorTie.lean); close each card by the builder's one call (the guide's Derived/Test/ToyasCard.lean, 'card_holds'). Laid BY PROGRAM, IN A SANDBOX (cutbox-door.mjs). By AI agents, Wed Nov 11 2026. No macro, syntax, notation, axiom, sorry.
-/
import Derived.Test.YtgjelinnpcekmaaDoorRows
import GoSem.ClaimSeven
namespace Go.Proofs.YtgjelinnpcekmaaDoor
namespace Rows

/-- THE TIED CARD OF 'stratalaw03.DigestBack'. -/
def digestBackCard : Claim7 := { stood := { row := digestBackRow, standIns := [], harness := (true, "f60c45e33363b70b7d713900175c7efa681d34bfcd8cde02e4c6218a7a2e80cc"), looks := true }, kinds := [], alts := [], laidByText := true, laidKinds := [.data, .data, .data], laidTests := true, laidLooks := .later }
def DigestBackCardSaid : Prop := Claim7.holds Tryd.pinned (.plain (OpenSpec.ofChange digestBackSpec)) digestBackCard

/-- THE TIED CARD OF 'stratalaw03.DigestSums'. -/
def digestSumsCard : Claim7 := { stood := { row := digestSumsRow, standIns := [], harness := (true, "f60c45e33363b70b7d713900175c7efa681d34bfcd8cde02e4c6218a7a2e80cc"), looks := true }, kinds := [], alts := [], laidByText := true, laidKinds := [.data, .data, .data, .widerDeep, .data, .data], laidTests := true, laidLooks := .later }
def DigestSumsCardSaid : Prop := Claim7.holds Tryd.pinned (.plain (OpenSpec.ofChange digestSumsSpec)) digestSumsCard

/-- THE TIED CARD OF 'stratalaw03.DigestHashes'. -/
def digestHashesCard : Claim7 := { stood := { row := digestHashesRow, standIns := [], harness := (true, "f60c45e33363b70b7d713900175c7efa681d34bfcd8cde02e4c6218a7a2e80cc"), looks := true }, kinds := [], alts := [], laidByText := true, laidKinds := [.data, .data, .data, .widerDeep, .data, .data], laidTests := true, laidLooks := .later }
def DigestHashesCardSaid : Prop := Claim7.holds Tryd.pinned (.plain (OpenSpec.ofChange digestHashesSpec)) digestHashesCard

/-- THE TIED CARD OF 'stratalaw03.DigestLays'. -/
def digestLaysCard : Claim7 := { stood := { row := digestLaysRow, standIns := [], harness := (true, "f60c45e33363b70b7d713900175c7efa681d34bfcd8cde02e4c6218a7a2e80cc"), looks := true }, kinds := [], alts := [], laidByText := true, laidKinds := [.data, .data, .data, .data], laidTests := true, laidLooks := .later }
def DigestLaysCardSaid : Prop := Claim7.holds Tryd.pinned (.plain (OpenSpec.ofChange digestLaysSpec)) digestLaysCard

/-- THE TIED CARD OF 'stratalaw03.DigestWidths'. -/
def digestWidthsCard : Claim7 := { stood := { row := digestWidthsRow, standIns := [], harness := (true, "f60c45e33363b70b7d713900175c7efa681d34bfcd8cde02e4c6218a7a2e80cc"), looks := true }, kinds := [], alts := [], laidByText := true, laidKinds := [.data, .data, .data, .data], laidTests := true, laidLooks := .later }
def DigestWidthsCardSaid : Prop := Claim7.holds Tryd.pinned (.plain (OpenSpec.ofChange digestWidthsSpec)) digestWidthsCard

/-- THE TIED CARD OF 'stratalaw03.DigestParted'. -/
def digestPartedCard : Claim7 := { stood := { row := digestPartedRow, standIns := [], harness := (true, "f60c45e33363b70b7d713900175c7efa681d34bfcd8cde02e4c6218a7a2e80cc"), looks := true }, kinds := [], alts := [], laidByText := true, laidKinds := [.data, .data, .data, .data], laidTests := true, laidLooks := .later }
def DigestPartedCardSaid : Prop := Claim7.holds Tryd.pinned (.plain (OpenSpec.ofChange digestPartedSpec)) digestPartedCard

/-- THE TIED CARD OF 'stratalaw03.DigestClashes'. -/
def digestClashesCard : Claim7 := { stood := { row := digestClashesRow, standIns := [], harness := (true, "f60c45e33363b70b7d713900175c7efa681d34bfcd8cde02e4c6218a7a2e80cc"), looks := true }, kinds := [], alts := [], laidByText := true, laidKinds := [.data, .data, .data, .widerDeep, .data, .data], laidTests := true, laidLooks := .later }
def DigestClashesCardSaid : Prop := Claim7.holds Tryd.pinned (.plain (OpenSpec.ofChange digestClashesSpec)) digestClashesCard

/-- THE TIED CARD OF 'stratalaw03.DigestCuts'. -/
def digestCutsCard : Claim7 := { stood := { row := digestCutsRow, standIns := [], harness := (true, "f60c45e33363b70b7d713900175c7efa681d34bfcd8cde02e4c6218a7a2e80cc"), looks := true }, kinds := [], alts := [], laidByText := true, laidKinds := [.data, .data, .data, .handle, .data], laidTests := true, laidLooks := .later }
def DigestCutsCardSaid : Prop := Claim7.holds Tryd.pinned (.plain (OpenSpec.ofChange digestCutsSpec)) digestCutsCard

/-- THE TIED CARD OF 'stratalaw03.DigestPlaces'. -/
def digestPlacesCard : Claim7 := { stood := { row := digestPlacesRow, standIns := [], harness := (true, "f60c45e33363b70b7d713900175c7efa681d34bfcd8cde02e4c6218a7a2e80cc"), looks := true }, kinds := [], alts := [], laidByText := true, laidKinds := [.data, .data, .data, .handle, .data], laidTests := true, laidLooks := .later }
def DigestPlacesCardSaid : Prop := Claim7.holds Tryd.pinned (.plain (OpenSpec.ofChange digestPlacesSpec)) digestPlacesCard

/-- THE TIED CARD OF 'stratalaw03.DigestParses'. -/
def digestParsesCard : Claim7 := { stood := { row := digestParsesRow, standIns := [], harness := (true, "f60c45e33363b70b7d713900175c7efa681d34bfcd8cde02e4c6218a7a2e80cc"), looks := true }, kinds := [], alts := [], laidByText := true, laidKinds := [.data, .data, .data, .handle, .data], laidTests := true, laidLooks := .later }
def DigestParsesCardSaid : Prop := Claim7.holds Tryd.pinned (.plain (OpenSpec.ofChange digestParsesSpec)) digestParsesCard

/-- THE SECOND FORM's CARD OF 'stratalaw03.DigestBack'. -/
def digestBackUptoCard : Claim7 := { stood := { row := digestBackUptoRow, standIns := [], harness := (true, "f60c45e33363b70b7d713900175c7efa681d34bfcd8cde02e4c6218a7a2e80cc"), looks := true }, kinds := [], alts := [], laidByText := true, laidKinds := [.data, .data, .data], laidTests := true, laidLooks := .later }
def DigestBackUptoCardSaid : Prop := Claim7.holds Tryd.pinned (.plain (OpenSpec.upto digestBackSpec)) digestBackUptoCard

/-- THE SECOND FORM's CARD OF 'stratalaw03.DigestSums'. -/
def digestSumsUptoCard : Claim7 := { stood := { row := digestSumsUptoRow, standIns := [], harness := (true, "f60c45e33363b70b7d713900175c7efa681d34bfcd8cde02e4c6218a7a2e80cc"), looks := true }, kinds := [], alts := [], laidByText := true, laidKinds := [.data, .data, .data, .widerDeep, .data, .data], laidTests := true, laidLooks := .later }
def DigestSumsUptoCardSaid : Prop := Claim7.holds Tryd.pinned (.plain (OpenSpec.upto digestSumsSpec)) digestSumsUptoCard

/-- THE SECOND FORM's CARD OF 'stratalaw03.DigestHashes'. -/
def digestHashesUptoCard : Claim7 := { stood := { row := digestHashesUptoRow, standIns := [], harness := (true, "f60c45e33363b70b7d713900175c7efa681d34bfcd8cde02e4c6218a7a2e80cc"), looks := true }, kinds := [], alts := [], laidByText := true, laidKinds := [.data, .data, .data, .widerDeep, .data, .data], laidTests := true, laidLooks := .later }
def DigestHashesUptoCardSaid : Prop := Claim7.holds Tryd.pinned (.plain (OpenSpec.upto digestHashesSpec)) digestHashesUptoCard

/-- THE SECOND FORM's CARD OF 'stratalaw03.DigestLays'. -/
def digestLaysUptoCard : Claim7 := { stood := { row := digestLaysUptoRow, standIns := [], harness := (true, "f60c45e33363b70b7d713900175c7efa681d34bfcd8cde02e4c6218a7a2e80cc"), looks := true }, kinds := [], alts := [], laidByText := true, laidKinds := [.data, .data, .data, .data], laidTests := true, laidLooks := .later }
def DigestLaysUptoCardSaid : Prop := Claim7.holds Tryd.pinned (.plain (OpenSpec.upto digestLaysSpec)) digestLaysUptoCard

/-- THE SECOND FORM's CARD OF 'stratalaw03.DigestWidths'. -/
def digestWidthsUptoCard : Claim7 := { stood := { row := digestWidthsUptoRow, standIns := [], harness := (true, "f60c45e33363b70b7d713900175c7efa681d34bfcd8cde02e4c6218a7a2e80cc"), looks := true }, kinds := [], alts := [], laidByText := true, laidKinds := [.data, .data, .data, .data], laidTests := true, laidLooks := .later }
def DigestWidthsUptoCardSaid : Prop := Claim7.holds Tryd.pinned (.plain (OpenSpec.upto digestWidthsSpec)) digestWidthsUptoCard

/-- THE SECOND FORM's CARD OF 'stratalaw03.DigestParted'. -/
def digestPartedUptoCard : Claim7 := { stood := { row := digestPartedUptoRow, standIns := [], harness := (true, "f60c45e33363b70b7d713900175c7efa681d34bfcd8cde02e4c6218a7a2e80cc"), looks := true }, kinds := [], alts := [], laidByText := true, laidKinds := [.data, .data, .data, .data], laidTests := true, laidLooks := .later }
def DigestPartedUptoCardSaid : Prop := Claim7.holds Tryd.pinned (.plain (OpenSpec.upto digestPartedSpec)) digestPartedUptoCard

/-- THE SECOND FORM's CARD OF 'stratalaw03.DigestClashes'. -/
def digestClashesUptoCard : Claim7 := { stood := { row := digestClashesUptoRow, standIns := [], harness := (true, "f60c45e33363b70b7d713900175c7efa681d34bfcd8cde02e4c6218a7a2e80cc"), looks := true }, kinds := [], alts := [], laidByText := true, laidKinds := [.data, .data, .data, .widerDeep, .data, .data], laidTests := true, laidLooks := .later }
def DigestClashesUptoCardSaid : Prop := Claim7.holds Tryd.pinned (.plain (OpenSpec.upto digestClashesSpec)) digestClashesUptoCard

/-- THE SECOND FORM's CARD OF 'stratalaw03.DigestCuts'. -/
def digestCutsUptoCard : Claim7 := { stood := { row := digestCutsUptoRow, standIns := [], harness := (true, "f60c45e33363b70b7d713900175c7efa681d34bfcd8cde02e4c6218a7a2e80cc"), looks := true }, kinds := [], alts := [], laidByText := true, laidKinds := [.data, .data, .data, .handle, .data], laidTests := true, laidLooks := .later }
def DigestCutsUptoCardSaid : Prop := Claim7.holds Tryd.pinned (.plain (OpenSpec.upto digestCutsSpec)) digestCutsUptoCard

/-- THE SECOND FORM's CARD OF 'stratalaw03.DigestPlaces'. -/
def digestPlacesUptoCard : Claim7 := { stood := { row := digestPlacesUptoRow, standIns := [], harness := (true, "f60c45e33363b70b7d713900175c7efa681d34bfcd8cde02e4c6218a7a2e80cc"), looks := true }, kinds := [], alts := [], laidByText := true, laidKinds := [.data, .data, .data, .handle, .data], laidTests := true, laidLooks := .later }
def DigestPlacesUptoCardSaid : Prop := Claim7.holds Tryd.pinned (.plain (OpenSpec.upto digestPlacesSpec)) digestPlacesUptoCard

/-- THE SECOND FORM's CARD OF 'stratalaw03.DigestParses'. -/
def digestParsesUptoCard : Claim7 := { stood := { row := digestParsesUptoRow, standIns := [], harness := (true, "f60c45e33363b70b7d713900175c7efa681d34bfcd8cde02e4c6218a7a2e80cc"), looks := true }, kinds := [], alts := [], laidByText := true, laidKinds := [.data, .data, .data, .handle, .data], laidTests := true, laidLooks := .later }
def DigestParsesUptoCardSaid : Prop := Claim7.holds Tryd.pinned (.plain (OpenSpec.upto digestParsesSpec)) digestParsesUptoCard
end Rows
end Go.Proofs.YtgjelinnpcekmaaDoor
