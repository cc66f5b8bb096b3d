/-
  DERIVED. GIVEN WITH THE SEED: THE CARDS: each row of YtnmnhnhlggbijaaDoorRows.lean that lists a variable, with what it lists TIED to the program's text (the seventh form; the later family's looks); each row that meets fmt, with fmt's text TOLD by the authors' own Lean function (tested against real Go, not proved from fmt's source: count such statements apart). THE CARD IS WHAT COUNTS. Prove the row's statement (the work); the ties are given (YtnmnhnhlggbijaaDoorTie.lean); close each card by the builder's one call (the guide's Derived/Test/ToyasCard.lean, 'card_holds'). Laid BY PROGRAM, IN A SANDBOX (cutbox-door.mjs). By AI agents, Wed Nov 11 2026. No macro, syntax, notation, axiom, sorry.
-/
import Derived.Test.YtnmnhnhlggbijaaDoorRows
import GoSem.ClaimSeven
namespace Go.Proofs.YtnmnhnhlggbijaaDoor
namespace Rows

/-- THE TIED CARD OF 'stratalaw15.ExpandWords'. -/
def expandWordsCard : Claim7 := { stood := { row := expandWordsRow, standIns := [], harness := (true, "c59a703464c957cba24b6c12d373b446db3ced7d25cf89f4175e1ad36a4eac48"), looks := true }, kinds := [], alts := [], laidByText := true, laidKinds := [.handle], laidTests := true, laidLooks := .later }
def ExpandWordsCardSaid : Prop := Claim7.holds Tryd.pinned (.plain (OpenSpec.ofChange expandWordsSpec)) expandWordsCard

/-- THE TIED CARD OF 'stratalaw15.ExpandDocs'. -/
def expandDocsCard : Claim7 := { stood := { row := expandDocsRow, standIns := [], harness := (true, "c59a703464c957cba24b6c12d373b446db3ced7d25cf89f4175e1ad36a4eac48"), looks := true }, kinds := [], alts := [], laidByText := true, laidKinds := [.handle], laidTests := true, laidLooks := .later }
def ExpandDocsCardSaid : Prop := Claim7.holds Tryd.pinned (.plain (OpenSpec.ofChange expandDocsSpec)) expandDocsCard

/-- THE TIED CARD OF 'stratalaw15.ExpandPlain'. -/
def expandPlainCard : Claim7 := { stood := { row := expandPlainRow, standIns := [], harness := (true, "c59a703464c957cba24b6c12d373b446db3ced7d25cf89f4175e1ad36a4eac48"), looks := true }, kinds := [], alts := [], laidByText := true, laidKinds := [.handle], laidTests := true, laidLooks := .later }
def ExpandPlainCardSaid : Prop := Claim7.holds Tryd.pinned (.plain (OpenSpec.ofChange expandPlainSpec)) expandPlainCard

/-- THE TIED CARD OF 'stratalaw15.ExpandKnown'. -/
def expandKnownCard : Claim7 := { stood := { row := expandKnownRow, standIns := [], harness := (true, "c59a703464c957cba24b6c12d373b446db3ced7d25cf89f4175e1ad36a4eac48"), looks := true }, kinds := [], alts := [], laidByText := true, laidKinds := [.handle], laidTests := true, laidLooks := .later }
def ExpandKnownCardSaid : Prop := Claim7.holds Tryd.pinned (.plain (OpenSpec.ofChange expandKnownSpec)) expandKnownCard

/-- THE SECOND FORM's CARD OF 'stratalaw15.ExpandWords'. -/
def expandWordsUptoCard : Claim7 := { stood := { row := expandWordsUptoRow, standIns := [], harness := (true, "c59a703464c957cba24b6c12d373b446db3ced7d25cf89f4175e1ad36a4eac48"), looks := true }, kinds := [], alts := [], laidByText := true, laidKinds := [.handle], laidTests := true, laidLooks := .later }
def ExpandWordsUptoCardSaid : Prop := Claim7.holds Tryd.pinned (.plain (OpenSpec.upto expandWordsSpec)) expandWordsUptoCard

/-- THE SECOND FORM's CARD OF 'stratalaw15.ExpandDocs'. -/
def expandDocsUptoCard : Claim7 := { stood := { row := expandDocsUptoRow, standIns := [], harness := (true, "c59a703464c957cba24b6c12d373b446db3ced7d25cf89f4175e1ad36a4eac48"), looks := true }, kinds := [], alts := [], laidByText := true, laidKinds := [.handle], laidTests := true, laidLooks := .later }
def ExpandDocsUptoCardSaid : Prop := Claim7.holds Tryd.pinned (.plain (OpenSpec.upto expandDocsSpec)) expandDocsUptoCard

/-- THE SECOND FORM's CARD OF 'stratalaw15.ExpandPlain'. -/
def expandPlainUptoCard : Claim7 := { stood := { row := expandPlainUptoRow, standIns := [], harness := (true, "c59a703464c957cba24b6c12d373b446db3ced7d25cf89f4175e1ad36a4eac48"), looks := true }, kinds := [], alts := [], laidByText := true, laidKinds := [.handle], laidTests := true, laidLooks := .later }
def ExpandPlainUptoCardSaid : Prop := Claim7.holds Tryd.pinned (.plain (OpenSpec.upto expandPlainSpec)) expandPlainUptoCard

/-- THE SECOND FORM's CARD OF 'stratalaw15.ExpandKnown'. -/
def expandKnownUptoCard : Claim7 := { stood := { row := expandKnownUptoRow, standIns := [], harness := (true, "c59a703464c957cba24b6c12d373b446db3ced7d25cf89f4175e1ad36a4eac48"), looks := true }, kinds := [], alts := [], laidByText := true, laidKinds := [.handle], laidTests := true, laidLooks := .later }
def ExpandKnownUptoCardSaid : Prop := Claim7.holds Tryd.pinned (.plain (OpenSpec.upto expandKnownSpec)) expandKnownUptoCard
end Rows
end Go.Proofs.YtnmnhnhlggbijaaDoor
