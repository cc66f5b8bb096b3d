/-
  DERIVED. GIVEN WITH THE SEED: THE CARDS: each row of YtapghojjkeegjaaDoorRows.lean that lists a variable, with what it lists TIED to the program's text (the seventh form; the later family's looks); each row that meets fmt, with fmt's text TOLD by the authors' own Lean function (tested against real Go, not proved from fmt's source: count such statements apart). THE CARD IS WHAT COUNTS. Prove the row's statement (the work); the ties are given (YtapghojjkeegjaaDoorTie.lean); close each card by the builder's one call (the guide's Derived/Test/ToyasCard.lean, 'card_holds'). Laid BY PROGRAM, IN A SANDBOX (cutbox-door.mjs). By AI agents, Wed Nov 11 2026. No macro, syntax, notation, axiom, sorry.
-/
import Derived.Test.YtapghojjkeegjaaDoorRows
import GoSem.ClaimSeven
namespace Go.Proofs.YtapghojjkeegjaaDoor
namespace Rows

/-- THE TIED CARD OF 'stratalaw13.WordsSplits'. -/
def wordsSplitsCard : Claim7 := { stood := { row := wordsSplitsRow, standIns := [], harness := (true, "a15edae70d6346c46711d55711671c59d6d9ddeefe94f84805280bded198d23f"), looks := true }, kinds := [], alts := [], laidByText := true, laidKinds := [.handle], laidTests := true, laidLooks := .later }
def WordsSplitsCardSaid : Prop := Claim7.holds Tryd.pinned (.plain (OpenSpec.ofChange wordsSplitsSpec)) wordsSplitsCard

/-- THE TIED CARD OF 'stratalaw13.WordsQuotes'. -/
def wordsQuotesCard : Claim7 := { stood := { row := wordsQuotesRow, standIns := [], harness := (true, "a15edae70d6346c46711d55711671c59d6d9ddeefe94f84805280bded198d23f"), looks := true }, kinds := [], alts := [], laidByText := true, laidKinds := [.handle], laidTests := true, laidLooks := .later }
def WordsQuotesCardSaid : Prop := Claim7.holds Tryd.pinned (.plain (OpenSpec.ofChange wordsQuotesSpec)) wordsQuotesCard

/-- THE TIED CARD OF 'stratalaw13.WordsCover'. -/
def wordsCoverCard : Claim7 := { stood := { row := wordsCoverRow, standIns := [], harness := (true, "a15edae70d6346c46711d55711671c59d6d9ddeefe94f84805280bded198d23f"), looks := true }, kinds := [], alts := [], laidByText := true, laidKinds := [.handle], laidTests := true, laidLooks := .later }
def WordsCoverCardSaid : Prop := Claim7.holds Tryd.pinned (.plain (OpenSpec.ofChange wordsCoverSpec)) wordsCoverCard

/-- THE TIED CARD OF 'stratalaw13.WordsJoined'. -/
def wordsJoinedCard : Claim7 := { stood := { row := wordsJoinedRow, standIns := [], harness := (true, "a15edae70d6346c46711d55711671c59d6d9ddeefe94f84805280bded198d23f"), looks := true }, kinds := [], alts := [], laidByText := true, laidKinds := [.handle], laidTests := true, laidLooks := .later }
def WordsJoinedCardSaid : Prop := Claim7.holds Tryd.pinned (.plain (OpenSpec.ofChange wordsJoinedSpec)) wordsJoinedCard

/-- THE TIED CARD OF 'stratalaw13.WordsQuoted'. -/
def wordsQuotedCard : Claim7 := { stood := { row := wordsQuotedRow, standIns := [], harness := (true, "a15edae70d6346c46711d55711671c59d6d9ddeefe94f84805280bded198d23f"), looks := true }, kinds := [], alts := [], laidByText := true, laidKinds := [.handle], laidTests := true, laidLooks := .later }
def WordsQuotedCardSaid : Prop := Claim7.holds Tryd.pinned (.plain (OpenSpec.ofChange wordsQuotedSpec)) wordsQuotedCard

/-- THE TIED CARD OF 'stratalaw13.WordsKnown'. -/
def wordsKnownCard : Claim7 := { stood := { row := wordsKnownRow, standIns := [], harness := (true, "a15edae70d6346c46711d55711671c59d6d9ddeefe94f84805280bded198d23f"), looks := true }, kinds := [], alts := [], laidByText := true, laidKinds := [.handle], laidTests := true, laidLooks := .later }
def WordsKnownCardSaid : Prop := Claim7.holds Tryd.pinned (.plain (OpenSpec.ofChange wordsKnownSpec)) wordsKnownCard

/-- THE SECOND FORM's CARD OF 'stratalaw13.WordsSplits'. -/
def wordsSplitsUptoCard : Claim7 := { stood := { row := wordsSplitsUptoRow, standIns := [], harness := (true, "a15edae70d6346c46711d55711671c59d6d9ddeefe94f84805280bded198d23f"), looks := true }, kinds := [], alts := [], laidByText := true, laidKinds := [.handle], laidTests := true, laidLooks := .later }
def WordsSplitsUptoCardSaid : Prop := Claim7.holds Tryd.pinned (.plain (OpenSpec.upto wordsSplitsSpec)) wordsSplitsUptoCard

/-- THE SECOND FORM's CARD OF 'stratalaw13.WordsQuotes'. -/
def wordsQuotesUptoCard : Claim7 := { stood := { row := wordsQuotesUptoRow, standIns := [], harness := (true, "a15edae70d6346c46711d55711671c59d6d9ddeefe94f84805280bded198d23f"), looks := true }, kinds := [], alts := [], laidByText := true, laidKinds := [.handle], laidTests := true, laidLooks := .later }
def WordsQuotesUptoCardSaid : Prop := Claim7.holds Tryd.pinned (.plain (OpenSpec.upto wordsQuotesSpec)) wordsQuotesUptoCard

/-- THE SECOND FORM's CARD OF 'stratalaw13.WordsCover'. -/
def wordsCoverUptoCard : Claim7 := { stood := { row := wordsCoverUptoRow, standIns := [], harness := (true, "a15edae70d6346c46711d55711671c59d6d9ddeefe94f84805280bded198d23f"), looks := true }, kinds := [], alts := [], laidByText := true, laidKinds := [.handle], laidTests := true, laidLooks := .later }
def WordsCoverUptoCardSaid : Prop := Claim7.holds Tryd.pinned (.plain (OpenSpec.upto wordsCoverSpec)) wordsCoverUptoCard

/-- THE SECOND FORM's CARD OF 'stratalaw13.WordsJoined'. -/
def wordsJoinedUptoCard : Claim7 := { stood := { row := wordsJoinedUptoRow, standIns := [], harness := (true, "a15edae70d6346c46711d55711671c59d6d9ddeefe94f84805280bded198d23f"), looks := true }, kinds := [], alts := [], laidByText := true, laidKinds := [.handle], laidTests := true, laidLooks := .later }
def WordsJoinedUptoCardSaid : Prop := Claim7.holds Tryd.pinned (.plain (OpenSpec.upto wordsJoinedSpec)) wordsJoinedUptoCard

/-- THE SECOND FORM's CARD OF 'stratalaw13.WordsQuoted'. -/
def wordsQuotedUptoCard : Claim7 := { stood := { row := wordsQuotedUptoRow, standIns := [], harness := (true, "a15edae70d6346c46711d55711671c59d6d9ddeefe94f84805280bded198d23f"), looks := true }, kinds := [], alts := [], laidByText := true, laidKinds := [.handle], laidTests := true, laidLooks := .later }
def WordsQuotedUptoCardSaid : Prop := Claim7.holds Tryd.pinned (.plain (OpenSpec.upto wordsQuotedSpec)) wordsQuotedUptoCard

/-- THE SECOND FORM's CARD OF 'stratalaw13.WordsKnown'. -/
def wordsKnownUptoCard : Claim7 := { stood := { row := wordsKnownUptoRow, standIns := [], harness := (true, "a15edae70d6346c46711d55711671c59d6d9ddeefe94f84805280bded198d23f"), looks := true }, kinds := [], alts := [], laidByText := true, laidKinds := [.handle], laidTests := true, laidLooks := .later }
def WordsKnownUptoCardSaid : Prop := Claim7.holds Tryd.pinned (.plain (OpenSpec.upto wordsKnownSpec)) wordsKnownUptoCard
end Rows
end Go.Proofs.YtapghojjkeegjaaDoor
