/-
  NARROWER THAN 'FOR EVERY INPUT', by the rows' own cells (each row's printed sentence says how): WordsSplits: laid · WordsQuotes: laid · WordsCover: laid · WordsJoined: laid · WordsQuoted: laid · WordsKnown: laid.
  DERIVED. THE GIVEN ROWS OF THIS SEAT. 6 by the template 'for every input the law returns true; each argument reads behind the call as it read before'; 0 by the template 'total and deterministic' (their statements: YtapghojjkeegjaaDoorTotals.lean).
  GIVEN WITH THE SEED: the statements are not yours to turn. If you find one false, say at which input.
  Laid BY PROGRAM, IN A SANDBOX (cutbox-rows.mjs): the forced cells as the released guide's own fill.sh prints them over the translation 689df6737b14b1eb… (all of the seat's roots in one cut). By AI agents, Wed Nov 11 2026. No macro, syntax, notation, axiom, sorry.
-/
import Derived.Test.YtapghojjkeegjaaDoorChecked
import GoSem.Claim
import GoSem.ClaimJoined
import GoSem.ClaimMapViews
import Derived.JoinedTies
import Derived.KernelRfl
namespace Go.Proofs.YtapghojjkeegjaaDoor
/- THE CELL 'sum', in the pinned program and in every row, IS THE sha256 OF THE DUMP (.gsa) THAT YtapghojjkeegjaaDoorProg.lean LOADS. Nothing in Lean hashes anything: it is a label: what it is worth is what the hold of that sum in a sandbox is worth. -/
noncomputable def Tryd.pinned : Pinned := { name := "ytapghojjkeegjaadoor", sum := "689df6737b14b1ebeea70289b4a87274dce14c9cc84fde022c66ac945d7ee5c3", checked := Tryd.checked }
namespace Rows
def none {H : Type} : Left H := { results := [], args := [] }

/- WHAT THE LISTED PACKAGE-LEVEL VARIABLES READ AS WHEN THE CALL BEGINS. Each datum BY PROGRAM (the guide's laid-datum.mjs) off the statement by which the dump's own 'gosem.cut.vars' lays the variable. In a bare row this is a premise. The card (YtapghojjkeegjaaDoorCards.lean) ties it to the program's text. -/
def laid_errors_errorType {H : Type} : DataW H := .iface "internal/reflectlite.rtype" (.agg [.ptr (.lit (.string [101, 114, 114, 111, 114]))])

/-- 'stratalaw13.WordsSplits': WHATEVER THE INPUT: true; the input reads as it did. -/
def wordsSplitsSpec : ChangeSpec := { name := "wordsSplits", fn := fun _ => fun
  | [d1, d2, d3] => { results := [.lit (.bool true)], args := [d1, d2, d3] }
  | _ => none }
def wordsSplitsRow : OpenClaim := { program := "ytapghojjkeegjaadoor", sum := "689df6737b14b1ebeea70289b4a87274dce14c9cc84fde022c66ac945d7ee5c3", func := "strata/stratalaw13.WordsSplits", spec := "wordsSplits", inPlace := ["internal/reflectlite.ValueOf", "(internal/reflectlite.Value).Type", "(internal/reflectlite.Value).IsNil", "internal/reflectlite.TypeOf", "(internal/reflectlite.Value).Elem", "(internal/reflectlite.Value).Set", "internal/abi.NoEscape", "internal/bytealg.IndexByteString"], unfollowed := true, recurses := true, named := ["errors.errorType"], apart := false, laid := [("errors.errorType", laid_errors_errorType)] }
def WordsSplitsSaid : Prop := wordsSplitsRow.holds Tryd.pinned (OpenSpec.ofChange wordsSplitsSpec)

/-- ITS FALSE NEIGHBOUR: 'it returns false'. Refute it at one input. -/
def wordsSplitsWrong : ChangeSpec := { name := "wordsSplits", fn := fun _ => fun
  | [d1, d2, d3] => { results := [.lit (.bool false)], args := [d1, d2, d3] }
  | _ => none }
def WordsSplitsWrongFalsely : Prop := wordsSplitsRow.holds Tryd.pinned (OpenSpec.ofChange wordsSplitsWrong)

/-- 'stratalaw13.WordsQuotes': WHATEVER THE INPUT: true; the input reads as it did. -/
def wordsQuotesSpec : ChangeSpec := { name := "wordsQuotes", fn := fun _ => fun
  | [d1, d2] => { results := [.lit (.bool true)], args := [d1, d2] }
  | _ => none }
def wordsQuotesRow : OpenClaim := { program := "ytapghojjkeegjaadoor", sum := "689df6737b14b1ebeea70289b4a87274dce14c9cc84fde022c66ac945d7ee5c3", func := "strata/stratalaw13.WordsQuotes", spec := "wordsQuotes", inPlace := ["internal/abi.NoEscape", "internal/bytealg.IndexByteString", "internal/reflectlite.ValueOf", "(internal/reflectlite.Value).Type", "(internal/reflectlite.Value).IsNil", "internal/reflectlite.TypeOf", "(internal/reflectlite.Value).Elem", "(internal/reflectlite.Value).Set"], unfollowed := true, recurses := true, named := ["errors.errorType"], apart := false, laid := [("errors.errorType", laid_errors_errorType)] }
def WordsQuotesSaid : Prop := wordsQuotesRow.holds Tryd.pinned (OpenSpec.ofChange wordsQuotesSpec)

/-- ITS FALSE NEIGHBOUR: 'it returns false'. Refute it at one input. -/
def wordsQuotesWrong : ChangeSpec := { name := "wordsQuotes", fn := fun _ => fun
  | [d1, d2] => { results := [.lit (.bool false)], args := [d1, d2] }
  | _ => none }
def WordsQuotesWrongFalsely : Prop := wordsQuotesRow.holds Tryd.pinned (OpenSpec.ofChange wordsQuotesWrong)

/-- 'stratalaw13.WordsCover': WHATEVER THE INPUT: true; the input reads as it did. -/
def wordsCoverSpec : ChangeSpec := { name := "wordsCover", fn := fun _ => fun
  | [d1, d2] => { results := [.lit (.bool true)], args := [d1, d2] }
  | _ => none }
def wordsCoverRow : OpenClaim := { program := "ytapghojjkeegjaadoor", sum := "689df6737b14b1ebeea70289b4a87274dce14c9cc84fde022c66ac945d7ee5c3", func := "strata/stratalaw13.WordsCover", spec := "wordsCover", inPlace := ["internal/reflectlite.ValueOf", "(internal/reflectlite.Value).Type", "(internal/reflectlite.Value).IsNil", "internal/reflectlite.TypeOf", "(internal/reflectlite.Value).Elem", "(internal/reflectlite.Value).Set", "internal/abi.NoEscape", "internal/bytealg.IndexByteString"], unfollowed := true, recurses := true, named := ["errors.errorType"], apart := false, laid := [("errors.errorType", laid_errors_errorType)] }
def WordsCoverSaid : Prop := wordsCoverRow.holds Tryd.pinned (OpenSpec.ofChange wordsCoverSpec)

/-- ITS FALSE NEIGHBOUR: 'it returns false'. Refute it at one input. -/
def wordsCoverWrong : ChangeSpec := { name := "wordsCover", fn := fun _ => fun
  | [d1, d2] => { results := [.lit (.bool false)], args := [d1, d2] }
  | _ => none }
def WordsCoverWrongFalsely : Prop := wordsCoverRow.holds Tryd.pinned (OpenSpec.ofChange wordsCoverWrong)

/-- 'stratalaw13.WordsJoined': WHATEVER THE INPUT: true; the input reads as it did. -/
def wordsJoinedSpec : ChangeSpec := { name := "wordsJoined", fn := fun _ => fun
  | [d] => { results := [.lit (.bool true)], args := [d] }
  | _ => none }
def wordsJoinedRow : OpenClaim := { program := "ytapghojjkeegjaadoor", sum := "689df6737b14b1ebeea70289b4a87274dce14c9cc84fde022c66ac945d7ee5c3", func := "strata/stratalaw13.WordsJoined", spec := "wordsJoined", inPlace := ["internal/reflectlite.ValueOf", "(internal/reflectlite.Value).Type", "(internal/reflectlite.Value).IsNil", "internal/reflectlite.TypeOf", "(internal/reflectlite.Value).Elem", "(internal/reflectlite.Value).Set", "internal/abi.NoEscape", "internal/bytealg.IndexByteString"], unfollowed := true, recurses := true, named := ["errors.errorType"], apart := false, laid := [("errors.errorType", laid_errors_errorType)] }
def WordsJoinedSaid : Prop := wordsJoinedRow.holds Tryd.pinned (OpenSpec.ofChange wordsJoinedSpec)

/-- ITS FALSE NEIGHBOUR: 'it returns false'. Refute it at one input. -/
def wordsJoinedWrong : ChangeSpec := { name := "wordsJoined", fn := fun _ => fun
  | [d] => { results := [.lit (.bool false)], args := [d] }
  | _ => none }
def WordsJoinedWrongFalsely : Prop := wordsJoinedRow.holds Tryd.pinned (OpenSpec.ofChange wordsJoinedWrong)

/-- 'stratalaw13.WordsQuoted': WHATEVER THE INPUT: true; the input reads as it did. -/
def wordsQuotedSpec : ChangeSpec := { name := "wordsQuoted", fn := fun _ => fun
  | [d1, d2] => { results := [.lit (.bool true)], args := [d1, d2] }
  | _ => none }
def wordsQuotedRow : OpenClaim := { program := "ytapghojjkeegjaadoor", sum := "689df6737b14b1ebeea70289b4a87274dce14c9cc84fde022c66ac945d7ee5c3", func := "strata/stratalaw13.WordsQuoted", spec := "wordsQuoted", inPlace := ["internal/abi.NoEscape", "internal/bytealg.IndexByteString", "internal/reflectlite.ValueOf", "(internal/reflectlite.Value).Type", "(internal/reflectlite.Value).IsNil", "internal/reflectlite.TypeOf", "(internal/reflectlite.Value).Elem", "(internal/reflectlite.Value).Set"], unfollowed := true, recurses := true, named := ["errors.errorType"], apart := false, laid := [("errors.errorType", laid_errors_errorType)] }
def WordsQuotedSaid : Prop := wordsQuotedRow.holds Tryd.pinned (OpenSpec.ofChange wordsQuotedSpec)

/-- ITS FALSE NEIGHBOUR: 'it returns false'. Refute it at one input. -/
def wordsQuotedWrong : ChangeSpec := { name := "wordsQuoted", fn := fun _ => fun
  | [d1, d2] => { results := [.lit (.bool false)], args := [d1, d2] }
  | _ => none }
def WordsQuotedWrongFalsely : Prop := wordsQuotedRow.holds Tryd.pinned (OpenSpec.ofChange wordsQuotedWrong)

/-- 'stratalaw13.WordsKnown': WHATEVER THE INPUT: true; the input reads as it did. -/
def wordsKnownSpec : ChangeSpec := { name := "wordsKnown", fn := fun _ => fun
  | [] => { results := [.lit (.bool true)], args := [] }
  | _ => none }
def wordsKnownRow : OpenClaim := { program := "ytapghojjkeegjaadoor", sum := "689df6737b14b1ebeea70289b4a87274dce14c9cc84fde022c66ac945d7ee5c3", func := "strata/stratalaw13.WordsKnown", spec := "wordsKnown", inPlace := ["internal/reflectlite.ValueOf", "(internal/reflectlite.Value).Type", "(internal/reflectlite.Value).IsNil", "internal/reflectlite.TypeOf", "(internal/reflectlite.Value).Elem", "(internal/reflectlite.Value).Set", "internal/abi.NoEscape", "internal/bytealg.IndexByteString"], unfollowed := true, recurses := true, named := ["errors.errorType"], apart := false, laid := [("errors.errorType", laid_errors_errorType)] }
def WordsKnownSaid : Prop := wordsKnownRow.holds Tryd.pinned (OpenSpec.ofChange wordsKnownSpec)

/-- ITS FALSE NEIGHBOUR: 'it returns false'. Refute it at one input. -/
def wordsKnownWrong : ChangeSpec := { name := "wordsKnown", fn := fun _ => fun
  | [] => { results := [.lit (.bool false)], args := [] }
  | _ => none }
def WordsKnownWrongFalsely : Prop := wordsKnownRow.holds Tryd.pinned (OpenSpec.ofChange wordsKnownWrong)

/- THE SECOND FORM. 'bulk': how many values and letters a reading holds, each counted each time it is reached (what is shared counts as often as it is met; a slice's spare places count too). A statement '..UptoSaid' is the law's where the arguments, and the package variables that the reading takes, are together of bulk at most 1048576: NARROWER than '..Said'. Prove '..Said' where nothing that the law and all that it calls make is longer than what came in: it says more and counts as full. Else prove '..UptoSaid'. A law counts once. -/
mutual
def uptoBulk {H : Type} : DataW H → Nat
  | .lit (.string bytes) => bytes.length + 1
  | .lit _ => 1
  | .nil => 1
  | .ptr d => uptoBulk d + 1
  | .slice elems spare => uptoBulkAll elems + uptoBulkAll spare + 1
  | .agg parts => uptoBulkAll parts + 1
  | .iface _ d => uptoBulk d + 1
  | .map entries => uptoBulkEntries entries + 1
  | .held _ => 1
def uptoBulkAll {H : Type} : List (DataW H) → Nat
  | [] => 0
  | d :: r => uptoBulk d + uptoBulkAll r
def uptoBulkEntries {H : Type} : List (Lit × DataW H) → Nat
  | [] => 0
  | x :: r => uptoBulkEntry x + uptoBulkEntries r
def uptoBulkEntry {H : Type} : Lit × DataW H → Nat
  | (.string bytes, d) => bytes.length + uptoBulk d + 1
  | (_, d) => uptoBulk d + 1
 end
def uptoSmall : (H : Type) → List (DataW H) → Bool := fun _ ds => decide (uptoBulkAll ds ≤ 1048576)
def OpenSpec.upto (s : _root_.Go.ChangeSpec) : _root_.Go.OpenSpec := { _root_.Go.OpenSpec.ofChange s with cond := some uptoSmall }

/-- 'stratalaw13.WordsSplits', WHERE WHAT IT READS IS OF BULK AT MOST 1048576: true; the input reads as it did. -/
def wordsSplitsUptoRow : OpenClaim := { program := "ytapghojjkeegjaadoor", sum := "689df6737b14b1ebeea70289b4a87274dce14c9cc84fde022c66ac945d7ee5c3", func := "strata/stratalaw13.WordsSplits", spec := "wordsSplits", inPlace := ["internal/reflectlite.ValueOf", "(internal/reflectlite.Value).Type", "(internal/reflectlite.Value).IsNil", "internal/reflectlite.TypeOf", "(internal/reflectlite.Value).Elem", "(internal/reflectlite.Value).Set", "internal/abi.NoEscape", "internal/bytealg.IndexByteString"], unfollowed := true, recurses := true, named := ["errors.errorType"], apart := false, laid := [("errors.errorType", laid_errors_errorType)], narrowed := true }
def WordsSplitsUptoSaid : Prop := wordsSplitsUptoRow.holds Tryd.pinned (OpenSpec.upto wordsSplitsSpec)

/-- 'stratalaw13.WordsQuotes', WHERE WHAT IT READS IS OF BULK AT MOST 1048576: true; the input reads as it did. -/
def wordsQuotesUptoRow : OpenClaim := { program := "ytapghojjkeegjaadoor", sum := "689df6737b14b1ebeea70289b4a87274dce14c9cc84fde022c66ac945d7ee5c3", func := "strata/stratalaw13.WordsQuotes", spec := "wordsQuotes", inPlace := ["internal/abi.NoEscape", "internal/bytealg.IndexByteString", "internal/reflectlite.ValueOf", "(internal/reflectlite.Value).Type", "(internal/reflectlite.Value).IsNil", "internal/reflectlite.TypeOf", "(internal/reflectlite.Value).Elem", "(internal/reflectlite.Value).Set"], unfollowed := true, recurses := true, named := ["errors.errorType"], apart := false, laid := [("errors.errorType", laid_errors_errorType)], narrowed := true }
def WordsQuotesUptoSaid : Prop := wordsQuotesUptoRow.holds Tryd.pinned (OpenSpec.upto wordsQuotesSpec)

/-- 'stratalaw13.WordsCover', WHERE WHAT IT READS IS OF BULK AT MOST 1048576: true; the input reads as it did. -/
def wordsCoverUptoRow : OpenClaim := { program := "ytapghojjkeegjaadoor", sum := "689df6737b14b1ebeea70289b4a87274dce14c9cc84fde022c66ac945d7ee5c3", func := "strata/stratalaw13.WordsCover", spec := "wordsCover", inPlace := ["internal/reflectlite.ValueOf", "(internal/reflectlite.Value).Type", "(internal/reflectlite.Value).IsNil", "internal/reflectlite.TypeOf", "(internal/reflectlite.Value).Elem", "(internal/reflectlite.Value).Set", "internal/abi.NoEscape", "internal/bytealg.IndexByteString"], unfollowed := true, recurses := true, named := ["errors.errorType"], apart := false, laid := [("errors.errorType", laid_errors_errorType)], narrowed := true }
def WordsCoverUptoSaid : Prop := wordsCoverUptoRow.holds Tryd.pinned (OpenSpec.upto wordsCoverSpec)

/-- 'stratalaw13.WordsJoined', WHERE WHAT IT READS IS OF BULK AT MOST 1048576: true; the input reads as it did. -/
def wordsJoinedUptoRow : OpenClaim := { program := "ytapghojjkeegjaadoor", sum := "689df6737b14b1ebeea70289b4a87274dce14c9cc84fde022c66ac945d7ee5c3", func := "strata/stratalaw13.WordsJoined", spec := "wordsJoined", inPlace := ["internal/reflectlite.ValueOf", "(internal/reflectlite.Value).Type", "(internal/reflectlite.Value).IsNil", "internal/reflectlite.TypeOf", "(internal/reflectlite.Value).Elem", "(internal/reflectlite.Value).Set", "internal/abi.NoEscape", "internal/bytealg.IndexByteString"], unfollowed := true, recurses := true, named := ["errors.errorType"], apart := false, laid := [("errors.errorType", laid_errors_errorType)], narrowed := true }
def WordsJoinedUptoSaid : Prop := wordsJoinedUptoRow.holds Tryd.pinned (OpenSpec.upto wordsJoinedSpec)

/-- 'stratalaw13.WordsQuoted', WHERE WHAT IT READS IS OF BULK AT MOST 1048576: true; the input reads as it did. -/
def wordsQuotedUptoRow : OpenClaim := { program := "ytapghojjkeegjaadoor", sum := "689df6737b14b1ebeea70289b4a87274dce14c9cc84fde022c66ac945d7ee5c3", func := "strata/stratalaw13.WordsQuoted", spec := "wordsQuoted", inPlace := ["internal/abi.NoEscape", "internal/bytealg.IndexByteString", "internal/reflectlite.ValueOf", "(internal/reflectlite.Value).Type", "(internal/reflectlite.Value).IsNil", "internal/reflectlite.TypeOf", "(internal/reflectlite.Value).Elem", "(internal/reflectlite.Value).Set"], unfollowed := true, recurses := true, named := ["errors.errorType"], apart := false, laid := [("errors.errorType", laid_errors_errorType)], narrowed := true }
def WordsQuotedUptoSaid : Prop := wordsQuotedUptoRow.holds Tryd.pinned (OpenSpec.upto wordsQuotedSpec)

/-- 'stratalaw13.WordsKnown', WHERE WHAT IT READS IS OF BULK AT MOST 1048576: true; the input reads as it did. -/
def wordsKnownUptoRow : OpenClaim := { program := "ytapghojjkeegjaadoor", sum := "689df6737b14b1ebeea70289b4a87274dce14c9cc84fde022c66ac945d7ee5c3", func := "strata/stratalaw13.WordsKnown", spec := "wordsKnown", inPlace := ["internal/reflectlite.ValueOf", "(internal/reflectlite.Value).Type", "(internal/reflectlite.Value).IsNil", "internal/reflectlite.TypeOf", "(internal/reflectlite.Value).Elem", "(internal/reflectlite.Value).Set", "internal/abi.NoEscape", "internal/bytealg.IndexByteString"], unfollowed := true, recurses := true, named := ["errors.errorType"], apart := false, laid := [("errors.errorType", laid_errors_errorType)], narrowed := true }
def WordsKnownUptoSaid : Prop := wordsKnownUptoRow.holds Tryd.pinned (OpenSpec.upto wordsKnownSpec)

end Rows
end Go.Proofs.YtapghojjkeegjaaDoor
