/-
  NARROWER THAN 'FOR EVERY INPUT', by the rows' own cells (each row's printed sentence says how): ExpandWords: laid · ExpandDocs: laid · ExpandPlain: laid · ExpandKnown: laid.
  DERIVED. THE GIVEN ROWS OF THIS SEAT. 4 by the template 'for every input the law returns true; each argument reads behind the call as it read before'; 0 by the template 'total and deterministic' (their statements: YtnmnhnhlggbijaaDoorTotals.lean).
  GIVEN WITH THE SEED: the statements are not yours to turn. If you find one false, say at which input.
  Laid BY PROGRAM, IN A SANDBOX (cutbox-rows.mjs): the forced cells as the released guide's own fill.sh prints them over the translation 207aa20b72b8d928… (all of the seat's roots in one cut). By AI agents, Wed Nov 11 2026. No macro, syntax, notation, axiom, sorry.
-/
import Derived.Test.YtnmnhnhlggbijaaDoorChecked
import GoSem.Claim
import GoSem.ClaimJoined
import GoSem.ClaimMapViews
import Derived.JoinedTies
import Derived.KernelRfl
namespace Go.Proofs.YtnmnhnhlggbijaaDoor
/- THE CELL 'sum', in the pinned program and in every row, IS THE sha256 OF THE DUMP (.gsa) THAT YtnmnhnhlggbijaaDoorProg.lean LOADS. Nothing in Lean hashes anything: it is a label: what it is worth is what the hold of that sum in a sandbox is worth. -/
noncomputable def Tryd.pinned : Pinned := { name := "ytnmnhnhlggbijaadoor", sum := "207aa20b72b8d928f2aacb9d2d225aed48ecc6b5d5a0540e3304d23c45d31f34", checked := Tryd.checked }
namespace Rows
def none {H : Type} : Left H := { results := [], args := [] }

/- WHAT THE LISTED PACKAGE-LEVEL VARIABLES READ AS WHEN THE CALL BEGINS. Each datum BY PROGRAM (the guide's laid-datum.mjs) off the statement by which the dump's own 'gosem.cut.vars' lays the variable. In a bare row this is a premise. The card (YtnmnhnhlggbijaaDoorCards.lean) ties it to the program's text. -/
def laid_errors_errorType {H : Type} : DataW H := .iface "internal/reflectlite.rtype" (.agg [.ptr (.lit (.string [101, 114, 114, 111, 114]))])

/-- 'stratalaw15.ExpandWords': WHATEVER THE INPUT: true; the input reads as it did. -/
def expandWordsSpec : ChangeSpec := { name := "expandWords", fn := fun _ => fun
  | [d1, d2, d3] => { results := [.lit (.bool true)], args := [d1, d2, d3] }
  | _ => none }
def expandWordsRow : OpenClaim := { program := "ytnmnhnhlggbijaadoor", sum := "207aa20b72b8d928f2aacb9d2d225aed48ecc6b5d5a0540e3304d23c45d31f34", func := "strata/stratalaw15.ExpandWords", spec := "expandWords", inPlace := ["internal/bytealg.IndexByteString", "internal/reflectlite.TypeOf", "internal/reflectlite.ValueOf", "(internal/reflectlite.Value).Type", "(internal/reflectlite.Value).IsNil", "(internal/reflectlite.Value).Elem", "(internal/reflectlite.Value).Set"], unfollowed := true, recurses := true, named := ["errors.errorType"], apart := false, laid := [("errors.errorType", laid_errors_errorType)] }
def ExpandWordsSaid : Prop := expandWordsRow.holds Tryd.pinned (OpenSpec.ofChange expandWordsSpec)

/-- ITS FALSE NEIGHBOUR: 'it returns false'. Refute it at one input. -/
def expandWordsWrong : ChangeSpec := { name := "expandWords", fn := fun _ => fun
  | [d1, d2, d3] => { results := [.lit (.bool false)], args := [d1, d2, d3] }
  | _ => none }
def ExpandWordsWrongFalsely : Prop := expandWordsRow.holds Tryd.pinned (OpenSpec.ofChange expandWordsWrong)

/-- 'stratalaw15.ExpandDocs': WHATEVER THE INPUT: true; the input reads as it did. -/
def expandDocsSpec : ChangeSpec := { name := "expandDocs", fn := fun _ => fun
  | [d1, d2, d3] => { results := [.lit (.bool true)], args := [d1, d2, d3] }
  | _ => none }
def expandDocsRow : OpenClaim := { program := "ytnmnhnhlggbijaadoor", sum := "207aa20b72b8d928f2aacb9d2d225aed48ecc6b5d5a0540e3304d23c45d31f34", func := "strata/stratalaw15.ExpandDocs", spec := "expandDocs", inPlace := ["internal/bytealg.IndexByteString", "internal/reflectlite.TypeOf", "internal/reflectlite.ValueOf", "(internal/reflectlite.Value).Type", "(internal/reflectlite.Value).IsNil", "(internal/reflectlite.Value).Elem", "(internal/reflectlite.Value).Set"], unfollowed := true, recurses := true, named := ["errors.errorType"], apart := false, laid := [("errors.errorType", laid_errors_errorType)] }
def ExpandDocsSaid : Prop := expandDocsRow.holds Tryd.pinned (OpenSpec.ofChange expandDocsSpec)

/-- ITS FALSE NEIGHBOUR: 'it returns false'. Refute it at one input. -/
def expandDocsWrong : ChangeSpec := { name := "expandDocs", fn := fun _ => fun
  | [d1, d2, d3] => { results := [.lit (.bool false)], args := [d1, d2, d3] }
  | _ => none }
def ExpandDocsWrongFalsely : Prop := expandDocsRow.holds Tryd.pinned (OpenSpec.ofChange expandDocsWrong)

/-- 'stratalaw15.ExpandPlain': WHATEVER THE INPUT: true; the input reads as it did. -/
def expandPlainSpec : ChangeSpec := { name := "expandPlain", fn := fun _ => fun
  | [d1, d2, d3] => { results := [.lit (.bool true)], args := [d1, d2, d3] }
  | _ => none }
def expandPlainRow : OpenClaim := { program := "ytnmnhnhlggbijaadoor", sum := "207aa20b72b8d928f2aacb9d2d225aed48ecc6b5d5a0540e3304d23c45d31f34", func := "strata/stratalaw15.ExpandPlain", spec := "expandPlain", inPlace := ["internal/bytealg.IndexByteString", "internal/reflectlite.TypeOf", "internal/reflectlite.ValueOf", "(internal/reflectlite.Value).Type", "(internal/reflectlite.Value).IsNil", "(internal/reflectlite.Value).Elem", "(internal/reflectlite.Value).Set"], unfollowed := true, recurses := true, named := ["errors.errorType"], apart := false, laid := [("errors.errorType", laid_errors_errorType)] }
def ExpandPlainSaid : Prop := expandPlainRow.holds Tryd.pinned (OpenSpec.ofChange expandPlainSpec)

/-- ITS FALSE NEIGHBOUR: 'it returns false'. Refute it at one input. -/
def expandPlainWrong : ChangeSpec := { name := "expandPlain", fn := fun _ => fun
  | [d1, d2, d3] => { results := [.lit (.bool false)], args := [d1, d2, d3] }
  | _ => none }
def ExpandPlainWrongFalsely : Prop := expandPlainRow.holds Tryd.pinned (OpenSpec.ofChange expandPlainWrong)

/-- 'stratalaw15.ExpandKnown': WHATEVER THE INPUT: true; the input reads as it did. -/
def expandKnownSpec : ChangeSpec := { name := "expandKnown", fn := fun _ => fun
  | [] => { results := [.lit (.bool true)], args := [] }
  | _ => none }
def expandKnownRow : OpenClaim := { program := "ytnmnhnhlggbijaadoor", sum := "207aa20b72b8d928f2aacb9d2d225aed48ecc6b5d5a0540e3304d23c45d31f34", func := "strata/stratalaw15.ExpandKnown", spec := "expandKnown", inPlace := ["internal/bytealg.IndexByteString", "internal/reflectlite.TypeOf", "internal/reflectlite.ValueOf", "(internal/reflectlite.Value).Type", "(internal/reflectlite.Value).IsNil", "(internal/reflectlite.Value).Elem", "(internal/reflectlite.Value).Set"], unfollowed := true, recurses := true, named := ["errors.errorType"], apart := false, laid := [("errors.errorType", laid_errors_errorType)] }
def ExpandKnownSaid : Prop := expandKnownRow.holds Tryd.pinned (OpenSpec.ofChange expandKnownSpec)

/-- ITS FALSE NEIGHBOUR: 'it returns false'. Refute it at one input. -/
def expandKnownWrong : ChangeSpec := { name := "expandKnown", fn := fun _ => fun
  | [] => { results := [.lit (.bool false)], args := [] }
  | _ => none }
def ExpandKnownWrongFalsely : Prop := expandKnownRow.holds Tryd.pinned (OpenSpec.ofChange expandKnownWrong)

/- THE SECOND FORM. 'bulk': how many values and letters a reading holds, each counted each time it is reached (what is shared counts as often as it is met; a slice's spare places count too). A statement '..UptoSaid' is the law's where the arguments, and the package variables that the reading takes, are together of bulk at most 1048576: NARROWER than '..Said'. Prove '..Said' where nothing that the law and all that it calls make is longer than what came in: it says more and counts as full. Else prove '..UptoSaid'. A law counts once. -/
mutual
def uptoBulk {H : Type} : DataW H → Nat
  | .lit (.string bytes) => bytes.length + 1
  | .lit _ => 1
  | .nil => 1
  | .ptr d => uptoBulk d + 1
  | .slice elems spare => uptoBulkAll elems + uptoBulkAll spare + 1
  | .agg parts => uptoBulkAll parts + 1
  | .iface _ d => uptoBulk d + 1
  | .map entries => uptoBulkEntries entries + 1
  | .held _ => 1
def uptoBulkAll {H : Type} : List (DataW H) → Nat
  | [] => 0
  | d :: r => uptoBulk d + uptoBulkAll r
def uptoBulkEntries {H : Type} : List (Lit × DataW H) → Nat
  | [] => 0
  | x :: r => uptoBulkEntry x + uptoBulkEntries r
def uptoBulkEntry {H : Type} : Lit × DataW H → Nat
  | (.string bytes, d) => bytes.length + uptoBulk d + 1
  | (_, d) => uptoBulk d + 1
 end
def uptoSmall : (H : Type) → List (DataW H) → Bool := fun _ ds => decide (uptoBulkAll ds ≤ 1048576)
def OpenSpec.upto (s : _root_.Go.ChangeSpec) : _root_.Go.OpenSpec := { _root_.Go.OpenSpec.ofChange s with cond := some uptoSmall }

/-- 'stratalaw15.ExpandWords', WHERE WHAT IT READS IS OF BULK AT MOST 1048576: true; the input reads as it did. -/
def expandWordsUptoRow : OpenClaim := { program := "ytnmnhnhlggbijaadoor", sum := "207aa20b72b8d928f2aacb9d2d225aed48ecc6b5d5a0540e3304d23c45d31f34", func := "strata/stratalaw15.ExpandWords", spec := "expandWords", inPlace := ["internal/bytealg.IndexByteString", "internal/reflectlite.TypeOf", "internal/reflectlite.ValueOf", "(internal/reflectlite.Value).Type", "(internal/reflectlite.Value).IsNil", "(internal/reflectlite.Value).Elem", "(internal/reflectlite.Value).Set"], unfollowed := true, recurses := true, named := ["errors.errorType"], apart := false, laid := [("errors.errorType", laid_errors_errorType)], narrowed := true }
def ExpandWordsUptoSaid : Prop := expandWordsUptoRow.holds Tryd.pinned (OpenSpec.upto expandWordsSpec)

/-- 'stratalaw15.ExpandDocs', WHERE WHAT IT READS IS OF BULK AT MOST 1048576: true; the input reads as it did. -/
def expandDocsUptoRow : OpenClaim := { program := "ytnmnhnhlggbijaadoor", sum := "207aa20b72b8d928f2aacb9d2d225aed48ecc6b5d5a0540e3304d23c45d31f34", func := "strata/stratalaw15.ExpandDocs", spec := "expandDocs", inPlace := ["internal/bytealg.IndexByteString", "internal/reflectlite.TypeOf", "internal/reflectlite.ValueOf", "(internal/reflectlite.Value).Type", "(internal/reflectlite.Value).IsNil", "(internal/reflectlite.Value).Elem", "(internal/reflectlite.Value).Set"], unfollowed := true, recurses := true, named := ["errors.errorType"], apart := false, laid := [("errors.errorType", laid_errors_errorType)], narrowed := true }
def ExpandDocsUptoSaid : Prop := expandDocsUptoRow.holds Tryd.pinned (OpenSpec.upto expandDocsSpec)

/-- 'stratalaw15.ExpandPlain', WHERE WHAT IT READS IS OF BULK AT MOST 1048576: true; the input reads as it did. -/
def expandPlainUptoRow : OpenClaim := { program := "ytnmnhnhlggbijaadoor", sum := "207aa20b72b8d928f2aacb9d2d225aed48ecc6b5d5a0540e3304d23c45d31f34", func := "strata/stratalaw15.ExpandPlain", spec := "expandPlain", inPlace := ["internal/bytealg.IndexByteString", "internal/reflectlite.TypeOf", "internal/reflectlite.ValueOf", "(internal/reflectlite.Value).Type", "(internal/reflectlite.Value).IsNil", "(internal/reflectlite.Value).Elem", "(internal/reflectlite.Value).Set"], unfollowed := true, recurses := true, named := ["errors.errorType"], apart := false, laid := [("errors.errorType", laid_errors_errorType)], narrowed := true }
def ExpandPlainUptoSaid : Prop := expandPlainUptoRow.holds Tryd.pinned (OpenSpec.upto expandPlainSpec)

/-- 'stratalaw15.ExpandKnown', WHERE WHAT IT READS IS OF BULK AT MOST 1048576: true; the input reads as it did. -/
def expandKnownUptoRow : OpenClaim := { program := "ytnmnhnhlggbijaadoor", sum := "207aa20b72b8d928f2aacb9d2d225aed48ecc6b5d5a0540e3304d23c45d31f34", func := "strata/stratalaw15.ExpandKnown", spec := "expandKnown", inPlace := ["internal/bytealg.IndexByteString", "internal/reflectlite.TypeOf", "internal/reflectlite.ValueOf", "(internal/reflectlite.Value).Type", "(internal/reflectlite.Value).IsNil", "(internal/reflectlite.Value).Elem", "(internal/reflectlite.Value).Set"], unfollowed := true, recurses := true, named := ["errors.errorType"], apart := false, laid := [("errors.errorType", laid_errors_errorType)], narrowed := true }
def ExpandKnownUptoSaid : Prop := expandKnownUptoRow.holds Tryd.pinned (OpenSpec.upto expandKnownSpec)

end Rows
end Go.Proofs.YtnmnhnhlggbijaaDoor
