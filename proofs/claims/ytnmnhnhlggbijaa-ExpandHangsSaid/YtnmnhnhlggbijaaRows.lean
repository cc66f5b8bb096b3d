/-
  No cell of these rows narrows 'for every input' (looked for: loops, veiled, ifaces, maps, wideKeys, modest, calm, conditions, laid).
  DERIVED. THE GIVEN ROWS OF THIS SEAT. 4 by the template 'for every input the law returns true; each argument reads behind the call as it read before'; 0 by the template 'total and deterministic' (their statements: YtnmnhnhlggbijaaTotals.lean).
  GIVEN WITH THE SEED: the statements are not yours to turn. If you find one false, say at which input.
  Laid BY PROGRAM, IN A SANDBOX (cutbox-rows.mjs): the forced cells as the released guide's own fill.sh prints them over the translation dd982b8ea07e9b22… (all of the seat's roots in one cut). By AI agents, Wed Nov 11 2026. No macro, syntax, notation, axiom, sorry.
-/
import Derived.Test.YtnmnhnhlggbijaaChecked
import GoSem.Claim
import GoSem.ClaimJoined
import GoSem.ClaimMapViews
import Derived.JoinedTies
import Derived.KernelRfl
namespace Go.Proofs.Ytnmnhnhlggbijaa
/- THE CELL 'sum', in the pinned program and in every row, IS THE sha256 OF THE DUMP (.gsa) THAT YtnmnhnhlggbijaaProg.lean LOADS. Nothing in Lean hashes anything: it is a label: what it is worth is what the hold of that sum in a sandbox is worth. -/
noncomputable def Try.pinned : Pinned := { name := "ytnmnhnhlggbijaa", sum := "dd982b8ea07e9b2280e8eeaadd7bd28cac60a86f536aa8abe9a56e896fe8e46a", checked := Try.checked }
namespace Rows
def none {H : Type} : Left H := { results := [], args := [] }

/-- 'stratalaw15.ExpandNames': WHATEVER THE INPUT: true; the input reads as it did. -/
def expandNamesSpec : ChangeSpec := { name := "expandNames", fn := fun _ => fun
  | [d1, d2] => { results := [.lit (.bool true)], args := [d1, d2] }
  | _ => none }
def expandNamesRow : OpenClaim := { program := "ytnmnhnhlggbijaa", sum := "dd982b8ea07e9b2280e8eeaadd7bd28cac60a86f536aa8abe9a56e896fe8e46a", func := "strata/stratalaw15.ExpandNames", spec := "expandNames", inPlace := ["internal/bytealg.IndexByteString"], unfollowed := true, recurses := true, apart := false }
def ExpandNamesSaid : Prop := expandNamesRow.holds Try.pinned (OpenSpec.ofChange expandNamesSpec)

/-- ITS FALSE NEIGHBOUR: 'it returns false'. Refute it at one input. -/
def expandNamesWrong : ChangeSpec := { name := "expandNames", fn := fun _ => fun
  | [d1, d2] => { results := [.lit (.bool false)], args := [d1, d2] }
  | _ => none }
def ExpandNamesWrongFalsely : Prop := expandNamesRow.holds Try.pinned (OpenSpec.ofChange expandNamesWrong)

/-- 'stratalaw15.ExpandJoins': WHATEVER THE INPUT: true; the input reads as it did. -/
def expandJoinsSpec : ChangeSpec := { name := "expandJoins", fn := fun _ => fun
  | [d1, d2, d3, d4] => { results := [.lit (.bool true)], args := [d1, d2, d3, d4] }
  | _ => none }
def expandJoinsRow : OpenClaim := { program := "ytnmnhnhlggbijaa", sum := "dd982b8ea07e9b2280e8eeaadd7bd28cac60a86f536aa8abe9a56e896fe8e46a", func := "strata/stratalaw15.ExpandJoins", spec := "expandJoins", inPlace := ["internal/bytealg.IndexByteString"], unfollowed := true, recurses := true, apart := false }
def ExpandJoinsSaid : Prop := expandJoinsRow.holds Try.pinned (OpenSpec.ofChange expandJoinsSpec)

/-- ITS FALSE NEIGHBOUR: 'it returns false'. Refute it at one input. -/
def expandJoinsWrong : ChangeSpec := { name := "expandJoins", fn := fun _ => fun
  | [d1, d2, d3, d4] => { results := [.lit (.bool false)], args := [d1, d2, d3, d4] }
  | _ => none }
def ExpandJoinsWrongFalsely : Prop := expandJoinsRow.holds Try.pinned (OpenSpec.ofChange expandJoinsWrong)

/-- 'stratalaw15.ExpandQuoted': WHATEVER THE INPUT: true; the input reads as it did. -/
def expandQuotedSpec : ChangeSpec := { name := "expandQuoted", fn := fun _ => fun
  | [d1, d2, d3] => { results := [.lit (.bool true)], args := [d1, d2, d3] }
  | _ => none }
def expandQuotedRow : OpenClaim := { program := "ytnmnhnhlggbijaa", sum := "dd982b8ea07e9b2280e8eeaadd7bd28cac60a86f536aa8abe9a56e896fe8e46a", func := "strata/stratalaw15.ExpandQuoted", spec := "expandQuoted", inPlace := ["internal/abi.NoEscape", "internal/bytealg.IndexByteString"], unfollowed := true, recurses := true, apart := false }
def ExpandQuotedSaid : Prop := expandQuotedRow.holds Try.pinned (OpenSpec.ofChange expandQuotedSpec)

/-- ITS FALSE NEIGHBOUR: 'it returns false'. Refute it at one input. -/
def expandQuotedWrong : ChangeSpec := { name := "expandQuoted", fn := fun _ => fun
  | [d1, d2, d3] => { results := [.lit (.bool false)], args := [d1, d2, d3] }
  | _ => none }
def ExpandQuotedWrongFalsely : Prop := expandQuotedRow.holds Try.pinned (OpenSpec.ofChange expandQuotedWrong)

/-- 'stratalaw15.ExpandHangs': WHATEVER THE INPUT: true; the input reads as it did. -/
def expandHangsSpec : ChangeSpec := { name := "expandHangs", fn := fun _ => fun
  | [d1, d2, d3, d4] => { results := [.lit (.bool true)], args := [d1, d2, d3, d4] }
  | _ => none }
def expandHangsRow : OpenClaim := { program := "ytnmnhnhlggbijaa", sum := "dd982b8ea07e9b2280e8eeaadd7bd28cac60a86f536aa8abe9a56e896fe8e46a", func := "strata/stratalaw15.ExpandHangs", spec := "expandHangs", inPlace := ["internal/bytealg.IndexByteString", "internal/reflectlite.TypeOf"], unfollowed := true, recurses := true, apart := false }
def ExpandHangsSaid : Prop := expandHangsRow.holds Try.pinned (OpenSpec.ofChange expandHangsSpec)

/-- ITS FALSE NEIGHBOUR: 'it returns false'. Refute it at one input. -/
def expandHangsWrong : ChangeSpec := { name := "expandHangs", fn := fun _ => fun
  | [d1, d2, d3, d4] => { results := [.lit (.bool false)], args := [d1, d2, d3, d4] }
  | _ => none }
def ExpandHangsWrongFalsely : Prop := expandHangsRow.holds Try.pinned (OpenSpec.ofChange expandHangsWrong)

/- THE SECOND FORM. 'bulk': how many values and letters a reading holds, each counted each time it is reached (what is shared counts as often as it is met; a slice's spare places count too). A statement '..UptoSaid' is the law's where the arguments, and the package variables that the reading takes, are together of bulk at most 1048576: NARROWER than '..Said'. Prove '..Said' where nothing that the law and all that it calls make is longer than what came in: it says more and counts as full. Else prove '..UptoSaid'. A law counts once. -/
mutual
def uptoBulk {H : Type} : DataW H → Nat
  | .lit (.string bytes) => bytes.length + 1
  | .lit _ => 1
  | .nil => 1
  | .ptr d => uptoBulk d + 1
  | .slice elems spare => uptoBulkAll elems + uptoBulkAll spare + 1
  | .agg parts => uptoBulkAll parts + 1
  | .iface _ d => uptoBulk d + 1
  | .map entries => uptoBulkEntries entries + 1
  | .held _ => 1
def uptoBulkAll {H : Type} : List (DataW H) → Nat
  | [] => 0
  | d :: r => uptoBulk d + uptoBulkAll r
def uptoBulkEntries {H : Type} : List (Lit × DataW H) → Nat
  | [] => 0
  | x :: r => uptoBulkEntry x + uptoBulkEntries r
def uptoBulkEntry {H : Type} : Lit × DataW H → Nat
  | (.string bytes, d) => bytes.length + uptoBulk d + 1
  | (_, d) => uptoBulk d + 1
 end
def uptoSmall : (H : Type) → List (DataW H) → Bool := fun _ ds => decide (uptoBulkAll ds ≤ 1048576)
def OpenSpec.upto (s : _root_.Go.ChangeSpec) : _root_.Go.OpenSpec := { _root_.Go.OpenSpec.ofChange s with cond := some uptoSmall }

/-- 'stratalaw15.ExpandNames', WHERE WHAT IT READS IS OF BULK AT MOST 1048576: true; the input reads as it did. -/
def expandNamesUptoRow : OpenClaim := { program := "ytnmnhnhlggbijaa", sum := "dd982b8ea07e9b2280e8eeaadd7bd28cac60a86f536aa8abe9a56e896fe8e46a", func := "strata/stratalaw15.ExpandNames", spec := "expandNames", inPlace := ["internal/bytealg.IndexByteString"], unfollowed := true, recurses := true, apart := false, narrowed := true }
def ExpandNamesUptoSaid : Prop := expandNamesUptoRow.holds Try.pinned (OpenSpec.upto expandNamesSpec)

/-- 'stratalaw15.ExpandJoins', WHERE WHAT IT READS IS OF BULK AT MOST 1048576: true; the input reads as it did. -/
def expandJoinsUptoRow : OpenClaim := { program := "ytnmnhnhlggbijaa", sum := "dd982b8ea07e9b2280e8eeaadd7bd28cac60a86f536aa8abe9a56e896fe8e46a", func := "strata/stratalaw15.ExpandJoins", spec := "expandJoins", inPlace := ["internal/bytealg.IndexByteString"], unfollowed := true, recurses := true, apart := false, narrowed := true }
def ExpandJoinsUptoSaid : Prop := expandJoinsUptoRow.holds Try.pinned (OpenSpec.upto expandJoinsSpec)

/-- 'stratalaw15.ExpandQuoted', WHERE WHAT IT READS IS OF BULK AT MOST 1048576: true; the input reads as it did. -/
def expandQuotedUptoRow : OpenClaim := { program := "ytnmnhnhlggbijaa", sum := "dd982b8ea07e9b2280e8eeaadd7bd28cac60a86f536aa8abe9a56e896fe8e46a", func := "strata/stratalaw15.ExpandQuoted", spec := "expandQuoted", inPlace := ["internal/abi.NoEscape", "internal/bytealg.IndexByteString"], unfollowed := true, recurses := true, apart := false, narrowed := true }
def ExpandQuotedUptoSaid : Prop := expandQuotedUptoRow.holds Try.pinned (OpenSpec.upto expandQuotedSpec)

/-- 'stratalaw15.ExpandHangs', WHERE WHAT IT READS IS OF BULK AT MOST 1048576: true; the input reads as it did. -/
def expandHangsUptoRow : OpenClaim := { program := "ytnmnhnhlggbijaa", sum := "dd982b8ea07e9b2280e8eeaadd7bd28cac60a86f536aa8abe9a56e896fe8e46a", func := "strata/stratalaw15.ExpandHangs", spec := "expandHangs", inPlace := ["internal/bytealg.IndexByteString", "internal/reflectlite.TypeOf"], unfollowed := true, recurses := true, apart := false, narrowed := true }
def ExpandHangsUptoSaid : Prop := expandHangsUptoRow.holds Try.pinned (OpenSpec.upto expandHangsSpec)

end Rows
end Go.Proofs.Ytnmnhnhlggbijaa
