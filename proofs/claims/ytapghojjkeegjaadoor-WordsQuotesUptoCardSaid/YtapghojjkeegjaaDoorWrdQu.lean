/-
  The walk of stratalaw13.WordsQuotes at this seat's translation.
-/
import Derived.Test.YtapghojjkeegjaaDoorWrdV
import Derived.Test.YtapghojjkeegjaaDoorWrdK
namespace Go.Proofs.YtapghojjkeegjaaDoor
open Go.RowKit Wrd Err

theorem wordsQuotes_any (s : List UInt8) (hs : s.length ≤ 1048576) (c : UInt8) (w : World) (hg : ErrTab w) :
    Calls Tryd.prog 4 #[.string ⟨s.toArray⟩, .int .u8 c.toNat] w fun e w' => e = .returned (.bool true) ∧ Below w.heap.size w w' := by
  have HG := Lib.hid hg
  clear hg
  go_enter Tryd.func4, Tryd.ntmps4
  go_wp2_with fail
  refine (Quote_any s (by omega) c _).mono ?_
  rintro e1 w1 ⟨rfl, hb1⟩
  have B1 := Lib.hid hb1
  clear hb1
  go_wp2_with fail
  refine (RefQuote_any s (by omega) c _).mono ?_
  rintro e2 w2 ⟨rfl, hb2⟩
  have B2 := Lib.hid (B1.out.trans (hb2.mono B1.out.size))
  clear hb2 B1
  go_wp2_with fail
  refine (works_any _ (errTab_below HG.out B2.out (errTab_lt HG.out))).mono ?_
  rintro e3 w3 ⟨rfl, hb3⟩
  have B3 := Lib.hid (B2.out.trans (hb3.mono B2.out.size))
  clear hb3 B2
  go_wp2
  go_ret
  exact ⟨rfl, B3.out⟩
end Go.Proofs.YtapghojjkeegjaaDoor
