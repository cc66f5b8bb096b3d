/-
  For the rows that ask the document's digest: its two listed tables.
-/
import Derived.Test.YtgjelinnpcekmaaGreatDoorRowD
import Derived.Test.YtgjelinnpcekmaaGreatDoorShaF
namespace Go.Proofs.YtgjelinnpcekmaaGreatDoor
open Go.ChangeShapes Go.WideShapes Go.ChangeAt Go.RowKit Err Plain Sha

theorem rtab_named : Tryz.prog.globalNamed "strata/strataref03.rounds" = some 2 := by kernel_rfl
theorem btab_named : Tryz.prog.globalNamed "strata/strataref03.begin" = some 0 := by kernel_rfl
theorem hInts_len : hInts.length = 8 := by simp [hInts, hTab]
theorem htab_ints (k : Nat) (hk : k < 8) : Value.int .u32 (hInts.getD k 0) = W (hTab.getD k 0) := by
  unfold W
  have hl : k < hTab.length := by simpa [hTab] using hk
  simp only [hInts, List.getD, List.getElem?_map, List.getElem?_eq_getElem hl, Option.map_some, Option.getD_some]
theorem rtab_row {W : World} {l : List (String × DataW Unit)} (h : laidMetH Tryz.prog l W) (hm : ("strata/strataref03.rounds", Rows.laid_strata_strataref03_rounds) ∈ l) : RTab W := by
  have ht : Lib.TabIs Tryz.prog W "strata/strataref03.rounds" .u32 kInts :=
    tab_of_laid (t := 106) (e := 79) (n := 64) rtab_named (by kernel_rfl) Tryz.underlying106 Tryz.underlying79 (by kernel_rfl) (by kernel_rfl) h hm
  intro k hk
  rw [← ktab_ints k hk]
  exact ht.cell rtab_named k (by rw [kInts_len]; exact hk)
theorem btab_row {W : World} {l : List (String × DataW Unit)} (h : laidMetH Tryz.prog l W) (hm : ("strata/strataref03.begin", Rows.laid_strata_strataref03_begin) ∈ l) : BTab W := by
  have ht : Lib.TabIs Tryz.prog W "strata/strataref03.begin" .u32 hInts :=
    tab_of_laid (t := 80) (e := 79) (n := 8) btab_named (by kernel_rfl) Tryz.underlying80 Tryz.underlying79 (by kernel_rfl) (by kernel_rfl) h hm
  intro k hk
  rw [← htab_ints k hk]
  exact ht.cell btab_named k (by rw [hInts_len]; exact hk)
end Go.Proofs.YtgjelinnpcekmaaGreatDoor
