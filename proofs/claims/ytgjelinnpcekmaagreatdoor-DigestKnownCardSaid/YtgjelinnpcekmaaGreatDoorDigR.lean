/-
  The walk of stratalaw03.DigestParses at this seat's translation.
-/
import Derived.Test.YtgjelinnpcekmaaGreatDoorPrsR
import Derived.Test.YtgjelinnpcekmaaGreatDoorDigW
import Derived.Test.YtgjelinnpcekmaaGreatDoorJE
import Derived.Deep.DeepCutAuto
namespace Go.Proofs.YtgjelinnpcekmaaGreatDoor
open Go.RowKit Sha Plain Err

theorem digParse_len {s d : List UInt8} (h : digParse s = some d) : d.length = 32 := by
  unfold digParse at h
  split at h
  · injection h with h; rw [← h]; exact accL_length _ _
  · cases h
theorem plain_nil0 (w : World) (_ : ErrTab w) : Calls Tryz.prog 35 #[.nilIface, .int .i64 0] w fun e w' => e = .returned (.bool true) ∧ Below w.heap.size w w' := by
  have := plain_nil 0 w
  rwa [decide_eq_true rfl] at this
theorem plain_form (w : World) (h : ErrTab w) : Calls Tryz.prog 35 #[.iface 85 (.int .i64 4), .int .i64 4] w fun e w' => e = .returned (.bool true) ∧ Below w.heap.size w w' := by
  have := plain_errno 4 4 (by omega) (by omega) w h
  rwa [decide_eq_true rfl] at this
theorem eq_cells {i5 : TypeInfo} (hi5 : Tryz.prog.info? 5 = some i5) (d : List UInt8) (hd : d.length = 32) (w : World) : (binOp .eql 25 (.agg (Lib.byteCells d).toArray) (.agg (Lib.byteCells d).toArray)).run Tryz.prog w = .ok (.bool true) w := by
  have := run_eql_bytes (P := Tryz.prog) Tryz.underlying25 Tryz.underlying5 Bld.cellsByte hi5 d d hd hd w
  rwa [decide_eq_true rfl] at this
set_option maxHeartbeats 8000000 in
set_option maxRecDepth 100000 in
theorem digestParses_any (s : List UInt8) (w : World) (hk : KTab w) (ht : Tab10 w) (hg : ErrTab w) :
    Calls Tryz.prog 16 #[.string ⟨s.toArray⟩] w fun e w' => e = .returned (.bool true) ∧ Below w.heap.size w w' := by
  have HK := Lib.hid hk
  have HT := Lib.hid ht
  have HG := Lib.hid hg
  obtain ⟨i5, hi5⟩ := info5
  clear hk ht hg
  go_enter Tryz.func16, Tryz.ntmps16
  cases hd : digParse s with
  | some d =>
    have hdl := digParse_len hd
    have HE := eq_cells hi5 d hdl
    have hi3 : (Tryz.prog.info? 25).map (·.size) = some (Lib.byteCells d).toArray.size := by rw [info23]; simp [Lib.byteCells, hdl]
    have hsz : (#[Value.int IntKind.u8 0, Value.int IntKind.u8 0, Value.int IntKind.u8 0, Value.int IntKind.u8 0, Value.int IntKind.u8 0, Value.int IntKind.u8 0, Value.int IntKind.u8 0, Value.int IntKind.u8 0, Value.int IntKind.u8 0, Value.int IntKind.u8 0, Value.int IntKind.u8 0, Value.int IntKind.u8 0, Value.int IntKind.u8 0, Value.int IntKind.u8 0, Value.int IntKind.u8 0, Value.int IntKind.u8 0, Value.int IntKind.u8 0, Value.int IntKind.u8 0, Value.int IntKind.u8 0, Value.int IntKind.u8 0, Value.int IntKind.u8 0, Value.int IntKind.u8 0, Value.int IntKind.u8 0, Value.int IntKind.u8 0, Value.int IntKind.u8 0, Value.int IntKind.u8 0, Value.int IntKind.u8 0, Value.int IntKind.u8 0, Value.int IntKind.u8 0, Value.int IntKind.u8 0, Value.int IntKind.u8 0, Value.int IntKind.u8 0] : Array Value).size = (Lib.byteCells d).toArray.size := by simp [Lib.byteCells, hdl]
    clear hdl hi5
    go_wp2_with fail
    refine (refParse_any s w).mono ?_
    rintro e w1 ⟨rfl, hb1⟩
    have HB1 := Lib.hid hb1
    clear hb1
    unfold refEnds
    rw [hd]
    simp only
    go_wp2_with (refine wpList_store_row rfl 25 _ _ rfl _ _ rfl rfl 25 _ (heap_alloc_new _ _) hi3 hsz (one_byteCells _) ?_)
    have hf1 := fresh_row w1 #[Value.int IntKind.u8 0, Value.int IntKind.u8 0, Value.int IntKind.u8 0, Value.int IntKind.u8 0, Value.int IntKind.u8 0, Value.int IntKind.u8 0, Value.int IntKind.u8 0, Value.int IntKind.u8 0, Value.int IntKind.u8 0, Value.int IntKind.u8 0, Value.int IntKind.u8 0, Value.int IntKind.u8 0, Value.int IntKind.u8 0, Value.int IntKind.u8 0, Value.int IntKind.u8 0, Value.int IntKind.u8 0, Value.int IntKind.u8 0, Value.int IntKind.u8 0, Value.int IntKind.u8 0, Value.int IntKind.u8 0, Value.int IntKind.u8 0, Value.int IntKind.u8 0, Value.int IntKind.u8 0, Value.int IntKind.u8 0, Value.int IntKind.u8 0, Value.int IntKind.u8 0, Value.int IntKind.u8 0, Value.int IntKind.u8 0, Value.int IntKind.u8 0, Value.int IntKind.u8 0, Value.int IntKind.u8 0, Value.int IntKind.u8 0] (Lib.byteCells d).toArray 25
    generalize ((w1.alloc (.cells #[Value.int IntKind.u8 0, Value.int IntKind.u8 0, Value.int IntKind.u8 0, Value.int IntKind.u8 0, Value.int IntKind.u8 0, Value.int IntKind.u8 0, Value.int IntKind.u8 0, Value.int IntKind.u8 0, Value.int IntKind.u8 0, Value.int IntKind.u8 0, Value.int IntKind.u8 0, Value.int IntKind.u8 0, Value.int IntKind.u8 0, Value.int IntKind.u8 0, Value.int IntKind.u8 0, Value.int IntKind.u8 0, Value.int IntKind.u8 0, Value.int IntKind.u8 0, Value.int IntKind.u8 0, Value.int IntKind.u8 0, Value.int IntKind.u8 0, Value.int IntKind.u8 0, Value.int IntKind.u8 0, Value.int IntKind.u8 0, Value.int IntKind.u8 0, Value.int IntKind.u8 0, Value.int IntKind.u8 0, Value.int IntKind.u8 0, Value.int IntKind.u8 0, Value.int IntKind.u8 0, Value.int IntKind.u8 0, Value.int IntKind.u8 0] 25)).setRow w1.heap.size (Lib.byteCells d).toArray) = w2 at hf1
    have HD2 := Lib.hid hf1.1
    have HB2 := Lib.hid (HB1.out.trans (hf1.2.1.mono HB1.out.size))
    clear hf1 HB1
    generalize w1.heap.size = g1 at HD2
    refine (Parse_any ⟨s.toArray⟩ w2).mono ?_
    rintro e w3 ⟨rfl, hb3⟩
    have HD3 := Lib.hid (HD2.out.below hb3 HD2.out.lt)
    have HB3 := Lib.hid (HB2.out.trans (hb3.mono HB2.out.size))
    have HL3 : Hid (g1 < w3.heap.size) := Lib.hid HD3.out.lt
    clear hb3 HB2 HD2
    rw [show ((⟨s.toArray⟩ : ByteArray)).data.toList = s by simp]
    unfold parseEnds
    rw [hd]
    simp only
    go_upto_region 3 with (refine wpList_store_row rfl 25 _ _ rfl _ _ rfl rfl 25 _ (heap_alloc_new _ _) hi3 hsz (one_byteCells _) ?_)
    have hf3 := fresh_row w3 #[Value.int IntKind.u8 0, Value.int IntKind.u8 0, Value.int IntKind.u8 0, Value.int IntKind.u8 0, Value.int IntKind.u8 0, Value.int IntKind.u8 0, Value.int IntKind.u8 0, Value.int IntKind.u8 0, Value.int IntKind.u8 0, Value.int IntKind.u8 0, Value.int IntKind.u8 0, Value.int IntKind.u8 0, Value.int IntKind.u8 0, Value.int IntKind.u8 0, Value.int IntKind.u8 0, Value.int IntKind.u8 0, Value.int IntKind.u8 0, Value.int IntKind.u8 0, Value.int IntKind.u8 0, Value.int IntKind.u8 0, Value.int IntKind.u8 0, Value.int IntKind.u8 0, Value.int IntKind.u8 0, Value.int IntKind.u8 0, Value.int IntKind.u8 0, Value.int IntKind.u8 0, Value.int IntKind.u8 0, Value.int IntKind.u8 0, Value.int IntKind.u8 0, Value.int IntKind.u8 0, Value.int IntKind.u8 0, Value.int IntKind.u8 0] (Lib.byteCells d).toArray 25
    generalize ((w3.alloc (.cells #[Value.int IntKind.u8 0, Value.int IntKind.u8 0, Value.int IntKind.u8 0, Value.int IntKind.u8 0, Value.int IntKind.u8 0, Value.int IntKind.u8 0, Value.int IntKind.u8 0, Value.int IntKind.u8 0, Value.int IntKind.u8 0, Value.int IntKind.u8 0, Value.int IntKind.u8 0, Value.int IntKind.u8 0, Value.int IntKind.u8 0, Value.int IntKind.u8 0, Value.int IntKind.u8 0, Value.int IntKind.u8 0, Value.int IntKind.u8 0, Value.int IntKind.u8 0, Value.int IntKind.u8 0, Value.int IntKind.u8 0, Value.int IntKind.u8 0, Value.int IntKind.u8 0, Value.int IntKind.u8 0, Value.int IntKind.u8 0, Value.int IntKind.u8 0, Value.int IntKind.u8 0, Value.int IntKind.u8 0, Value.int IntKind.u8 0, Value.int IntKind.u8 0, Value.int IntKind.u8 0, Value.int IntKind.u8 0, Value.int IntKind.u8 0] 25)).setRow w3.heap.size (Lib.byteCells d).toArray) = w4 at hf3
    have hy4 := hf3.1
    have hx4 := HD3.out.below hf3.2.1 HL3.out
    have HB4 := Lib.hid (HB3.out.trans (hf3.2.1.mono HB3.out.size))
    clear hf3 HB3 HD3 HL3
    generalize w3.heap.size = g2 at hy4
    have hq1 := HE
    generalize (Lib.byteCells d).toArray = AD at hq1 hi3 hx4 hy4
    have hy5 : w4.heap[g2]? = some (.cells AD 25 (0, 0)) := hy4
    have hx5 : w4.heap[g1]? = some (.cells AD 25 (0, 0)) := hx4
    go_wp2_with (first | (refine wpList_load_row rfl 25 _ rfl g2 rfl 25 _ _ _ hy5 Tryz.underlying25 rfl hi3 ?_) | (refine wpList_load_row rfl 25 _ rfl g1 rfl 25 _ _ _ hx5 Tryz.underlying25 rfl hi3 ?_))
    refine (plain_nil0 w4 (errTab_below HG.out HB4.out (errTab_lt HG.out))).mono ?_
    rintro e w5 ⟨rfl, hb5⟩
    have HB5 := Lib.hid (HB4.out.trans (hb5.mono HB4.out.size))
    clear hb5 HB4 hx4 hy4 hx5 hy5
    go_wp2_with fail
    refine (works_any w5 (HK.out.below HB5.out) (HT.out.below HB5.out HT.out.lt)).mono ?_
    rintro e w9 ⟨rfl, hb9⟩
    have HB9 := Lib.hid (HB5.out.trans (hb9.mono HB5.out.size))
    clear hb9 HB5
    go_wp2
    go_ret
    exact ⟨rfl, HB9.out⟩
  | none =>
    have HE := eq_cells hi5 z32 (by simp [z32])
    have hi3 : (Tryz.prog.info? 25).map (·.size) = some (Lib.byteCells z32).toArray.size := by rw [info23]; simp [Lib.byteCells, z32]
    have hsz : (#[Value.int IntKind.u8 0, Value.int IntKind.u8 0, Value.int IntKind.u8 0, Value.int IntKind.u8 0, Value.int IntKind.u8 0, Value.int IntKind.u8 0, Value.int IntKind.u8 0, Value.int IntKind.u8 0, Value.int IntKind.u8 0, Value.int IntKind.u8 0, Value.int IntKind.u8 0, Value.int IntKind.u8 0, Value.int IntKind.u8 0, Value.int IntKind.u8 0, Value.int IntKind.u8 0, Value.int IntKind.u8 0, Value.int IntKind.u8 0, Value.int IntKind.u8 0, Value.int IntKind.u8 0, Value.int IntKind.u8 0, Value.int IntKind.u8 0, Value.int IntKind.u8 0, Value.int IntKind.u8 0, Value.int IntKind.u8 0, Value.int IntKind.u8 0, Value.int IntKind.u8 0, Value.int IntKind.u8 0, Value.int IntKind.u8 0, Value.int IntKind.u8 0, Value.int IntKind.u8 0, Value.int IntKind.u8 0, Value.int IntKind.u8 0] : Array Value).size = (Lib.byteCells z32).toArray.size := by simp [Lib.byteCells, z32]
    clear hi5
    go_wp2_with fail
    refine (refParse_any s w).mono ?_
    rintro e w1 ⟨rfl, hb1⟩
    have HB1 := Lib.hid hb1
    clear hb1
    unfold refEnds
    rw [hd]
    simp only
    go_wp2_with (refine wpList_store_row rfl 25 _ _ rfl _ _ rfl rfl 25 _ (heap_alloc_new _ _) hi3 hsz (one_byteCells _) ?_)
    have hf1 := fresh_row w1 #[Value.int IntKind.u8 0, Value.int IntKind.u8 0, Value.int IntKind.u8 0, Value.int IntKind.u8 0, Value.int IntKind.u8 0, Value.int IntKind.u8 0, Value.int IntKind.u8 0, Value.int IntKind.u8 0, Value.int IntKind.u8 0, Value.int IntKind.u8 0, Value.int IntKind.u8 0, Value.int IntKind.u8 0, Value.int IntKind.u8 0, Value.int IntKind.u8 0, Value.int IntKind.u8 0, Value.int IntKind.u8 0, Value.int IntKind.u8 0, Value.int IntKind.u8 0, Value.int IntKind.u8 0, Value.int IntKind.u8 0, Value.int IntKind.u8 0, Value.int IntKind.u8 0, Value.int IntKind.u8 0, Value.int IntKind.u8 0, Value.int IntKind.u8 0, Value.int IntKind.u8 0, Value.int IntKind.u8 0, Value.int IntKind.u8 0, Value.int IntKind.u8 0, Value.int IntKind.u8 0, Value.int IntKind.u8 0, Value.int IntKind.u8 0] (Lib.byteCells z32).toArray 25
    generalize ((w1.alloc (.cells #[Value.int IntKind.u8 0, Value.int IntKind.u8 0, Value.int IntKind.u8 0, Value.int IntKind.u8 0, Value.int IntKind.u8 0, Value.int IntKind.u8 0, Value.int IntKind.u8 0, Value.int IntKind.u8 0, Value.int IntKind.u8 0, Value.int IntKind.u8 0, Value.int IntKind.u8 0, Value.int IntKind.u8 0, Value.int IntKind.u8 0, Value.int IntKind.u8 0, Value.int IntKind.u8 0, Value.int IntKind.u8 0, Value.int IntKind.u8 0, Value.int IntKind.u8 0, Value.int IntKind.u8 0, Value.int IntKind.u8 0, Value.int IntKind.u8 0, Value.int IntKind.u8 0, Value.int IntKind.u8 0, Value.int IntKind.u8 0, Value.int IntKind.u8 0, Value.int IntKind.u8 0, Value.int IntKind.u8 0, Value.int IntKind.u8 0, Value.int IntKind.u8 0, Value.int IntKind.u8 0, Value.int IntKind.u8 0, Value.int IntKind.u8 0] 25)).setRow w1.heap.size (Lib.byteCells z32).toArray) = w2 at hf1
    have HD2 := Lib.hid hf1.1
    have HB2 := Lib.hid (HB1.out.trans (hf1.2.1.mono HB1.out.size))
    clear hf1 HB1
    generalize w1.heap.size = g1 at HD2
    refine (Parse_any ⟨s.toArray⟩ w2).mono ?_
    rintro e w3 ⟨rfl, hb3⟩
    have HD3 := Lib.hid (HD2.out.below hb3 HD2.out.lt)
    have HB3 := Lib.hid (HB2.out.trans (hb3.mono HB2.out.size))
    have HL3 : Hid (g1 < w3.heap.size) := Lib.hid HD3.out.lt
    clear hb3 HB2 HD2
    rw [show ((⟨s.toArray⟩ : ByteArray)).data.toList = s by simp]
    unfold parseEnds
    rw [hd]
    simp only
    go_upto_region 3 with (refine wpList_store_row rfl 25 _ _ rfl _ _ rfl rfl 25 _ (heap_alloc_new _ _) hi3 hsz (one_byteCells _) ?_)
    have hf3 := fresh_row w3 #[Value.int IntKind.u8 0, Value.int IntKind.u8 0, Value.int IntKind.u8 0, Value.int IntKind.u8 0, Value.int IntKind.u8 0, Value.int IntKind.u8 0, Value.int IntKind.u8 0, Value.int IntKind.u8 0, Value.int IntKind.u8 0, Value.int IntKind.u8 0, Value.int IntKind.u8 0, Value.int IntKind.u8 0, Value.int IntKind.u8 0, Value.int IntKind.u8 0, Value.int IntKind.u8 0, Value.int IntKind.u8 0, Value.int IntKind.u8 0, Value.int IntKind.u8 0, Value.int IntKind.u8 0, Value.int IntKind.u8 0, Value.int IntKind.u8 0, Value.int IntKind.u8 0, Value.int IntKind.u8 0, Value.int IntKind.u8 0, Value.int IntKind.u8 0, Value.int IntKind.u8 0, Value.int IntKind.u8 0, Value.int IntKind.u8 0, Value.int IntKind.u8 0, Value.int IntKind.u8 0, Value.int IntKind.u8 0, Value.int IntKind.u8 0] (Lib.byteCells z32).toArray 25
    generalize ((w3.alloc (.cells #[Value.int IntKind.u8 0, Value.int IntKind.u8 0, Value.int IntKind.u8 0, Value.int IntKind.u8 0, Value.int IntKind.u8 0, Value.int IntKind.u8 0, Value.int IntKind.u8 0, Value.int IntKind.u8 0, Value.int IntKind.u8 0, Value.int IntKind.u8 0, Value.int IntKind.u8 0, Value.int IntKind.u8 0, Value.int IntKind.u8 0, Value.int IntKind.u8 0, Value.int IntKind.u8 0, Value.int IntKind.u8 0, Value.int IntKind.u8 0, Value.int IntKind.u8 0, Value.int IntKind.u8 0, Value.int IntKind.u8 0, Value.int IntKind.u8 0, Value.int IntKind.u8 0, Value.int IntKind.u8 0, Value.int IntKind.u8 0, Value.int IntKind.u8 0, Value.int IntKind.u8 0, Value.int IntKind.u8 0, Value.int IntKind.u8 0, Value.int IntKind.u8 0, Value.int IntKind.u8 0, Value.int IntKind.u8 0, Value.int IntKind.u8 0] 25)).setRow w3.heap.size (Lib.byteCells z32).toArray) = w4 at hf3
    have hy4 := hf3.1
    have hx4 := HD3.out.below hf3.2.1 HL3.out
    have HB4 := Lib.hid (HB3.out.trans (hf3.2.1.mono HB3.out.size))
    clear hf3 HB3 HD3 HL3
    generalize w3.heap.size = g2 at hy4
    have hq1 := HE
    generalize (Lib.byteCells z32).toArray = AD at hq1 hi3 hx4 hy4
    have hy5 : w4.heap[g2]? = some (.cells AD 25 (0, 0)) := hy4
    have hx5 : w4.heap[g1]? = some (.cells AD 25 (0, 0)) := hx4
    go_wp2_with (first | (refine wpList_load_row rfl 25 _ rfl g2 rfl 25 _ _ _ hy5 Tryz.underlying25 rfl hi3 ?_) | (refine wpList_load_row rfl 25 _ rfl g1 rfl 25 _ _ _ hx5 Tryz.underlying25 rfl hi3 ?_))
    refine (plain_form w4 (errTab_below HG.out HB4.out (errTab_lt HG.out))).mono ?_
    rintro e w5 ⟨rfl, hb5⟩
    have HB5 := Lib.hid (HB4.out.trans (hb5.mono HB4.out.size))
    clear hb5 HB4 hx4 hy4 hx5 hy5
    go_wp2_with fail
    refine (works_any w5 (HK.out.below HB5.out) (HT.out.below HB5.out HT.out.lt)).mono ?_
    rintro e w9 ⟨rfl, hb9⟩
    have HB9 := Lib.hid (HB5.out.trans (hb9.mono HB5.out.size))
    clear hb9 HB5
    go_wp2
    go_ret
    exact ⟨rfl, HB9.out⟩
end Go.Proofs.YtgjelinnpcekmaaGreatDoor
