/-
  The walk of the law DigestTexts at this seat's translation.
-/
import Derived.Test.YtgjelinnpcekmaaGreatDoorHexS
import Derived.Test.YtgjelinnpcekmaaGreatDoorLaw
namespace Go.Proofs.YtgjelinnpcekmaaGreatDoor
open Go.ChangeShapes Go.WideShapes Go.ChangeAt Go.RowKit Plain

theorem cellsDig : Tryz.prog.cellsOf 25 = 32 := by kernel_rfl

set_option maxHeartbeats 1000000 in
set_option maxRecDepth 100000 in
theorem digestTexts_any (bs : List UInt8) (hlen : bs.length = 32) (w : World) :
    Calls Tryz.prog 17 #[.agg (Lib.byteCells bs).toArray] w fun e w' => e = .returned (.bool true) ∧ Below w.heap.size w w' := by
  obtain ⟨i5, hi5, _, _, _⟩ := info_parts Bld.infoByte
  have heq := fun wx => run_eql_bytes (P := Tryz.prog) Tryz.underlying25 Tryz.underlying5 Bld.cellsByte hi5 bs bs hlen hlen wx
  have hi3 : (Tryz.prog.info? 25).map (·.size) = some (Lib.byteCells bs).toArray.size := by rw [info23]; simp [Lib.byteCells, hlen]
  have hz : (Lib.byteCells z32).toArray.size = (Lib.byteCells bs).toArray.size := by simp [Lib.byteCells, hlen, z32]
  have hpar : parseEnds (digText bs) = .tuple #[.agg (Lib.byteCells bs).toArray, .nilIface] := by
    unfold parseEnds; rw [digParse_digText bs hlen]
  have HP := Lib.hid hpar
  clear hpar
  have HL := Lib.hid hlen
  clear hlen
  go_enter Tryz.func17, Tryz.ntmps17
  go_wp2_with (refine wpList_load_row rfl 25 _ rfl _ rfl 25 _ _ _ (heap_alloc_new w _) Tryz.underlying25 rfl hi3 ?_)
  refine (Text_any bs HL.out _).mono ?_
  rintro e w1 ⟨rfl, hb1⟩
  go_wp2_with fail
  refine (Parse_any _ _).mono ?_
  rintro e w2 ⟨rfl, hb2⟩
  rw [show (⟨(digText bs).toArray⟩ : ByteArray).data.toList = digText bs from rfl, HP.out]
  have hbox : w2.heap[w.heap.size]? = some (.cells (Lib.byteCells bs).toArray 25 (0, 0)) := by
    rw [hb2.block _ (by have := hb1.size; simp at this; omega), hb1.block _ (by simp)]; exact heap_alloc_new w _
  have hbel : Below w.heap.size w w2 := ((Below.refl _ _).alloc (Nat.le_refl _) _).trans ((hb1.mono (by simp)).trans (hb2.mono (by have := hb1.size; simp at this; omega)))
  have hlt : w.heap.size < w2.heap.size := by have := hb1.size; have := hb2.size; simp at *; omega
  clear hb1 hb2
  have hz0 : 32 = (Lib.byteCells bs).toArray.size := by simp [Lib.byteCells, HL.out]
  have HZ := Lib.hid hz0
  clear hz hz0
  have hgl : ∀ (o : Obj), ((w2.alloc o).setRow w2.heap.size (Lib.byteCells bs).toArray).heap[w.heap.size]? = some (.cells (Lib.byteCells bs).toArray 25 (0, 0)) :=
    fun o => (setRow_other _ _ _ _ (Nat.ne_of_lt hlt)).trans ((Lib.alloc_old w2 _ _ hlt).trans hbox)
  have HG := Lib.hid hgl
  clear hgl
  go_wp2_with (first
    | (refine wpList_store_row rfl 25 _ _ rfl _ _ rfl rfl 25 _ (heap_alloc_new w2 _) hi3 HZ.out (one_byteCells _) ?_)
    | (refine wpList_load_row rfl 25 _ rfl w.heap.size rfl 25 (Lib.byteCells bs).toArray (0, 0) _ (HG.out _) Tryz.underlying25 rfl hi3 ?_))
  refine (refText_any bs HL.out _).mono ?_
  rintro e w3 ⟨rfl, hb3⟩
  have hbox1 : w3.heap[w.heap.size]? = some (.cells (Lib.byteCells bs).toArray 25 (0, 0)) := by
    rw [hb3.block _ (by simp; omega)]
    exact (setRow_other _ _ _ _ (Nat.ne_of_lt hlt)).trans ((Lib.alloc_old w2 _ _ hlt).trans hbox)
  have hbox2 : w3.heap[w2.heap.size]? = some (.cells (Lib.byteCells bs).toArray 25 (0, 0)) := by
    rw [hb3.block _ (by simp)]
    exact setRow_heap _ _ _ _ _ _ (heap_alloc_new w2 _)
  have hfin : Below w.heap.size w w3 := (setRow_below (hbel.alloc (Nat.le_of_lt hlt) _) (Nat.le_of_lt hlt) _).trans (hb3.mono (by simp; omega))
  have HF := Lib.hid hfin
  clear hb3 hbox hfin hbel hlt
  go_wp2_with (first
    | (refine wpList_load_row_g rfl 25 _ rfl _ rfl 25 _ _ _ hbox1 Tryz.underlying25 rfl hi3 ?_)
    | (refine wpList_load_row_g rfl 25 _ rfl _ rfl 25 _ _ _ hbox2 Tryz.underlying25 rfl hi3 ?_))
  go_ret
  exact ⟨rfl, HF.out⟩

end Go.Proofs.YtgjelinnpcekmaaGreatDoor
