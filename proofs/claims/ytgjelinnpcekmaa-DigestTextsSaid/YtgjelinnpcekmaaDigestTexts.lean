/-
  PROVED: stratalaw03.DigestTexts returns true for every digest of 32 bytes: its text is the reference's text, and is read back as the same digest without an error. Conditions: none beyond the row's own.
-/
import Derived.Test.YtgjelinnpcekmaaHexS
import Derived.Test.YtgjelinnpcekmaaLaw
import Derived.Test.YtgjelinnpcekmaaRows
namespace Go.Proofs.Ytgjelinnpcekmaa
open Go.ChangeShapes Go.WideShapes Go.ChangeAt Go.RowKit Plain

theorem cellsDig : Try.prog.cellsOf 23 = 32 := by kernel_rfl

set_option maxHeartbeats 1000000 in
set_option maxRecDepth 100000 in
theorem digestTexts_any (bs : List UInt8) (hlen : bs.length = 32) (w : World) :
    Calls Try.prog 3 #[.agg (Lib.byteCells bs).toArray] w fun e w' => e = .returned (.bool true) ∧ Below w.heap.size w w' := by
  obtain ⟨i5, hi5, _, _, _⟩ := info_parts Bld.infoByte
  have heq := fun wx => run_eql_bytes (P := Try.prog) Try.underlying23 Try.underlying5 Bld.cellsByte hi5 bs bs hlen hlen wx
  have hi3 : (Try.prog.info? 23).map (·.size) = some (Lib.byteCells bs).toArray.size := by rw [info23]; simp [Lib.byteCells, hlen]
  have hz : (Lib.byteCells z32).toArray.size = (Lib.byteCells bs).toArray.size := by simp [Lib.byteCells, hlen, z32]
  have hpar : parseEnds (digText bs) = .tuple #[.agg (Lib.byteCells bs).toArray, .nilIface] := by
    unfold parseEnds; rw [digParse_digText bs hlen]
  have HP := Lib.hid hpar
  clear hpar
  have HL := Lib.hid hlen
  clear hlen
  go_enter Try.func3, Try.ntmps3
  go_wp2_with (refine wpList_load_row rfl 23 _ rfl _ rfl 23 _ _ _ (heap_alloc_new w _) Try.underlying23 rfl hi3 ?_)
  refine (Text_any bs HL.out _).mono ?_
  rintro e w1 ⟨rfl, hb1⟩
  go_wp2_with fail
  refine (Parse_any _ _).mono ?_
  rintro e w2 ⟨rfl, hb2⟩
  rw [show (⟨(digText bs).toArray⟩ : ByteArray).data.toList = digText bs from rfl, HP.out]
  have hbox : w2.heap[w.heap.size]? = some (.cells (Lib.byteCells bs).toArray 23 (0, 0)) := by
    rw [hb2.block _ (by have := hb1.size; simp at this; omega), hb1.block _ (by simp)]; exact heap_alloc_new w _
  have hbel : Below w.heap.size w w2 := ((Below.refl _ _).alloc (Nat.le_refl _) _).trans ((hb1.mono (by simp)).trans (hb2.mono (by have := hb1.size; simp at this; omega)))
  have hlt : w.heap.size < w2.heap.size := by have := hb1.size; have := hb2.size; simp at *; omega
  clear hb1 hb2
  have hz0 : 32 = (Lib.byteCells bs).toArray.size := by simp [Lib.byteCells, HL.out]
  have HZ := Lib.hid hz0
  clear hz hz0
  have hgl : ∀ (o : Obj), ((w2.alloc o).setRow w2.heap.size (Lib.byteCells bs).toArray).heap[w.heap.size]? = some (.cells (Lib.byteCells bs).toArray 23 (0, 0)) :=
    fun o => (setRow_other _ _ _ _ (Nat.ne_of_lt hlt)).trans ((Lib.alloc_old w2 _ _ hlt).trans hbox)
  have HG := Lib.hid hgl
  clear hgl
  go_wp2_with (first
    | (refine wpList_store_row rfl 23 _ _ rfl _ _ rfl rfl 23 _ (heap_alloc_new w2 _) hi3 HZ.out (one_byteCells _) ?_)
    | (refine wpList_load_row rfl 23 _ rfl w.heap.size rfl 23 (Lib.byteCells bs).toArray (0, 0) _ (HG.out _) Try.underlying23 rfl hi3 ?_))
  refine (refText_any bs HL.out _).mono ?_
  rintro e w3 ⟨rfl, hb3⟩
  have hbox1 : w3.heap[w.heap.size]? = some (.cells (Lib.byteCells bs).toArray 23 (0, 0)) := by
    rw [hb3.block _ (by simp; omega)]
    exact (setRow_other _ _ _ _ (Nat.ne_of_lt hlt)).trans ((Lib.alloc_old w2 _ _ hlt).trans hbox)
  have hbox2 : w3.heap[w2.heap.size]? = some (.cells (Lib.byteCells bs).toArray 23 (0, 0)) := by
    rw [hb3.block _ (by simp)]
    exact setRow_heap _ _ _ _ _ _ (heap_alloc_new w2 _)
  have hfin : Below w.heap.size w w3 := (setRow_below (hbel.alloc (Nat.le_of_lt hlt) _) (Nat.le_of_lt hlt) _).trans (hb3.mono (by simp; omega))
  have HF := Lib.hid hfin
  clear hb3 hbox hfin hbel hlt
  go_wp2_with (first
    | (refine wpList_load_row_g rfl 23 _ rfl _ rfl 23 _ _ _ hbox1 Try.underlying23 rfl hi3 ?_)
    | (refine wpList_load_row_g rfl 23 _ rfl _ rfl 23 _ _ _ hbox2 Try.underlying23 rfl hi3 ?_))
  go_ret
  exact ⟨rfl, HF.out⟩

theorem digestTexts_readable : ∀ t ∈ Try.f3.params.toList, Try.prog.readableRec t = true ∧ t < Try.prog.types.size := by
  intro t ht
  rw [Try.params3] at ht
  simp only [List.mem_cons, List.not_mem_nil, or_false] at ht
  subst ht
  exact ⟨by kernel_rfl, of_decide_eq_true (by kernel_rfl)⟩

set_option maxRecDepth 100000 in
theorem digestTexts_lifted (os : Os) (started : os.Started) (H : Type) (enc : TypeId × Value → H) :
    ReturnsInHanded {} Try.checked os 3 .any (Rows.digestTextsSpec.pre6 enc Try.prog Try.f3 Rows.digestTextsRow.domain false) (Rows.digestTextsSpec.post enc Try.prog Try.f3 false true false false) := by
  refine returnsInHanded_of_change (C := Try.checked) own started (by kernel_rfl) Try.func3
    (ChangeSpec.witness6 (enc := enc) (C := Try.checked) false ⟨#[], #[.agg (Lib.byteCells z32).toArray], []⟩ 8 (by kernel_rfl) (by kernel_rfl) (by kernel_rfl) (by kernel_rfl)) ?_
  intro W base args ds gs before hval0 hW hcnd _
  have hval : ∀ (j : Nat) t v, Try.f3.params[j]? = some t → args[j]? = some v → Value.okWide Try.prog W .any base t v := hval0
  have hW' := hW
  obtain ⟨p, q, hA0, hV, rfl, hfz, hnd⟩ := hW
  have hA : DataW.TrodAll enc Try.prog W 0 (fun _ => true) true Try.f3.params.toList args.toList ds p := hA0
  rw [Try.params3] at hA hval
  obtain ⟨v0, d0, rfl, rfl, h0⟩ := trodAll_one hA
  obtain ⟨bs, hlen, rfl⟩ := open_bytes Try.underlying23 Try.underlying5 Bld.cellsByte cellsDig (hval 0 23 v0 rfl rfl) h0
  refine (digestTexts_any bs hlen W).mono fun e W' ⟨he, hw⟩ => ?_
  subst he
  exact ⟨_, rfl, law_post (tb := 4) hW' rfl (by kernel_rfl) Try.underlying4 laidOut digestTexts_readable (fun hg => by subst hg; rfl) hw⟩

theorem digestTexts_holds : Rows.DigestTextsSaid :=
  OpenClaim.holds_of_wide 3 Try.f3 rfl rfl rfl rfl rfl rfl rfl ⟨rfl, rfl, rfl, rfl, rfl⟩ rfl rfl rfl rfl rfl (by kernel_rfl) Try.func3 (by kernel_rfl)
    (of_decide_eq_true (by kernel_rfl)) (by unfold Func.isWrapper; rw [if_neg (of_decide_eq_false (by kernel_rfl))]; exact ⟨rfl, rfl⟩)
    (fun os started H enc _ => digestTexts_lifted os started H enc)
#print axioms digestTexts_holds
end Go.Proofs.Ytgjelinnpcekmaa
