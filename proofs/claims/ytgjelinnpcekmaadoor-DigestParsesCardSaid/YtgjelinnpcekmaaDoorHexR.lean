/-
  The walk of strataref03.Text at this seat's translation: the text of a digest of 32 bytes.
-/
import Derived.Test.YtgjelinnpcekmaaDoorHexW
import Derived.BigQuiet
import Derived.Deep.QuietTactic
namespace Go.Proofs.YtgjelinnpcekmaaDoor
open Go.RowKit Plain

theorem add_bytes (l m : List UInt8) (h : l.length + m.length ≤ 9223372036854775807) (w : World) : (Op.stringOp .add ⟨l.toArray⟩ ⟨m.toArray⟩).run Tryd.prog w = .ok (.string ⟨(l ++ m).toArray⟩) w := by
  rw [run_string_add_sum w _ _ (by simpa [ByteArray.size] using h), ByteArray.mk_append_mk]
theorem slice_digit (n : Nat) (h : n < 16) (i j : Int) (hi : i = n) (hj : j = n + 1) (w : World) :
    (Instr.slice 9 (.string ⟨#[48, 49, 50, 51, 52, 53, 54, 55, 56, 57, 97, 98, 99, 100, 101, 102]⟩) (some (.int .u8 i)) (some (.int .u8 j)) none).run Tryd.prog w = .ok (.string ⟨#[hexc n]⟩) w := by
  subst hi hj
  rw [run_slice_string w _ _ _ _ _ _ Tryd.underlying9 (by omega) (by omega) (by simp [ByteArray.size]; omega)]
  have key : ∀ m : Fin 16, (⟨#[48, 49, 50, 51, 52, 53, 54, 55, 56, 57, 97, 98, 99, 100, 101, 102]⟩ : ByteArray).extract ((m.val : Int).toNat) (((m.val : Int) + 1).toNat) = ⟨#[hexc m.val]⟩ := by decide
  exact congrArg (fun z => Result.ok (Value.string z) w) (key ⟨n, h⟩)

set_option maxHeartbeats 1000000 in
set_option maxRecDepth 100000 in
theorem refText_any (bs : List UInt8) (hlen : bs.length = 32) (w : World) :
    Calls Tryd.prog 52 #[.agg (Lib.byteCells bs).toArray] w fun e w' => e = .returned (.string ⟨(digText bs).toArray⟩) ∧ Below w.heap.size w w' := by
  go_enter Tryd.func52, Tryd.ntmps52
  go_wp2
  go_loopw [3, 4] (fun s i wr => ∃ k : Nat, k ≤ 32 ∧ i = .int .i64 k ∧ s = .string ⟨(shaHead ++ hexAll (bs.take k)).toArray⟩ ∧ wr.heap[w.heap.size]? = some (.cells (Lib.byteCells bs).toArray 33 (0, 0)) ∧ Hid (Below w.heap.size w wr)) (fun _ i _ => 32 - (intOf i).toNat)
  case atStart => exact ⟨0, by omega, rfl, rfl, heap_alloc_new w _, Lib.hid ((Below.refl _ _).alloc (Nat.le_refl _) _)⟩
  case round =>
    obtain ⟨k, hk, rfl, rfl, hbox, hW⟩ := hrel
    by_cases hlt : k < 32
    · have hc : wr.cell? ⟨w.heap.size, k, none⟩ = some (.int .u8 (bs.getD k 0).toNat) := by
        rw [Lib.cell_of_heap hbox]; simp [Lib.byteCells, List.getElem?_eq_getElem (show k < bs.length by omega)]
      have HX : Hid (hexAll (bs.take (k + 1)) = hexAll (bs.take k) ++ hex2 (bs.getD k 0)) := Lib.hid (hexAll_take_getD bs k (by omega))
      generalize bs.getD k 0 = x at hc HX
      have hx : x.toNat < 256 := x.toNat_lt
      have hx1 : x.toNat / 16 < 16 := by omega
      have hx2 : x.toNat % 16 < 16 := by omega
      have hL : (shaHead ++ hexAll (bs.take k)).length ≤ 100 := by
        rw [List.length_append, hexAll_length, List.length_take]; simp [shaHead]; omega
      have HE : Hid (shaHead ++ hexAll (bs.take (k + 1)) = (shaHead ++ hexAll (bs.take k)) ++ [hexc (x.toNat / 16)] ++ [hexc (x.toNat % 16)]) := Lib.hid (by rw [HX.out]; simp [hex2])
      clear HX
      generalize shaHead ++ hexAll (bs.take k) = L at hL HE
      have a0 : (x.toNat : Int).tmod 16 = (x.toNat : Int) % 16 := IntWalk.rem_in _ _ (by omega)
      have a1 : IntKind.u8.wrap ((x.toNat : Int) / 16) = (x.toNat : Int) / 16 := IntWalk.u8_in _ (by omega)
      have a2 : IntKind.u8.wrap ((x.toNat : Int) / 16 + 1) = (x.toNat : Int) / 16 + 1 := IntWalk.u8_in _ (by omega)
      have a3 : IntKind.u8.wrap ((x.toNat : Int) % 16 + 1) = (x.toNat : Int) % 16 + 1 := IntWalk.u8_in _ (by omega)
      have s1 := fun wx => slice_digit (x.toNat / 16) hx1 ((x.toNat : Int) / 16) ((x.toNat : Int) / 16 + 1) (by omega) (by omega) wx
      have s2 := fun wx => slice_digit (x.toNat % 16) hx2 ((x.toNat : Int) % 16) ((x.toNat : Int) % 16 + 1) (by omega) (by omega) wx
      have c1 := fun wx => add_bytes L [hexc (x.toNat / 16)] (by simp only [List.length_cons, List.length_nil]; omega) wx
      have c2 := fun wx => add_bytes (L ++ [hexc (x.toNat / 16)]) [hexc (x.toNat % 16)] (by rw [List.length_append]; simp only [List.length_cons, List.length_nil]; omega) wx
      go_wp2_with fail
      go_quiet (fail)
      clear c1 c2 s1 s2 a0 a1 a2 a3
      go_wp2
      go_roundw
      case rel => exact ⟨k + 1, by omega, by go_num, by rw [HE.out]; simp, by simpa [World.drewN] using hbox, Lib.hid (below_drewN hW.out nq)⟩
      case measure => simp [intOf]; omega
    · have hk32 : k = 32 := by omega
      subst hk32
      go_wp2_with fail
      go_ret
      refine ⟨?_, hW.out⟩
      rw [List.take_of_length_le (by omega)]; rfl
#print axioms refText_any
end Go.Proofs.YtgjelinnpcekmaaDoor
