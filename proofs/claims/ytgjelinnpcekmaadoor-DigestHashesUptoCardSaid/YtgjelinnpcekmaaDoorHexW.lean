/-
  The walk of digest.Text at this seat's translation: the text of a digest of 32 bytes.
-/
import Derived.Test.YtgjelinnpcekmaaDoorBld
import Derived.Test.YtgjelinnpcekmaaDoorHexP
import Derived.Outline
import Derived.Lib.Hide
import Derived.Laws.Rows
namespace Go.Proofs.YtgjelinnpcekmaaDoor
open Go.RowKit Plain

theorem info23 : (Tryd.prog.info? 33).map (·.size) = some 32 := by kernel_rfl

theorem part_bytes (bs : List UInt8) (k : Nat) (h : k < bs.length) (wx : World) : (part 5 (Lib.byteCells bs).toArray k).run Tryd.prog wx = .ok (.int .u8 (bs.getD k 0).toNat) wx := by
  have ha : (isAgg 5).run Tryd.prog wx = .ok false wx := by
    unfold isAgg; rw [Sem.run_bind, run_underlying Tryd.underlying5 wx]; rfl
  unfold part
  rw [Sem.run_bind, ha]
  simp [Lib.byteCells, List.getElem?_eq_getElem h]
theorem index_bytes {T n : Nat} (hT : Tryd.prog.underlying T = some (.array n 5)) (bs : List UInt8) (hlen : bs.length = n) (k : Nat) (h : k < n) (wx : World) :
    (Instr.index T (.agg (Lib.byteCells bs).toArray) (.int .i64 k)).run Tryd.prog wx = .ok (.int .u8 (bs.getD k 0).toNat) wx := by
  have hs : (sizeOf 5).run Tryd.prog wx = .ok 1 wx := by kernel_rfl
  unfold Instr.index
  simp only [asIntOf, Sem.run_bind, Sem.run_pure, Result.andThen_ok, run_underlying hT]
  rw [if_pos ⟨by omega, by omega⟩]
  simp only [Sem.run_bind, hs, Result.andThen_ok, Nat.mul_one, Int.toNat_natCast]
  exact part_bytes bs k (by omega) wx

set_option maxHeartbeats 1000000 in
set_option maxRecDepth 100000 in
theorem Text_any (bs : List UInt8) (hlen : bs.length = 32) (w : World) :
    Calls Tryd.prog 42 #[.agg (Lib.byteCells bs).toArray] w fun e w' => e = .returned (.string ⟨(digText bs).toArray⟩) ∧ Below w.heap.size w w' := by
  go_enter Tryd.func42, Tryd.ntmps42
  go_wp2_with fail
  have hb0 := Bd.fresh (w.alloc (.cells (Lib.byteCells bs).toArray 33))
  simp only [World.size_alloc] at hb0
  refine (writeString_b _ _ _ _ hb0 (by simp [ByteArray.size])).mono ?_
  rintro e w1 ⟨rfl, h1, hk1⟩
  have hbox : w1.heap[w.heap.size]? = some (.cells (Lib.byteCells bs).toArray 33 (0, 0)) := by
    rw [hk1.below.block _ (by omega)]; exact heap_alloc2_old w _ _
  have hbel : Below w.heap.size w w1 := (((Below.refl _ _).alloc (Nat.le_refl _) _).alloc (by simp) _).trans (hk1.below.mono (by omega))
  go_wp2_with (refine wpList_load_row rfl 33 _ rfl _ rfl 33 _ _ _ hbox Tryd.underlying33 rfl (by rw [info23]; simp [Lib.byteCells, hlen]) ?_)
  clear hb0 hk1 hbox
  have H1 : Hid (Bd (w.heap.size + 1) (shaHead ++ hexAll (bs.take 0)) w1) := h1
  have HB : Hid (Below w.heap.size w w1) := hbel
  clear h1 hbel
  have hidx : ∀ (k : Nat) (_ : k < 32) (wx : World), (Instr.index 33 (.agg (Lib.byteCells bs).toArray) (.int .i64 k)).run Tryd.prog wx = .ok (.int .u8 (bs.getD k 0).toNat) wx :=
    fun k h wx => index_bytes Tryd.underlying33 bs hlen k h wx
  go_loopw [8] (fun i wr => ∃ k : Nat, k ≤ 32 ∧ i = .int .i64 k ∧ Hid (Bd (w.heap.size + 1) (shaHead ++ hexAll (bs.take k)) wr) ∧ Hid (Below w.heap.size w wr)) (fun i _ => 32 - (intOf i).toNat)
  case atStart => exact ⟨0, by omega, rfl, H1, HB⟩
  case round =>
    obtain ⟨k, hk, rfl, hB, hW⟩ := hrel
    by_cases hlt : k < 32
    · have hi := hidx k hlt
      have HX : Hid (hexAll (bs.take (k + 1)) = hexAll (bs.take k) ++ hex2 (bs.getD k 0)) := Lib.hid (hexAll_take_getD bs k (by omega))
      generalize bs.getD k 0 = x at hi HX
      clear hidx
      have hx : x.toNat < 256 := x.toNat_lt
      have hx1 : x.toNat / 16 < 16 := by omega
      have hx2 : x.toNat % 16 < 16 := by omega
      have hL : (shaHead ++ hexAll (bs.take k)).length ≤ 100 := by
        rw [List.length_append, hexAll_length, List.length_take]; simp [shaHead]; omega
      go_wp2_with fail
      rw [dig_at _ hx1]
      refine (writeByte_b _ _ _ _ hB.out (by omega)).mono ?_
      rintro e w2 ⟨rfl, h2, hk2⟩
      go_wp2_with fail
      rw [dig_at _ hx2]
      refine (writeByte_b _ _ _ _ h2 (by rw [List.length_append]; simp only [List.length_cons, List.length_nil]; omega)).mono ?_
      rintro e w3 ⟨rfl, h3, hk3⟩
      have H3 : Hid (Bd (w.heap.size + 1) (shaHead ++ hexAll (bs.take (k + 1))) w3) := Lib.hid (by
        rw [HX.out]; simpa [hex2] using h3)
      have HW : Hid (Below w.heap.size w w3) := hW.out.trans ((hk2.trans hk3).below.mono (by omega))
      clear h2 h3 hk2 hk3
      go_wp2
      go_roundw
      case rel => exact ⟨k + 1, by omega, by go_num, H3, HW⟩
      case measure => simp [intOf]; omega
    · go_wp2_with fail
      have hk32 : k = 32 := by omega
      subst hk32
      refine (string_b _ _ _ hB.out).mono ?_
      rintro e w2 ⟨rfl, h2, hk2⟩
      go_wp2
      go_ret
      refine ⟨?_, hW.out.trans (hk2.below.mono (by omega))⟩
      rw [List.take_of_length_le (by omega)]; rfl
#print axioms Text_any
end Go.Proofs.YtgjelinnpcekmaaDoor
