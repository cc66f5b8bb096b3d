/-
  The walk of stratalaw03.DigestWidths at this seat's translation.
-/
import Derived.Test.YtgjelinnpcekmaaGreatDoorDigP
import Derived.Lib.MinMax
namespace Go.Proofs.YtgjelinnpcekmaaGreatDoor
open Go.RowKit Sha Plain

theorem width_int (z : Int) : min (max z 1) 32 = ((width z : Nat) : Int) := by unfold width; omega
theorem width_two (a b : Int) : min (max (min a b) 1) 32 = ((min (width a) (width b) : Nat) : Int) := by unfold width; omega
theorem digest_get (z : Int) (s : List UInt8) (i : Nat) (hi : i < 32) : (Sha.digest z s).getD i 0 = if i < width z then byteAt (sha s) i else 0 := by
  have := out_getq (sha s) (width z) 32 i
  rw [if_pos hi] at this
  unfold Sha.digest
  simp [List.getD, this]
theorem dig_cell (z : Int) (s : List UInt8) {w : World} {g : Nat} {t : TypeId} (h : Blk w g t ((Sha.digest z s).map U8).toArray) (i : Nat) (hi : i < 32) : w.cell? ⟨g, i, none⟩ = some (.int .u8 ((Sha.digest z s).getD i 0).toNat) := by
  refine (h.cell i).trans ?_
  have hl : i < (Sha.digest z s).length := by rw [Sha.digest_length]; exact hi
  rw [List.getElem?_toArray, List.getElem?_map, List.getElem?_eq_getElem hl]
  simp [List.getD, List.getElem?_eq_getElem hl, U8]
theorem fresh_row (w : World) (old cs : Array Value) (t : TypeId) : Blk ((w.alloc (.cells old t)).setRow w.heap.size cs) w.heap.size t cs ∧ Below w.heap.size w ((w.alloc (.cells old t)).setRow w.heap.size cs) ∧ ((w.alloc (.cells old t)).setRow w.heap.size cs).heap.size = w.heap.size + 1 :=
  ⟨setRow_heap _ _ _ _ _ _ (heap_alloc_new w _), setRow_below ((Below.refl _ _).alloc (Nat.le_refl _) _) (Nat.le_refl _) cs, by simp⟩
set_option maxHeartbeats 8000000 in
set_option maxRecDepth 100000 in
theorem digestWidths_any (a b : Int) (s : List UInt8) (w : World) (hs : s.length ≤ 1048576) (hk : KTab w) (ht : Tab10 w) :
    Calls Tryz.prog 14 #[.int .i64 a, .int .i64 b, .string ⟨s.toArray⟩] w fun e w' => e = .returned (.bool true) ∧ Below w.heap.size w w' := by
  have HK := Lib.hid hk
  have HT := Lib.hid ht
  clear hk ht
  have hwa := width_int a
  have hwb := width_int b
  have hww := width_two a b
  go_enter Tryz.func14, Tryz.ntmps14
  go_wp2_with fail
  refine (dsum_any a s w HK.out HK.out.lt (by omega)).mono ?_
  rintro e w1 ⟨rfl, hb1⟩
  have HB1 := Lib.hid hb1
  clear hb1
  have hDl : ∀ z, ((Sha.digest z s).map U8).toArray.size = 32 := fun z => by simp [Sha.digest_length]
  have h1c : ∀ z, (((Sha.digest z s).map U8).toArray).all (·.oneCell') = true := fun z => by
    simp only [List.all_toArray, List.all_map]
    exact List.all_eq_true.2 fun _ _ => rfl
  unfold digV
  go_wp2_with (refine wpList_store_row rfl 25 _ _ rfl _ _ rfl rfl 25 _ (heap_alloc_new _ _) (by rw [info33, hDl]) (by rw [hDl]; rfl) (h1c _) ?_)
  have hf1 := fresh_row w1 #[Value.int IntKind.u8 0, Value.int IntKind.u8 0, Value.int IntKind.u8 0, Value.int IntKind.u8 0, Value.int IntKind.u8 0, Value.int IntKind.u8 0, Value.int IntKind.u8 0, Value.int IntKind.u8 0, Value.int IntKind.u8 0, Value.int IntKind.u8 0, Value.int IntKind.u8 0, Value.int IntKind.u8 0, Value.int IntKind.u8 0, Value.int IntKind.u8 0, Value.int IntKind.u8 0, Value.int IntKind.u8 0, Value.int IntKind.u8 0, Value.int IntKind.u8 0, Value.int IntKind.u8 0, Value.int IntKind.u8 0, Value.int IntKind.u8 0, Value.int IntKind.u8 0, Value.int IntKind.u8 0, Value.int IntKind.u8 0, Value.int IntKind.u8 0, Value.int IntKind.u8 0, Value.int IntKind.u8 0, Value.int IntKind.u8 0, Value.int IntKind.u8 0, Value.int IntKind.u8 0, Value.int IntKind.u8 0, Value.int IntKind.u8 0] ((Sha.digest a s).map U8).toArray 25
  generalize ((w1.alloc (.cells #[Value.int IntKind.u8 0, Value.int IntKind.u8 0, Value.int IntKind.u8 0, Value.int IntKind.u8 0, Value.int IntKind.u8 0, Value.int IntKind.u8 0, Value.int IntKind.u8 0, Value.int IntKind.u8 0, Value.int IntKind.u8 0, Value.int IntKind.u8 0, Value.int IntKind.u8 0, Value.int IntKind.u8 0, Value.int IntKind.u8 0, Value.int IntKind.u8 0, Value.int IntKind.u8 0, Value.int IntKind.u8 0, Value.int IntKind.u8 0, Value.int IntKind.u8 0, Value.int IntKind.u8 0, Value.int IntKind.u8 0, Value.int IntKind.u8 0, Value.int IntKind.u8 0, Value.int IntKind.u8 0, Value.int IntKind.u8 0, Value.int IntKind.u8 0, Value.int IntKind.u8 0, Value.int IntKind.u8 0, Value.int IntKind.u8 0, Value.int IntKind.u8 0, Value.int IntKind.u8 0, Value.int IntKind.u8 0, Value.int IntKind.u8 0] 25)).setRow w1.heap.size ((Sha.digest a s).map U8).toArray) = w2 at hf1
  have HD2 := Lib.hid hf1.1
  have HB2 := Lib.hid (HB1.out.trans (hf1.2.1.mono HB1.out.size))
  have HG1 := Lib.hid HB1.out.size
  clear hf1 HB1
  generalize w1.heap.size = g1 at HD2 HG1
  refine (dsum_any b s w2 (HK.out.below HB2.out) (HK.out.below HB2.out).lt (by omega)).mono ?_
  rintro e w3 ⟨rfl, hb3⟩
  have HD3 := Lib.hid (HD2.out.below hb3 HD2.out.lt)
  have HB3 := Lib.hid (HB2.out.trans (hb3.mono HB2.out.size))
  have HL3 : Hid (g1 < w3.heap.size) := Lib.hid HD3.out.lt
  clear hb3 HB2 HD2
  unfold digV
  go_wp2_with (refine wpList_store_row rfl 25 _ _ rfl _ _ rfl rfl 25 _ (heap_alloc_new _ _) (by rw [info33, hDl]) (by rw [hDl]; rfl) (h1c _) ?_)
  have hf3 := fresh_row w3 #[Value.int IntKind.u8 0, Value.int IntKind.u8 0, Value.int IntKind.u8 0, Value.int IntKind.u8 0, Value.int IntKind.u8 0, Value.int IntKind.u8 0, Value.int IntKind.u8 0, Value.int IntKind.u8 0, Value.int IntKind.u8 0, Value.int IntKind.u8 0, Value.int IntKind.u8 0, Value.int IntKind.u8 0, Value.int IntKind.u8 0, Value.int IntKind.u8 0, Value.int IntKind.u8 0, Value.int IntKind.u8 0, Value.int IntKind.u8 0, Value.int IntKind.u8 0, Value.int IntKind.u8 0, Value.int IntKind.u8 0, Value.int IntKind.u8 0, Value.int IntKind.u8 0, Value.int IntKind.u8 0, Value.int IntKind.u8 0, Value.int IntKind.u8 0, Value.int IntKind.u8 0, Value.int IntKind.u8 0, Value.int IntKind.u8 0, Value.int IntKind.u8 0, Value.int IntKind.u8 0, Value.int IntKind.u8 0, Value.int IntKind.u8 0] ((Sha.digest b s).map U8).toArray 25
  generalize ((w3.alloc (.cells #[Value.int IntKind.u8 0, Value.int IntKind.u8 0, Value.int IntKind.u8 0, Value.int IntKind.u8 0, Value.int IntKind.u8 0, Value.int IntKind.u8 0, Value.int IntKind.u8 0, Value.int IntKind.u8 0, Value.int IntKind.u8 0, Value.int IntKind.u8 0, Value.int IntKind.u8 0, Value.int IntKind.u8 0, Value.int IntKind.u8 0, Value.int IntKind.u8 0, Value.int IntKind.u8 0, Value.int IntKind.u8 0, Value.int IntKind.u8 0, Value.int IntKind.u8 0, Value.int IntKind.u8 0, Value.int IntKind.u8 0, Value.int IntKind.u8 0, Value.int IntKind.u8 0, Value.int IntKind.u8 0, Value.int IntKind.u8 0, Value.int IntKind.u8 0, Value.int IntKind.u8 0, Value.int IntKind.u8 0, Value.int IntKind.u8 0, Value.int IntKind.u8 0, Value.int IntKind.u8 0, Value.int IntKind.u8 0, Value.int IntKind.u8 0] 25)).setRow w3.heap.size ((Sha.digest b s).map U8).toArray) = w4 at hf3
  have HY4 := Lib.hid hf3.1
  have HX4 := Lib.hid (HD3.out.below hf3.2.1 HL3.out)
  have HB4 := Lib.hid (HB3.out.trans (hf3.2.1.mono HB3.out.size))
  clear hf3 HB3 HD3 HL3
  generalize w3.heap.size = g2 at HY4
  go_loopw [10] (fun i wr => ∃ k : Nat, k ≤ 32 ∧ i = .int .i64 k ∧ Hid (∃ m, wr = w4.drewN m)) (fun i _ => 32 - (intOf i).toNat)
  case atStart => exact ⟨0, by omega, rfl, Lib.hid ⟨0, rfl⟩⟩
  case round =>
    obtain ⟨k, hk, rfl, HM⟩ := hrel
    by_cases hlt : k < 32
    · have hga := digest_get a s k hlt
      have hgb := digest_get b s k hlt
      have cx : wr.cell? ⟨g1, k, none⟩ = some (.int .u8 ((Sha.digest a s).getD k 0).toNat) := by obtain ⟨m, hm⟩ := HM.out; rw [hm]; exact dig_cell a s HX4.out k hlt
      have cy : wr.cell? ⟨g2, k, none⟩ = some (.int .u8 ((Sha.digest b s).getD k 0).toNat) := by obtain ⟨m, hm⟩ := HM.out; rw [hm]; exact dig_cell b s HY4.out k hlt
      rw [hga] at cx
      rw [hgb] at cy
      clear hga hgb
      have p1 : 0 ≤ (k : Int) ∧ (k : Int) < 32 := by omega
      generalize width a = wa at cx hwa hww
      generalize width b = wb at cy hwb hww
      generalize byteAt (sha s) k = xk at cx cy
      have hmw : ∀ u : Nat, u = min wa wb → (u ≤ wa ∧ u ≤ wb ∧ (u = wa ∨ u = wb)) := fun u h => by omega
      have hmw2 := hmw _ rfl
      generalize min wa wb = wm at hww hmw2
      clear hmw
      have HROUND : Hid (∀ nq : Nat, ∃ m, wr.drewN nq = w4.drewN m) := Lib.hid (fun nq => by obtain ⟨m, hm⟩ := HM.out; exact ⟨m + nq, by rw [hm, World.drewN_drewN]⟩)
      by_cases h1 : k < wa
      · rw [if_pos h1] at cx
        have q1 : ((k : Int) ≥ (wa : Int)) = False := by simp; omega
        by_cases h2 : k < wb
        · rw [if_pos h2] at cy
          have q2 : ((k : Int) ≥ (wb : Int)) = False := by simp; omega
          have q3 : ((k : Int) < (wm : Int)) = True := by simp; omega
          go_wp2_with fail
          go_quiet (fail)
          have HR2 := Lib.hid (HROUND.out nq)
          clear cx cy HM HROUND
          generalize wr.drewN nq = w5 at HR2
          go_wp2
          go_roundw
          case rel => exact ⟨k + 1, by omega, by go_num, HR2⟩
          case measure => simp [intOf]; omega
        · rw [if_neg h2] at cy
          have q2 : ((k : Int) ≥ (wb : Int)) = True := by simp; omega
          have q3 : ((k : Int) < (wm : Int)) = False := by simp; omega
          go_wp2_with fail
          go_quiet (fail)
          have HR2 := Lib.hid (HROUND.out nq)
          clear cx cy HM HROUND
          generalize wr.drewN nq = w5 at HR2
          go_wp2
          go_roundw
          case rel => exact ⟨k + 1, by omega, by go_num, HR2⟩
          case measure => simp [intOf]; omega
      · rw [if_neg h1] at cx
        have q1 : ((k : Int) ≥ (wa : Int)) = True := by simp; omega
        have q3 : ((k : Int) < (wm : Int)) = False := by simp; omega
        by_cases h2 : k < wb
        · rw [if_pos h2] at cy
          have q2 : ((k : Int) ≥ (wb : Int)) = False := by simp; omega
          go_wp2_with fail
          go_quiet (fail)
          have HR2 := Lib.hid (HROUND.out nq)
          clear cx cy HM HROUND
          generalize wr.drewN nq = w5 at HR2
          go_wp2
          go_roundw
          case rel => exact ⟨k + 1, by omega, by go_num, HR2⟩
          case measure => simp [intOf]; omega
        · rw [if_neg h2] at cy
          have q2 : ((k : Int) ≥ (wb : Int)) = True := by simp; omega
          go_wp2_with fail
          go_quiet (fail)
          have HR2 := Lib.hid (HROUND.out nq)
          clear cx cy HM HROUND
          generalize wr.drewN nq = w5 at HR2
          go_wp2
          go_roundw
          case rel => exact ⟨k + 1, by omega, by go_num, HR2⟩
          case measure => simp [intOf]; omega
    · have HBF : Hid (Below w.heap.size w wr) := Lib.hid (by obtain ⟨m, hm⟩ := HM.out; rw [hm]; have h := HB4.out; exact ⟨h.os, h.tape, h.output, h.size, h.block⟩)
      go_wp2_with fail
      refine (works_any wr (HK.out.below HBF.out) (HT.out.below HBF.out HT.out.lt)).mono ?_
      rintro e w9 ⟨rfl, hb9⟩
      have HB9 := Lib.hid (HBF.out.trans (hb9.mono HBF.out.size))
      clear hb9 HBF
      go_wp2
      go_ret
      exact ⟨rfl, HB9.out⟩
end Go.Proofs.YtgjelinnpcekmaaGreatDoor
