/-
  The walk of stratalaw03.DigestSums at this seat's translation.
-/
import Derived.Test.YtgjelinnpcekmaaGreatDoorShaF
import Derived.Test.YtgjelinnpcekmaaGreatDoorDigW
import Derived.Deep.RegionHeld3
namespace Go.Proofs.YtgjelinnpcekmaaGreatDoor
open Go.RowKit Sha Plain

set_option maxHeartbeats 8000000 in
set_option maxRecDepth 100000 in
theorem digestSums_any (z : Int) (s : List UInt8) (w : World) (hs : s.length ≤ 1048576) (hk : KTab w) (hr : RTab w) (hb : BTab w) (ht : Tab10 w) :
    Calls Tryz.prog 12 #[.int .i64 z, .string ⟨s.toArray⟩] w fun e w' => e = .returned (.bool true) ∧ Below w.heap.size w w' := by
  have HK := Lib.hid hk
  have HT := Lib.hid ht
  have HS := Lib.hid hs
  obtain ⟨i5, hi5⟩ := info5
  have HE := Lib.hid (eq_dig hi5)
  go_enter Tryz.func12, Tryz.ntmps12
  go_wp2_with fail
  refine (rsum_any z s w hr hb (by omega)).mono ?_
  clear hk hr hb ht hi5
  rintro e w1 ⟨rfl, hb1⟩
  have HB1 := Lib.hid hb1
  clear hb1
  have hDl : ((Sha.digest z s).map U8).length = 32 := by simp [Sha.digest_length]
  have h1c : ∀ v ∈ (Sha.digest z s).map U8, v.oneCell' = true := by intro v hv; obtain ⟨x, _, rfl⟩ := List.mem_map.1 hv; rfl
  have h1a : (((Sha.digest z s).map U8).toArray).all (·.oneCell') = true := by
    simp only [List.all_toArray, List.all_map]
    exact List.all_eq_true.2 fun _ _ => rfl
  have hq1 := HE.out z s
  have HDV : Hid (∀ wy, KTab wy → Calls Tryz.prog 10 #[.int .i64 z, .string ⟨s.toArray⟩] wy (fun e w' => e = .returned (.agg ((Sha.digest z s).map U8).toArray) ∧ Below wy.heap.size wy w')) := Lib.hid (fun wy hk => dsum_any z s wy hk hk.lt (by omega))
  unfold digV at hq1 ⊢
  generalize (Sha.digest z s).map U8 = DL at hDl h1c h1a hq1 HDV
  have hsz : DL.toArray.size = 32 := by simpa using hDl
  have hi3 : (Tryz.prog.info? 25).map (·.size) = some DL.toArray.size := by rw [info33, hsz]
  go_upto_region 2 with (refine wpList_store_row rfl 25 _ _ rfl _ _ rfl rfl 25 _ (heap_alloc_new _ _) hi3 (by rw [hsz]; rfl) h1a ?_)
  have hf1 := fresh_row w1 #[Value.int IntKind.u8 0, Value.int IntKind.u8 0, Value.int IntKind.u8 0, Value.int IntKind.u8 0, Value.int IntKind.u8 0, Value.int IntKind.u8 0, Value.int IntKind.u8 0, Value.int IntKind.u8 0, Value.int IntKind.u8 0, Value.int IntKind.u8 0, Value.int IntKind.u8 0, Value.int IntKind.u8 0, Value.int IntKind.u8 0, Value.int IntKind.u8 0, Value.int IntKind.u8 0, Value.int IntKind.u8 0, Value.int IntKind.u8 0, Value.int IntKind.u8 0, Value.int IntKind.u8 0, Value.int IntKind.u8 0, Value.int IntKind.u8 0, Value.int IntKind.u8 0, Value.int IntKind.u8 0, Value.int IntKind.u8 0, Value.int IntKind.u8 0, Value.int IntKind.u8 0, Value.int IntKind.u8 0, Value.int IntKind.u8 0, Value.int IntKind.u8 0, Value.int IntKind.u8 0, Value.int IntKind.u8 0, Value.int IntKind.u8 0] DL.toArray 25
  generalize ((w1.alloc (.cells #[Value.int IntKind.u8 0, Value.int IntKind.u8 0, Value.int IntKind.u8 0, Value.int IntKind.u8 0, Value.int IntKind.u8 0, Value.int IntKind.u8 0, Value.int IntKind.u8 0, Value.int IntKind.u8 0, Value.int IntKind.u8 0, Value.int IntKind.u8 0, Value.int IntKind.u8 0, Value.int IntKind.u8 0, Value.int IntKind.u8 0, Value.int IntKind.u8 0, Value.int IntKind.u8 0, Value.int IntKind.u8 0, Value.int IntKind.u8 0, Value.int IntKind.u8 0, Value.int IntKind.u8 0, Value.int IntKind.u8 0, Value.int IntKind.u8 0, Value.int IntKind.u8 0, Value.int IntKind.u8 0, Value.int IntKind.u8 0, Value.int IntKind.u8 0, Value.int IntKind.u8 0, Value.int IntKind.u8 0, Value.int IntKind.u8 0, Value.int IntKind.u8 0, Value.int IntKind.u8 0, Value.int IntKind.u8 0, Value.int IntKind.u8 0] 25)).setRow w1.heap.size DL.toArray) = w2 at hf1
  have HB2 := Lib.hid (HB1.out.trans (hf1.2.1.mono HB1.out.size))
  have HG : Hid (w.heap.size ≤ w1.heap.size) := Lib.hid HB1.out.size
  have HRG : Hid (w2.rangeAt w1.heap.size 0 DL) := Lib.hid (by
    intro j v hv
    have := hf1.1.cell j
    rw [Nat.zero_add, this]
    simpa using hv)
  have HL2 : Hid (w1.heap.size < w2.heap.size) := Lib.hid hf1.1.lt
  clear hf1 HB1 h1a
  generalize w1.heap.size = g1 at HG HRG HL2
  have hi4 : (Tryz.prog.info? 25).map (·.size) = some DL.length := by rw [info33, hDl]
  have hu4 := Tryz.underlying25
  have HKP : Hid (∀ wy w', Below w.heap.size w wy ∧ g1 < wy.heap.size ∧ wy.rangeAt g1 0 DL → Below wy.heap.size wy w' → Below w.heap.size w w' ∧ g1 < w'.heap.size ∧ w'.rangeAt g1 0 DL) := Lib.hid (fun wy w' h hb =>
    ⟨h.1.trans (hb.mono h.1.size), Nat.lt_of_lt_of_le h.2.1 hb.size, fun j v hv => (hb.cell (p := ⟨g1, 0 + j, none⟩) h.2.1).trans (h.2.2 j v hv)⟩)
  have HS0 : Hid (Below w.heap.size w w2.drew ∧ g1 < w2.drew.heap.size ∧ w2.drew.rangeAt g1 0 DL) := Lib.hid ⟨by have h := HB2.out; exact ⟨h.os, h.tape, h.output, h.size, h.block⟩, HL2.out, HRG.out⟩
  have HDS : Hid (∀ wy, Below w.heap.size w wy ∧ g1 < wy.heap.size ∧ wy.rangeAt g1 0 DL → Calls Tryz.prog 10 #[.int .i64 z, .string ⟨s.toArray⟩] wy (fun e w' => e = .returned (.agg DL.toArray) ∧ Below wy.heap.size wy w')) := Lib.hid (fun wy h => HDV.out wy (HK.out.below h.1))
  have HWK : Hid (∀ wy, Below w.heap.size w wy ∧ g1 < wy.heap.size ∧ wy.rangeAt g1 0 DL → Calls Tryz.prog 11 #[] wy (fun e w' => e = .returned (.bool true) ∧ Below wy.heap.size wy w')) := Lib.hid (fun wy h => works_any wy (HK.out.below h.1) (HT.out.below h.1 HT.out.lt))
  refine wp_region_held_drew (S := (fun wy => Below w.heap.size w wy ∧ g1 < wy.heap.size ∧ wy.rangeAt g1 0 DL)) (by kernel_rfl) HS0.out (fun hHeld => ?_)
  refine wpAnyH_take (i := 0) (oi := { dst := some 9, op := Op.move (Operand.tmp 0), type := 3, pos := "law.go:15", after := #[], guard := none }) (v := .int .i64 z) rfl (by kernel_rfl) (by kernel_rfl) (by kernel_rfl) (fun _ _ _ h => h) (Or.inl ⟨by rfl, by intro w hSw; (try dsimp only at hSw); go_simp⟩) (by assumption) ?_
  try simp only [Act.put, List.setIfInBounds_toArray, List.set_cons_zero, List.set_cons_succ]
  refine wpAnyH_take (i := 1) (oi := { dst := some 10, op := Op.move (Operand.tmp 1), type := 9, pos := "law.go:15", after := #[], guard := none }) (v := .string ⟨s.toArray⟩) rfl (by kernel_rfl) (by kernel_rfl) (by kernel_rfl) (fun _ _ _ h => h) (Or.inl ⟨by rfl, by intro w hSw; (try dsimp only at hSw); go_simp⟩) (by assumption) ?_
  try simp only [Act.put, List.setIfInBounds_toArray, List.set_cons_zero, List.set_cons_succ]
  refine wpAnyH_take (i := 3) (oi := { dst := some 12, op := Op.load 25 (Operand.tmp 5), type := 25, pos := "law.go:15", after := #[], guard := none }) rfl (by kernel_rfl) (by kernel_rfl) (by kernel_rfl) (fun _ _ _ h => h) (yieldsIf_load_mid (by rfl) _ _ rfl _ _ rfl DL _ (fun _ h => h.2.2) hu4 rfl hi4) (by assumption) ?_
  try simp only [Act.put, List.setIfInBounds_toArray, List.set_cons_zero, List.set_cons_succ]
  refine wpAnyH_ready (rs := [2]) (by kernel_rfl) (by simp) ?_
  refine AllReadyH.cons (o := { dst := some 11, op := Op.call { callee := Callee.value (Operand.func 10), args := #[Operand.tmp 9, Operand.tmp 10], argTypes := #[3, 9] }, type := 25, pos := "law.go:15", after := #[{ on := 0, ground := Ground.data }, { on := 1, ground := Ground.data }], guard := none }) rfl (fun K hK => ?_) AllReadyH.nil
  rw [if_pos (by rfl)]
  go_simp
  refine (HDS.out _ (by assumption)).mono ?_
  rintro e wn ⟨rfl, hbn⟩
  have hSn := HKP.out _ _ (by assumption) hbn
  refine hK.out _ _ hSn (fun hHeld => ?_)
  clear hK hSn hbn
  try simp only [Act.put, List.setIfInBounds_toArray, List.set_cons_zero, List.set_cons_succ]
  refine wpAnyH_take (i := 4) (oi := { dst := some 13, op := Op.binOp BinOp.eql 25 (Operand.tmp 11) (Operand.tmp 12) 25, type := 4, pos := "law.go:15", after := #[{ on := 2, ground := Ground.data }, { on := 3, ground := Ground.data }], guard := none }) (v := .bool true) rfl (by kernel_rfl) (by kernel_rfl) (by kernel_rfl) (fun _ _ _ h => h) (Or.inl ⟨by rfl, by intro w hSw; (try dsimp only at hSw); go_simp⟩) (by assumption) ?_
  try simp only [Act.put, List.setIfInBounds_toArray, List.set_cons_zero, List.set_cons_succ]
  refine wpAnyH_take (i := 5) (oi := { dst := some 14, op := Op.move (Operand.tmp 13), type := 4, pos := "law.go:15", after := #[{ on := 4, ground := Ground.data }, { on := 2, ground := Ground.chain }], guard := none }) (v := .bool true) rfl (by kernel_rfl) (by kernel_rfl) (by kernel_rfl) (fun _ _ _ h => h) (Or.inl ⟨by rfl, by intro w hSw; (try dsimp only at hSw); go_simp⟩) (by assumption) ?_
  try simp only [Act.put, List.setIfInBounds_toArray, List.set_cons_zero, List.set_cons_succ]
  refine wpAnyH_take (i := 6) (oi := { dst := some 15, op := Op.move (Operand.tmp 0), type := 3, pos := "law.go:15", after := #[{ on := 5, ground := Ground.guard }], guard := some (5, true) }) (v := .int .i64 z) rfl (by kernel_rfl) (by kernel_rfl) (by kernel_rfl) (fun _ _ _ h => h) (Or.inl ⟨by rfl, by intro w hSw; (try dsimp only at hSw); go_simp⟩) (by assumption) ?_
  try simp only [Act.put, List.setIfInBounds_toArray, List.set_cons_zero, List.set_cons_succ]
  refine wpAnyH_take (i := 7) (oi := { dst := some 16, op := Op.move (Operand.tmp 1), type := 9, pos := "law.go:15", after := #[{ on := 5, ground := Ground.guard }], guard := some (5, true) }) (v := .string ⟨s.toArray⟩) rfl (by kernel_rfl) (by kernel_rfl) (by kernel_rfl) (fun _ _ _ h => h) (Or.inl ⟨by rfl, by intro w hSw; (try dsimp only at hSw); go_simp⟩) (by assumption) ?_
  try simp only [Act.put, List.setIfInBounds_toArray, List.set_cons_zero, List.set_cons_succ]
  refine wpAnyH_take (i := 9) (oi := { dst := some 18, op := Op.load 25 (Operand.tmp 5), type := 25, pos := "law.go:15", after := #[{ on := 5, ground := Ground.guard }], guard := some (5, true) }) rfl (by kernel_rfl) (by kernel_rfl) (by kernel_rfl) (fun _ _ _ h => h) (yieldsIf_load_mid (by rfl) _ _ rfl _ _ rfl DL _ (fun _ h => h.2.2) hu4 rfl hi4) (by assumption) ?_
  try simp only [Act.put, List.setIfInBounds_toArray, List.set_cons_zero, List.set_cons_succ]
  refine wpAnyH_ready (rs := [8]) (by kernel_rfl) (by simp) ?_
  refine AllReadyH.cons (o := { dst := some 17, op := Op.call { callee := Callee.value (Operand.func 10), args := #[Operand.tmp 15, Operand.tmp 16], argTypes := #[3, 9] }, type := 25, pos := "law.go:15", after := #[{ on := 6, ground := Ground.data }, { on := 7, ground := Ground.data }, { on := 5, ground := Ground.chain }, { on := 5, ground := Ground.guard }], guard := some (5, true) }) rfl (fun K hK => ?_) AllReadyH.nil
  rw [if_pos (by rfl)]
  go_simp
  refine (HDS.out _ (by assumption)).mono ?_
  rintro e wn ⟨rfl, hbn⟩
  have hSn := HKP.out _ _ (by assumption) hbn
  refine hK.out _ _ hSn (fun hHeld => ?_)
  clear hK hSn hbn
  try simp only [Act.put, List.setIfInBounds_toArray, List.set_cons_zero, List.set_cons_succ]
  refine wpAnyH_take (i := 10) (oi := { dst := some 19, op := Op.binOp BinOp.eql 25 (Operand.tmp 17) (Operand.tmp 18) 25, type := 4, pos := "law.go:15", after := #[{ on := 8, ground := Ground.data }, { on := 9, ground := Ground.data }, { on := 5, ground := Ground.guard }], guard := some (5, true) }) (v := .bool true) rfl (by kernel_rfl) (by kernel_rfl) (by kernel_rfl) (fun _ _ _ h => h) (Or.inl ⟨by rfl, by intro w hSw; (try dsimp only at hSw); go_simp⟩) (by assumption) ?_
  try simp only [Act.put, List.setIfInBounds_toArray, List.set_cons_zero, List.set_cons_succ]
  refine wpAnyH_take (i := 11) (oi := { dst := some 20, op := Op.pick (Operand.tmp 14) (Operand.tmp 19) (Operand.const (Value.bool false)), type := 4, pos := "law.go:15", after := #[{ on := 5, ground := Ground.data }, { on := 10, ground := Ground.data }], guard := none }) (v := .bool true) rfl (by kernel_rfl) (by kernel_rfl) (by kernel_rfl) (fun _ _ _ h => h) (Or.inl ⟨by rfl, by intro w hSw; (try dsimp only at hSw); go_simp⟩) (by assumption) ?_
  try simp only [Act.put, List.setIfInBounds_toArray, List.set_cons_zero, List.set_cons_succ]
  refine wpAnyH_take (i := 12) (oi := { dst := some 21, op := Op.move (Operand.tmp 20), type := 4, pos := "law.go:15", after := #[{ on := 11, ground := Ground.data }, { on := 8, ground := Ground.chain }], guard := none }) (v := .bool true) rfl (by kernel_rfl) (by kernel_rfl) (by kernel_rfl) (fun _ _ _ h => h) (Or.inl ⟨by rfl, by intro w hSw; (try dsimp only at hSw); go_simp⟩) (by assumption) ?_
  try simp only [Act.put, List.setIfInBounds_toArray, List.set_cons_zero, List.set_cons_succ]
  refine wpAnyH_ready (rs := [13]) (by kernel_rfl) (by simp) ?_
  refine AllReadyH.cons (o := { dst := some 22, op := Op.call { callee := Callee.value (Operand.func 11), args := #[], argTypes := #[] }, type := 4, pos := "law.go:15", after := #[{ on := 12, ground := Ground.chain }, { on := 12, ground := Ground.guard }], guard := some (12, true) }) rfl (fun K hK => ?_) AllReadyH.nil
  rw [if_pos (by rfl)]
  go_simp
  refine (HWK.out _ (by assumption)).mono ?_
  rintro e wn ⟨rfl, hbn⟩
  have hSn := HKP.out _ _ (by assumption) hbn
  refine hK.out _ _ hSn (fun hHeld => ?_)
  clear hK hSn hbn
  try simp only [Act.put, List.setIfInBounds_toArray, List.set_cons_zero, List.set_cons_succ]
  refine wpAnyH_take (i := 14) (oi := { dst := some 23, op := Op.pick (Operand.tmp 21) (Operand.tmp 22) (Operand.const (Value.bool false)), type := 4, pos := "law.go:15", after := #[{ on := 12, ground := Ground.data }, { on := 13, ground := Ground.data }], guard := none }) (v := .bool true) rfl (by kernel_rfl) (by kernel_rfl) (by kernel_rfl) (fun _ _ _ h => h) (Or.inl ⟨by rfl, by intro w hSw; (try dsimp only at hSw); go_simp⟩) (by assumption) ?_
  try simp only [Act.put, List.setIfInBounds_toArray, List.set_cons_zero, List.set_cons_succ]
  refine wpAnyH_take (i := 15) (oi := { dst := some 4, op := Op.assign (Operand.tmp 23), type := 4, pos := "law.go:15", after := #[{ on := 14, ground := Ground.data }, { on := 13, ground := Ground.chain }, { on := 0, ground := Ground.phase }, { on := 1, ground := Ground.phase }, { on := 2, ground := Ground.phase }, { on := 3, ground := Ground.phase }, { on := 4, ground := Ground.phase }, { on := 5, ground := Ground.phase }, { on := 6, ground := Ground.phase }, { on := 7, ground := Ground.phase }, { on := 8, ground := Ground.phase }, { on := 9, ground := Ground.phase }, { on := 10, ground := Ground.phase }, { on := 11, ground := Ground.phase }, { on := 12, ground := Ground.phase }, { on := 13, ground := Ground.phase }, { on := 14, ground := Ground.phase }], guard := none }) (v := .bool true) rfl (by kernel_rfl) (by kernel_rfl) (by kernel_rfl) (fun _ _ _ h => h) (Or.inl ⟨by rfl, by intro w hSw; (try dsimp only at hSw); go_simp⟩) (by assumption) ?_
  try simp only [Act.put, List.setIfInBounds_toArray, List.set_cons_zero, List.set_cons_succ]
  refine wpAnyH_done (by kernel_rfl) ?_ _
  have HFIN := Lib.hid hHeld.1
  clear hHeld
  go_wp2
  go_ret
  exact ⟨rfl, HFIN.out⟩
end Go.Proofs.YtgjelinnpcekmaaGreatDoor
