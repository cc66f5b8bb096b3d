/-
  The walk of digest.Parse at this seat's translation: the digest that a text tells, or the error ErrForm.
-/
import Derived.Test.YtgjelinnpcekmaaGreatDoorJH
import Derived.Test.YtgjelinnpcekmaaGreatDoorKit
namespace Go.Proofs.YtgjelinnpcekmaaGreatDoor
open Go.RowKit Plain

/-- What digest.Parse hands back. -/
def parseEnds (s : List UInt8) : Value :=
  match digParse s with
  | some d => .tuple #[.agg (Lib.byteCells d).toArray, .nilIface]
  | none => .tuple #[.agg (Lib.byteCells z32).toArray, .iface 85 (.int .i64 4)]

theorem built23 : Tryz.prog.built 25 [] = some (Lib.byteCells z32).toArray := by kernel_rfl
theorem zeroDigest (w : World) : (zeroValue 25).run Tryz.prog w = .ok (.agg (Lib.byteCells z32).toArray) w := by kernel_rfl

theorem hasPrefix_any (s p : ByteArray) (w : World) :
    Calls Tryz.prog 74 #[.string s, .string p] w fun e w' => e = .returned (.bool (Lib.hasPrefix s.data.toList p.data.toList)) ∧ w = w' := by
  rw [← Lib.hasPrefix_raw]
  by_cases h1 : p.size ≤ s.size
  · have h1' : (p.size : Int) ≤ s.size := by omega
    go_enter Tryz.func74, Tryz.ntmps74
    go_wp2
    all_goals (go_ret; refine ⟨?_, rfl⟩; simp [h1])
  · have h1' : ¬ (p.size : Int) ≤ s.size := by omega
    go_enter Tryz.func74, Tryz.ntmps74
    go_wp2
    all_goals (go_ret; exact ⟨rfl, rfl⟩)
theorem litCutPrefix_any (s p : ByteArray) (w : World) :
    Calls Tryz.prog 66 #[.string s, .string p] w fun e w' => e = .returned (.tuple #[.string ⟨(Lib.trimPrefix s.data.toList p.data.toList).toArray⟩, .bool (Lib.hasPrefix s.data.toList p.data.toList)]) ∧ w = w' := by
  by_cases h1 : p.size ≤ s.size
  · cases h2 : ((s.extract 0 p.size).toList == p.toList)
    · have hh : Lib.hasPrefix s.data.toList p.data.toList = false := by rw [← Lib.hasPrefix_raw, h2]; simp
      go_enter Tryz.func66, Tryz.ntmps66
      go_wp2_with (go_at_call 74; refine (hasPrefix_any _ _ _).mono ?_; rintro e w' ⟨rfl, rfl⟩; rw [hh])
      go_ret2
      refine ⟨?_, rfl⟩
      rw [Lib.trimPrefix_miss s p (by rw [h2]; simp), hh]
      rfl
    · have hh : Lib.hasPrefix s.data.toList p.data.toList = true := by rw [← Lib.hasPrefix_raw, h2]; simp [h1]
      go_enter Tryz.func66, Tryz.ntmps66
      go_wp2_with (go_at_call 74; refine (hasPrefix_any _ _ _).mono ?_; rintro e w' ⟨rfl, rfl⟩; rw [hh])
      go_ret2
      refine ⟨?_, rfl⟩
      rw [Lib.trimPrefix_hit s p h1 h2, hh]
      rfl
  · have hh : Lib.hasPrefix s.data.toList p.data.toList = false := by rw [← Lib.hasPrefix_raw]; simp [h1]
    go_enter Tryz.func66, Tryz.ntmps66
    go_wp2_with (go_at_call 74; refine (hasPrefix_any _ _ _).mono ?_; rintro e w' ⟨rfl, rfl⟩; rw [hh])
    go_ret2
    refine ⟨?_, rfl⟩
    rw [Lib.trimPrefix_miss s p (by simp [h1]), hh]
    rfl
theorem CutPrefix_any (s p : ByteArray) (w : World) :
    Calls Tryz.prog 54 #[.string s, .string p] w fun e w' => e = .returned (.tuple #[.string ⟨(Lib.trimPrefix s.data.toList p.data.toList).toArray⟩, .bool (Lib.hasPrefix s.data.toList p.data.toList)]) ∧ w = w' := by
  go_enter Tryz.func54, Tryz.ntmps54
  go_wp2_with (go_at_call 66; refine (litCutPrefix_any _ _ _).mono ?_; rintro e w' ⟨rfl, rfl⟩)
  go_ret2
  exact ⟨rfl, rfl⟩

theorem nibble (a v : Nat) (hv : v < 16) (y : Int) (hy : y = v) : bits .or .u8 ((a : Int) * 16 % 256) y = (16 * (a : Int) + v) % 256 := by
  subst hy
  have h := nibble_or a v hv
  rw [IntKind.wrap_u8'] at h
  rw [u8_or _ _ (by omega) (by omega) (by omega) (by omega), Int.toNat_natCast, h]; omega

set_option maxHeartbeats 1000000 in
set_option maxRecDepth 100000 in
theorem Parse_any (s : ByteArray) (w : World) :
    Calls Tryz.prog 34 #[.string s] w fun e w' => e = .returned (parseEnds s.data.toList) ∧ Below w.heap.size w w' := by
  go_enter Tryz.func34, Tryz.ntmps34
  go_wp2_with fail
  refine (CutPrefix_any _ _ _).mono ?_
  rintro e w' ⟨rfl, rfl⟩
  have ez : (#[Value.int .u8 0, .int .u8 0, .int .u8 0, .int .u8 0, .int .u8 0, .int .u8 0, .int .u8 0, .int .u8 0, .int .u8 0, .int .u8 0, .int .u8 0, .int .u8 0, .int .u8 0, .int .u8 0, .int .u8 0, .int .u8 0, .int .u8 0, .int .u8 0, .int .u8 0, .int .u8 0, .int .u8 0, .int .u8 0, .int .u8 0, .int .u8 0, .int .u8 0, .int .u8 0, .int .u8 0, .int .u8 0, .int .u8 0, .int .u8 0, .int .u8 0, .int .u8 0] : Array Value) = (Lib.byteCells z32).toArray := rfl
  rw [ez]
  clear ez
  generalize hw1 : (w.alloc (.cells (Lib.byteCells z32).toArray 25)).alloc (.cells (Lib.byteCells z32).toArray 25) = w1
  have hz1 : w1.heap[w.heap.size]? = some (.cells (Lib.byteCells z32).toArray 25 (0, 0)) := by rw [← hw1]; exact heap_alloc2_old w _ _
  have hz2 : w1.heap[w.heap.size + 1]? = some (.cells (Lib.byteCells z32).toArray 25 (0, 0)) := by rw [← hw1]; exact heap_alloc2_new w _ _
  have hbel : Hid (Below w.heap.size w w1) := Lib.hid (by rw [← hw1]; exact ((Below.refl _ _).alloc (Nat.le_refl _) _).alloc (by simp) _)
  clear hw1
  by_cases hp : Lib.hasPrefix s.data.toList shaHead = true
  · have ht : Lib.trimPrefix s.data.toList shaHead = s.data.toList.drop 7 := by unfold Lib.trimPrefix; rw [if_pos hp]; rfl
    have ht' : Lib.trimPrefix s.data.toList [115, 104, 97, 50, 53, 54, 58] = s.data.toList.drop 7 := ht
    have hp' : Lib.hasPrefix s.data.toList [115, 104, 97, 50, 53, 54, 58] = true := hp
    have hspec : ∀ r, ((s.data.toList.drop 7).length = 64 → allHex (s.data.toList.drop 7) 64 → r = some (accL (s.data.toList.drop 7) 64)) → (¬ ((s.data.toList.drop 7).length = 64 ∧ allHex (s.data.toList.drop 7) 64) → r = none) → digParse s.data.toList = r := by
      intro r h1 h2
      unfold digParse
      by_cases hc : (s.data.toList.drop 7).length = 64 ∧ allHex (s.data.toList.drop 7) 64
      · rw [if_pos ⟨hp, hc.1, hc.2⟩, h1 hc.1 hc.2]
      · rw [if_neg (fun h => hc h.2), h2 hc]
    have HS := Lib.hid hspec
    clear hspec
    rw [show (⟨#[115, 104, 97, 50, 53, 54, 58]⟩ : ByteArray).data.toList = [115, 104, 97, 50, 53, 54, 58] from rfl, ht', hp']
    clear ht ht' hp hp'
    generalize s.data.toList.drop 7 = T at HS
    generalize hq : digParse s.data.toList = q at HS
    have HQ := Lib.hid hq
    clear hq
    by_cases h64 : T.length = 64
    · have hT : (T.length : Int) = 64 := by omega
      have hTn : ¬ ((T.length : Int) ≠ 64) := by omega
      go_wp2_with fail
      go_loopw [23] (fun i wr => ∃ k : Nat, k ≤ 64 ∧ i = .int .i64 k ∧ Hid (allHex T k) ∧ wr.heap[w.heap.size]? = some (.cells (Lib.byteCells z32).toArray 25 (0, 0)) ∧ wr.heap[w.heap.size + 1]? = some (.cells (Lib.byteCells (accL T k)).toArray 25 (0, 0)) ∧ Hid (Below w.heap.size w wr)) (fun i _ => 64 - (intOf i).toNat)
      case atStart => exact ⟨0, by omega, rfl, Lib.hid (fun i hi => absurd hi (by omega)), hz1, by rw [accL_zero]; exact hz2, hbel⟩
      case round =>
        clear hz1 hz2 hbel
        obtain ⟨k, hk, rfl, hall, hz1, hz2, hbel⟩ := hrel
        by_cases hlt : k < 64
        · have hkT : k < T.length := by omega
          have hcell : wr.cell? ⟨w.heap.size + 1, k / 2, none⟩ = some (.int .u8 (accD T k (k / 2)).toNat) := by
            rw [Lib.cell_of_heap hz2]
            have := accL_getD T k (k / 2) (by omega)
            simp only [Lib.byteCells, List.getElem?_toArray, List.getElem?_map]
            rw [List.getElem?_eq_getElem (by rw [accL_length]; omega)]
            simp only [List.getD, List.getElem?_eq_getElem (show k / 2 < (accL T k).length by rw [accL_length]; omega), Option.getD_some] at this
            simp [this]
          have hfr : wr.frozen? ⟨w.heap.size + 1, k / 2, none⟩ = false := Lib.frozen_of_heap hz2 _
          have hidx := run_index_list Tryz.underlying9 T k hkT
          have hlo := (T.getD k 0).toNat_lt
          cases hvc : hexv (T.getD k 0) with
          | none =>
            have HN : Hid (digParse s.data.toList = none) := Lib.hid (by
              rw [HQ.out]
              refine HS.out none (fun _ h2 => ?_) (fun _ => rfl)
              have := h2 k hlt
              rw [hvc] at this; cases this)
            unfold hexv at hvc
            generalize T.getD k 0 = c at hidx hvc hlo
            have h1 : ¬ (48 ≤ c.toNat ∧ c.toNat ≤ 57) := fun h => by rw [if_pos h] at hvc; cases hvc
            have h2 : ¬ (97 ≤ c.toNat ∧ c.toNat ≤ 102) := fun h => by rw [if_neg h1, if_pos h] at hvc; cases hvc
            clear hvc
            go_wp2_with (first | (refine wpList_build_as rfl 25 _ rfl (Lib.byteCells z32).toArray (by kernel_rfl) ?_) | (refine wpList_store_row rfl 25 _ _ rfl _ _ rfl rfl 25 _ hz1 info23 rfl (one_byteCells _) ?_))
            all_goals
              refine bodyPost_ret (results_row_tmp rfl _ _ _ 25 (Lib.byteCells z32).toArray _ _ rfl (setRow_heap _ _ _ _ _ _ hz1) Tryz.underlying25 rfl info23) rfl ⟨?_, setRow_below hbel.out (Nat.le_refl _) _⟩
              unfold parseEnds
              rw [HN.out]
              rfl
          | some v =>
            have HA : Hid (allHex T (k + 1)) := Lib.hid (fun i hi => by
              by_cases he : i = k
              · rw [he, hvc]; rfl
              · exact hall.out i (by omega))
            have HV : Hid (hv T k = v) := Lib.hid (by unfold hv; rw [hvc]; rfl)
            have HL : Hid (Lib.byteCells (accL T (k + 1)) = (Lib.byteCells (accL T k)).set (k / 2) (.int .u8 ((16 * ((accD T k (k / 2)).toNat : Int) + v) % 256))) := Lib.hid (by
              rw [accL_succ, HV.out]; simp [Lib.byteCells, List.map_set])
            clear HV HS HQ
            have ha := (accD T k (k / 2)).toNat_lt
            generalize accD T k (k / 2) = a at hcell HL ha
            generalize hL0 : Lib.byteCells (accL T k) = L at hz2 HL
            have HL0 := Lib.hid hL0
            clear hL0
            unfold hexv at hvc
            generalize T.getD k 0 = c at hidx hvc hlo
            have hcase : (48 ≤ c.toNat ∧ c.toNat ≤ 57 ∧ c.toNat = v + 48) ∨ (97 ≤ c.toNat ∧ c.toNat ≤ 102 ∧ c.toNat = v + 87) := by
              by_cases h1 : 48 ≤ c.toNat ∧ c.toNat ≤ 57
              · rw [if_pos h1] at hvc; injection hvc with hvc; exact .inl ⟨h1.1, h1.2, by omega⟩
              · rw [if_neg h1] at hvc
                by_cases h2 : 97 ≤ c.toNat ∧ c.toNat ≤ 102
                · rw [if_pos h2] at hvc; injection hvc with hvc; exact .inr ⟨h2.1, h2.2, by omega⟩
                · rw [if_neg h2] at hvc; cases hvc
            clear hvc
            rcases hcase with ⟨c1, c2, c3⟩ | ⟨c1, c2, c3⟩
            · have hor := nibble a.toNat v (by omega) ((c.toNat : Int) - 48) (by omega)
              clear c3
              go_wp2
              go_roundw
              case rel =>
                refine ⟨k + 1, by omega, by go_num, HA, ?_, ?_, Lib.hid (hbel.out.setCell (by simp) _)⟩
                · rw [heap_setCell_other _ _ _ _ (by simp)]; exact hz1
                · rw [heap_setCell_same _ _ _ _ _ _ hz2, HL.out]; simp
              case measure => simp [intOf]; omega
            · have hor := nibble a.toNat v (by omega) ((c.toNat : Int) - 87) (by omega)
              clear c3
              go_wp2
              go_roundw
              case rel =>
                refine ⟨k + 1, by omega, by go_num, HA, ?_, ?_, Lib.hid (hbel.out.setCell (by simp) _)⟩
                · rw [heap_setCell_other _ _ _ _ (by simp)]; exact hz1
                · rw [heap_setCell_same _ _ _ _ _ _ hz2, HL.out]; simp
              case measure => simp [intOf]; omega
        · have hk64 : k = 64 := by omega
          have HN : Hid (digParse s.data.toList = some (accL T 64)) := Lib.hid (by
            rw [HQ.out]
            exact HS.out _ (fun _ _ => rfl) (fun h => absurd ⟨h64, by rw [hk64] at hall; exact hall.out⟩ h))
          have hz3 : wr.heap[w.heap.size + 1]? = some (.cells (Lib.byteCells (accL T 64)).toArray 25 (0, 0)) := by rw [hk64] at hz2; exact hz2
          have hi3 : (Tryz.prog.info? 25).map (·.size) = some (Lib.byteCells (accL T 64)).toArray.size := by rw [info23]; simp [Lib.byteCells, accL_length]
          have hs3 : (Lib.byteCells z32).toArray.size = (Lib.byteCells (accL T 64)).toArray.size := by simp [Lib.byteCells, accL_length, z32]
          clear hk64 hz2 hall HS HQ
          go_wp2_with (first | (refine wpList_load_row rfl 25 _ rfl _ rfl 25 _ _ _ hz3 Tryz.underlying25 rfl hi3 ?_) | (refine wpList_store_row rfl 25 _ _ rfl _ _ rfl rfl 25 _ hz1 hi3 hs3 (one_byteCells _) ?_))
          refine bodyPost_ret (results_row_tmp rfl _ _ _ 25 (Lib.byteCells (accL T 64)).toArray _ _ rfl (setRow_heap _ _ _ _ _ _ hz1) Tryz.underlying25 rfl hi3) rfl ⟨?_, setRow_below hbel.out (Nat.le_refl _) _⟩
          unfold parseEnds
          rw [HN.out]
          rfl
    · have hTn : ((T.length : Int) != 64) = true := by rw [bne_iff_ne]; omega
      have HN : Hid (digParse s.data.toList = none) := Lib.hid (by rw [HQ.out]; exact HS.out none (fun h => absurd h h64) (fun _ => rfl))
      clear h64
      go_wp2_with (first | (refine wpList_build_as rfl 25 _ rfl (Lib.byteCells z32).toArray (by kernel_rfl) ?_) | (refine wpList_store_row rfl 25 _ _ rfl _ _ rfl rfl 25 _ hz1 info23 rfl (one_byteCells _) ?_))
      refine bodyPost_ret (results_row_tmp rfl _ _ _ 25 (Lib.byteCells z32).toArray _ _ rfl (setRow_heap _ _ _ _ _ _ hz1) Tryz.underlying25 rfl info23) rfl ⟨?_, setRow_below hbel.out (Nat.le_refl _) _⟩
      unfold parseEnds
      rw [HN.out]
      rfl
  · have hp' : Lib.hasPrefix s.data.toList [115, 104, 97, 50, 53, 54, 58] = false := by simpa [shaHead] using hp
    have HN : Hid (digParse s.data.toList = none) := Lib.hid (by unfold digParse; rw [if_neg (fun h => hp h.1)])
    clear hp
    go_wp2_with (first | (refine wpList_build_as rfl 25 _ rfl (Lib.byteCells z32).toArray (by kernel_rfl) ?_) | (refine wpList_store_row rfl 25 _ _ rfl _ _ rfl rfl 25 _ hz1 info23 rfl (one_byteCells _) ?_))


    go_wp2
    refine bodyPost_ret (results_row_tmp rfl _ _ _ 25 (Lib.byteCells z32).toArray _ _ rfl (setRow_heap _ _ _ _ _ _ hz1) Tryz.underlying25 rfl info23) rfl ⟨?_, setRow_below hbel.out (Nat.le_refl _) _⟩
    unfold parseEnds
    rw [HN.out]
    rfl
#print axioms Parse_any
end Go.Proofs.YtgjelinnpcekmaaGreatDoor
