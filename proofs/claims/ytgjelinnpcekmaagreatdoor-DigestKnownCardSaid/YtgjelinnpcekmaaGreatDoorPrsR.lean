/-
  The walks of strataref03.value and strataref03.Parse at this seat's translation: a text read as a digest.
-/
import Derived.Test.YtgjelinnpcekmaaGreatDoorJH
import Derived.Test.YtgjelinnpcekmaaGreatDoorHexS
import Derived.Test.YtgjelinnpcekmaaGreatDoorMem
import Derived.IntWalk
namespace Go.Proofs.YtgjelinnpcekmaaGreatDoor
open Go.RowKit Plain

def digs : List UInt8 := [48, 49, 50, 51, 52, 53, 54, 55, 56, 57, 97, 98, 99, 100, 101, 102]
theorem digs_get (i : Nat) (hi : i < 16) : digs.getD i 0 = hexc i := by
  have key : ∀ m : Fin 16, digs.getD m.val 0 = hexc m.val := by decide
  exact key ⟨i, hi⟩
theorem hexc_hexv {c : UInt8} {m : Nat} (h : hexv c = some m) : hexc m = c := by
  have key : ∀ x : Fin 256, ∀ m, hexv (UInt8.ofNat x.val) = some m → hexc m = UInt8.ofNat x.val := by
    intro x
    have : ∀ x : Fin 256, hexc ((hexv (UInt8.ofNat x.val)).getD 0) = UInt8.ofNat x.val ∨ hexv (UInt8.ofNat x.val) = none := by decide +kernel
    intro m hm
    rcases this x with h | h
    · rw [hm] at h; exact h
    · rw [h] at hm; cases hm
  have e : UInt8.ofNat c.toNat = c := by simp
  have := key ⟨c.toNat, c.toNat_lt⟩ m (by rw [e]; exact h)
  rw [e] at this
  exact this
def valI (c : UInt8) : Int := match hexv c with | some m => m | none => -1
set_option maxRecDepth 100000 in
theorem value_any (c : UInt8) (w : World) : Calls Tryz.prog 53 #[.int .u8 c.toNat] w fun e w' => e = .returned (.int .i64 (valI c)) ∧ w = w' := by
  go_enter Tryz.func53, Tryz.ntmps53
  go_wp2_with fail
  go_loopw [3] (fun i wr => ∃ k : Nat, k ≤ 16 ∧ i = .int .i64 k ∧ Hid (∀ j, j < k → hexc j ≠ c) ∧ w = wr) (fun i _ => 16 - (intOf i).toNat)
  case atStart => exact ⟨0, by omega, rfl, Lib.hid (fun j hj => by omega), rfl⟩
  case round =>
    obtain ⟨k, hk, rfl, HN, rfl⟩ := hrel
    by_cases hlt : k < 16
    · have hidx : ∀ wx, (Instr.index 9 (.string ⟨#[48, 49, 50, 51, 52, 53, 54, 55, 56, 57, 97, 98, 99, 100, 101, 102]⟩) (.int .i64 k)).run Tryz.prog wx = .ok (.int .u8 (hexc k).toNat) wx := fun wx => by
        have := run_index_list (P := Tryz.prog) Tryz.underlying9 digs k (by simpa [digs] using hlt) wx
        rw [digs_get k hlt] at this
        exact this
      by_cases he : hexc k = c
      · have HV : Hid (valI c = k) := Lib.hid (by unfold valI; rw [← he, hexv_hexc k hlt])
        have hq : (((hexc k).toNat : Int) == (c.toNat : Int)) = true := by rw [he]; simp
        clear he
        go_wp2
        go_ret
        exact ⟨by rw [HV.out]; rfl, rfl⟩
      · have hq : (((hexc k).toNat : Int) == (c.toNat : Int)) = false := by
          simp only [beq_eq_false_iff_ne, ne_eq]
          intro h
          exact he (UInt8.toNat_inj.1 (by omega))
        have HN2 : Hid (∀ j, j < k + 1 → hexc j ≠ c) := Lib.hid (fun j hj => by
          rcases Nat.lt_or_ge j k with h | h
          · exact HN.out j h
          · rw [show j = k by omega]; exact he)
        clear he
        go_wp2
        go_roundw
        case rel => exact ⟨k + 1, by omega, by go_num, HN2, trivial⟩
        case measure => simp [intOf]; omega
    · have HV : Hid (valI c = -1) := Lib.hid (by
        unfold valI
        cases h : hexv c with
        | none => rfl
        | some m => exact absurd (hexc_hexv h) (HN.out m (by have := hexv_lt h; omega)))
      go_wp2
      go_ret
      exact ⟨by rw [HV.out]; rfl, rfl⟩
theorem acc_two (t : List UInt8) (k : Nat) : accL t (2 * k + 2) = (accL t (2 * k)).set k (UInt8.ofNat (16 * hv t (2 * k) + hv t (2 * k + 1))) := by
  have h1 := accL_succ t (2 * k)
  have h2 := accL_succ t (2 * k + 1)
  rw [show 2 * k / 2 = k by omega] at h1
  rw [show (2 * k + 1) / 2 = k by omega, h1, List.set_set] at h2
  rw [show 2 * k + 2 = 2 * k + 1 + 1 by omega, h2]
  congr 3
  have e : accD t (2 * k + 1) k = UInt8.ofNat (hv t (2 * k)) := by unfold accD; rw [if_neg (by omega), if_pos (by omega)]
  rw [e, UInt8.toNat_ofNat']
  have := hv_lt t (2 * k)
  omega
/-- A text of digits is what is told of the digest that it tells. -/
theorem hexAll_accL {t : List UInt8} (hl : t.length = 64) (h : allHex t 64) : hexAll (accL t 64) = t := by
  have hv1 : ∀ i, i < 64 → hexc (hv t i) = t.getD i 0 := fun i hi => by
    have := h i hi
    unfold hv
    cases hc : hexv (t.getD i 0) with
    | none => rw [hc] at this; cases this
    | some m => exact hexc_hexv hc
  have hl2 : (hexAll (accL t 64)).length = 64 := by rw [hexAll_length, accL_length]
  apply List.ext_getElem
  · rw [hl2, hl]
  · intro i h1 h2
    have hi : i < 64 := by omega
    have hg := hexAll_getD (accL t 64) (i / 2) (by rw [accL_length]; omega)
    rw [accL_getD t 64 (i / 2) (by omega)] at hg
    have e : accD t 64 (i / 2) = UInt8.ofNat (16 * hv t (2 * (i / 2)) + hv t (2 * (i / 2) + 1)) := by unfold accD; rw [if_pos (by omega)]
    have b1 := hv_lt t (2 * (i / 2))
    have b2 := hv_lt t (2 * (i / 2) + 1)
    rw [e, UInt8.toNat_ofNat', show (16 * hv t (2 * (i / 2)) + hv t (2 * (i / 2) + 1)) % 2 ^ 8 / 16 = hv t (2 * (i / 2)) by omega, show (16 * hv t (2 * (i / 2)) + hv t (2 * (i / 2) + 1)) % 2 ^ 8 % 16 = hv t (2 * (i / 2) + 1) by omega] at hg
    have r1 : (hexAll (accL t 64)).getD i 0 = t.getD i 0 := by
      rcases Nat.mod_two_eq_zero_or_one i with hm | hm
      · rw [show i = 2 * (i / 2) by omega, hg.1, hv1 _ (by omega)]
      · rw [show i = 2 * (i / 2) + 1 by omega, hg.2, hv1 _ (by omega)]
    simpa [List.getD, List.getElem?_eq_getElem h1, List.getElem?_eq_getElem h2] using r1
theorem drop_getD (s : List UInt8) (k j : Nat) : (s.drop k).getD j 0 = s.getD (k + j) 0 := by simp [List.getD]
/-- When the text that is told of what was read is the text itself. -/
theorem text_back {s : List UInt8} (hl : s.length = 71) (h : allHex (s.drop 7) 64) : digText (accL (s.drop 7) 64) = s ↔ Lib.hasPrefix s shaHead = true := by
  have ht : (s.drop 7).length = 64 := by rw [List.length_drop]; omega
  unfold digText
  rw [hexAll_accL ht h]
  constructor
  · intro e
    rw [← e]
    unfold Lib.hasPrefix shaHead; simp
  · intro hp
    have h1 : s.take 7 = shaHead := (List.prefix_iff_eq_take.1 (List.isPrefixOf_iff_prefix.1 hp)).symm
    rw [← h1, List.take_append_drop]
/-- What the reference's Parse answers. -/
def refEnds (s : List UInt8) : Value :=
  match digParse s with
  | some d => .tuple #[.agg (Lib.byteCells d).toArray, .int .i64 0]
  | none => .tuple #[.agg (Lib.byteCells z32).toArray, .int .i64 4]
set_option maxHeartbeats 4000000 in
set_option maxRecDepth 100000 in
theorem refParse_any (s : List UInt8) (w : World) :
    Calls Tryz.prog 33 #[.string ⟨s.toArray⟩] w fun e w' => e = .returned (refEnds s) ∧ Below w.heap.size w w' := by
  go_enter Tryz.func33, Tryz.ntmps33
  have hz0 : ∀ wx : World, (wx.alloc (.cells (Lib.byteCells z32).toArray 25)).heap[wx.heap.size]? = some (.cells (Lib.byteCells z32).toArray 25 (0, 0)) := fun wx => heap_alloc_new wx _
  by_cases h71 : s.length = 71
  · have hq : ((s.length : Int) != 71) = false := by rw [h71]; rfl
    go_wp2_with fail
    have hb2 : ((w.alloc (.cells #[Value.int IntKind.u8 0, Value.int IntKind.u8 0, Value.int IntKind.u8 0, Value.int IntKind.u8 0, Value.int IntKind.u8 0, Value.int IntKind.u8 0, Value.int IntKind.u8 0, Value.int IntKind.u8 0, Value.int IntKind.u8 0, Value.int IntKind.u8 0, Value.int IntKind.u8 0, Value.int IntKind.u8 0, Value.int IntKind.u8 0, Value.int IntKind.u8 0, Value.int IntKind.u8 0, Value.int IntKind.u8 0, Value.int IntKind.u8 0, Value.int IntKind.u8 0, Value.int IntKind.u8 0, Value.int IntKind.u8 0, Value.int IntKind.u8 0, Value.int IntKind.u8 0, Value.int IntKind.u8 0, Value.int IntKind.u8 0, Value.int IntKind.u8 0, Value.int IntKind.u8 0, Value.int IntKind.u8 0, Value.int IntKind.u8 0, Value.int IntKind.u8 0, Value.int IntKind.u8 0, Value.int IntKind.u8 0, Value.int IntKind.u8 0] 25)).alloc (.cells #[Value.int IntKind.u8 0, Value.int IntKind.u8 0, Value.int IntKind.u8 0, Value.int IntKind.u8 0, Value.int IntKind.u8 0, Value.int IntKind.u8 0, Value.int IntKind.u8 0, Value.int IntKind.u8 0, Value.int IntKind.u8 0, Value.int IntKind.u8 0, Value.int IntKind.u8 0, Value.int IntKind.u8 0, Value.int IntKind.u8 0, Value.int IntKind.u8 0, Value.int IntKind.u8 0, Value.int IntKind.u8 0, Value.int IntKind.u8 0, Value.int IntKind.u8 0, Value.int IntKind.u8 0, Value.int IntKind.u8 0, Value.int IntKind.u8 0, Value.int IntKind.u8 0, Value.int IntKind.u8 0, Value.int IntKind.u8 0, Value.int IntKind.u8 0, Value.int IntKind.u8 0, Value.int IntKind.u8 0, Value.int IntKind.u8 0, Value.int IntKind.u8 0, Value.int IntKind.u8 0, Value.int IntKind.u8 0, Value.int IntKind.u8 0] 25)).heap[w.heap.size]? = some (.cells (Lib.byteCells z32).toArray 25 (0, 0)) := heap_alloc2_old w _ _
    have hb4 : ((w.alloc (.cells #[Value.int IntKind.u8 0, Value.int IntKind.u8 0, Value.int IntKind.u8 0, Value.int IntKind.u8 0, Value.int IntKind.u8 0, Value.int IntKind.u8 0, Value.int IntKind.u8 0, Value.int IntKind.u8 0, Value.int IntKind.u8 0, Value.int IntKind.u8 0, Value.int IntKind.u8 0, Value.int IntKind.u8 0, Value.int IntKind.u8 0, Value.int IntKind.u8 0, Value.int IntKind.u8 0, Value.int IntKind.u8 0, Value.int IntKind.u8 0, Value.int IntKind.u8 0, Value.int IntKind.u8 0, Value.int IntKind.u8 0, Value.int IntKind.u8 0, Value.int IntKind.u8 0, Value.int IntKind.u8 0, Value.int IntKind.u8 0, Value.int IntKind.u8 0, Value.int IntKind.u8 0, Value.int IntKind.u8 0, Value.int IntKind.u8 0, Value.int IntKind.u8 0, Value.int IntKind.u8 0, Value.int IntKind.u8 0, Value.int IntKind.u8 0] 25)).alloc (.cells #[Value.int IntKind.u8 0, Value.int IntKind.u8 0, Value.int IntKind.u8 0, Value.int IntKind.u8 0, Value.int IntKind.u8 0, Value.int IntKind.u8 0, Value.int IntKind.u8 0, Value.int IntKind.u8 0, Value.int IntKind.u8 0, Value.int IntKind.u8 0, Value.int IntKind.u8 0, Value.int IntKind.u8 0, Value.int IntKind.u8 0, Value.int IntKind.u8 0, Value.int IntKind.u8 0, Value.int IntKind.u8 0, Value.int IntKind.u8 0, Value.int IntKind.u8 0, Value.int IntKind.u8 0, Value.int IntKind.u8 0, Value.int IntKind.u8 0, Value.int IntKind.u8 0, Value.int IntKind.u8 0, Value.int IntKind.u8 0, Value.int IntKind.u8 0, Value.int IntKind.u8 0, Value.int IntKind.u8 0, Value.int IntKind.u8 0, Value.int IntKind.u8 0, Value.int IntKind.u8 0, Value.int IntKind.u8 0, Value.int IntKind.u8 0] 25)).heap[w.heap.size + 1]? = some (.cells (Lib.byteCells z32).toArray 25 (0, 0)) := heap_alloc2_new w _ _
    have hbl : Below w.heap.size w ((w.alloc (.cells #[Value.int IntKind.u8 0, Value.int IntKind.u8 0, Value.int IntKind.u8 0, Value.int IntKind.u8 0, Value.int IntKind.u8 0, Value.int IntKind.u8 0, Value.int IntKind.u8 0, Value.int IntKind.u8 0, Value.int IntKind.u8 0, Value.int IntKind.u8 0, Value.int IntKind.u8 0, Value.int IntKind.u8 0, Value.int IntKind.u8 0, Value.int IntKind.u8 0, Value.int IntKind.u8 0, Value.int IntKind.u8 0, Value.int IntKind.u8 0, Value.int IntKind.u8 0, Value.int IntKind.u8 0, Value.int IntKind.u8 0, Value.int IntKind.u8 0, Value.int IntKind.u8 0, Value.int IntKind.u8 0, Value.int IntKind.u8 0, Value.int IntKind.u8 0, Value.int IntKind.u8 0, Value.int IntKind.u8 0, Value.int IntKind.u8 0, Value.int IntKind.u8 0, Value.int IntKind.u8 0, Value.int IntKind.u8 0, Value.int IntKind.u8 0] 25)).alloc (.cells #[Value.int IntKind.u8 0, Value.int IntKind.u8 0, Value.int IntKind.u8 0, Value.int IntKind.u8 0, Value.int IntKind.u8 0, Value.int IntKind.u8 0, Value.int IntKind.u8 0, Value.int IntKind.u8 0, Value.int IntKind.u8 0, Value.int IntKind.u8 0, Value.int IntKind.u8 0, Value.int IntKind.u8 0, Value.int IntKind.u8 0, Value.int IntKind.u8 0, Value.int IntKind.u8 0, Value.int IntKind.u8 0, Value.int IntKind.u8 0, Value.int IntKind.u8 0, Value.int IntKind.u8 0, Value.int IntKind.u8 0, Value.int IntKind.u8 0, Value.int IntKind.u8 0, Value.int IntKind.u8 0, Value.int IntKind.u8 0, Value.int IntKind.u8 0, Value.int IntKind.u8 0, Value.int IntKind.u8 0, Value.int IntKind.u8 0, Value.int IntKind.u8 0, Value.int IntKind.u8 0, Value.int IntKind.u8 0, Value.int IntKind.u8 0] 25)) := ((Below.refl _ _).alloc (Nat.le_refl _) _).alloc (by simp) _
    generalize ((w.alloc (.cells #[Value.int IntKind.u8 0, Value.int IntKind.u8 0, Value.int IntKind.u8 0, Value.int IntKind.u8 0, Value.int IntKind.u8 0, Value.int IntKind.u8 0, Value.int IntKind.u8 0, Value.int IntKind.u8 0, Value.int IntKind.u8 0, Value.int IntKind.u8 0, Value.int IntKind.u8 0, Value.int IntKind.u8 0, Value.int IntKind.u8 0, Value.int IntKind.u8 0, Value.int IntKind.u8 0, Value.int IntKind.u8 0, Value.int IntKind.u8 0, Value.int IntKind.u8 0, Value.int IntKind.u8 0, Value.int IntKind.u8 0, Value.int IntKind.u8 0, Value.int IntKind.u8 0, Value.int IntKind.u8 0, Value.int IntKind.u8 0, Value.int IntKind.u8 0, Value.int IntKind.u8 0, Value.int IntKind.u8 0, Value.int IntKind.u8 0, Value.int IntKind.u8 0, Value.int IntKind.u8 0, Value.int IntKind.u8 0, Value.int IntKind.u8 0] 25)).alloc (.cells #[Value.int IntKind.u8 0, Value.int IntKind.u8 0, Value.int IntKind.u8 0, Value.int IntKind.u8 0, Value.int IntKind.u8 0, Value.int IntKind.u8 0, Value.int IntKind.u8 0, Value.int IntKind.u8 0, Value.int IntKind.u8 0, Value.int IntKind.u8 0, Value.int IntKind.u8 0, Value.int IntKind.u8 0, Value.int IntKind.u8 0, Value.int IntKind.u8 0, Value.int IntKind.u8 0, Value.int IntKind.u8 0, Value.int IntKind.u8 0, Value.int IntKind.u8 0, Value.int IntKind.u8 0, Value.int IntKind.u8 0, Value.int IntKind.u8 0, Value.int IntKind.u8 0, Value.int IntKind.u8 0, Value.int IntKind.u8 0, Value.int IntKind.u8 0, Value.int IntKind.u8 0, Value.int IntKind.u8 0, Value.int IntKind.u8 0, Value.int IntKind.u8 0, Value.int IntKind.u8 0, Value.int IntKind.u8 0, Value.int IntKind.u8 0] 25)) = w1 at hb2 hb4 hbl
    have HB2 : Hid (Blk w1 w.heap.size 25 (Lib.byteCells z32).toArray) := Lib.hid hb2
    have HB4 : Hid (Blk w1 (w.heap.size + 1) 25 (Lib.byteCells (accL (s.drop 7) (2 * 0))).toArray) := Lib.hid (by rw [accL_zero]; exact hb4)
    have HBL := Lib.hid hbl
    have H71 := Lib.hid h71
    clear hb2 hb4 hbl hz0 h71 hq
    go_loopw [5] (fun i wr => ∃ k : Nat, k ≤ 32 ∧ i = .int .i64 k ∧ Hid (allHex (s.drop 7) (2 * k)) ∧ Hid (Blk wr w.heap.size 25 (Lib.byteCells z32).toArray) ∧ Hid (Blk wr (w.heap.size + 1) 25 (Lib.byteCells (accL (s.drop 7) (2 * k))).toArray) ∧ Hid (Below w.heap.size w wr)) (fun i _ => 32 - (intOf i).toNat)
    case atStart => exact ⟨0, by omega, rfl, Lib.hid (fun i hi => by omega), HB2, HB4, HBL⟩
    case round =>
      clear HB2 HB4 HBL
      obtain ⟨k, hk, rfl, HA, HB2, HB4, HBL⟩ := hrel
      have hz1 := HB2.out
      have HNO : Hid (∀ i, i < 64 → hexv ((s.drop 7).getD i 0) = none → digParse s = none) := Lib.hid (fun i hi h => by
        unfold digParse
        rw [if_neg (fun h2 => by have := h2.2.2 i hi; rw [h] at this; cases this)])
      by_cases hlt : k < 32
      · have hi1 := run_index_list (P := Tryz.prog) Tryz.underlying9 s (7 + 2 * k) (by have := H71.out; omega)
        have hi2 := run_index_list (P := Tryz.prog) Tryz.underlying9 s (8 + 2 * k) (by have := H71.out; omega)
        have e1 : (s.drop 7).getD (2 * k) 0 = s.getD (7 + 2 * k) 0 := drop_getD s 7 (2 * k)
        have e2 : (s.drop 7).getD (2 * k + 1) 0 = s.getD (8 + 2 * k) 0 := by rw [drop_getD, show 7 + (2 * k + 1) = 8 + 2 * k by omega]
        have HH1 : Hid (∀ m, hexv (s.getD (7 + 2 * k) 0) = some m → hv (s.drop 7) (2 * k) = m) := Lib.hid (fun m h => by unfold hv; rw [e1, h]; rfl)
        have HH2 : Hid (∀ m, hexv (s.getD (8 + 2 * k) 0) = some m → hv (s.drop 7) (2 * k + 1) = m) := Lib.hid (fun m h => by unfold hv; rw [e2, h]; rfl)
        have HN1 : Hid (hexv (s.getD (7 + 2 * k) 0) = none → digParse s = none) := Lib.hid (fun h => HNO.out (2 * k) (by omega) (by rw [e1]; exact h))
        have HN2 : Hid (hexv (s.getD (8 + 2 * k) 0) = none → digParse s = none) := Lib.hid (fun h => HNO.out (2 * k + 1) (by omega) (by rw [e2]; exact h))
        have HA2 : Hid (hexv (s.getD (7 + 2 * k) 0) ≠ none → hexv (s.getD (8 + 2 * k) 0) ≠ none → allHex (s.drop 7) (2 * (k + 1))) := Lib.hid (fun h1 h2 i hi => by
          rcases Nat.lt_or_ge i (2 * k) with h | h
          · exact HA.out i h
          · rcases (by omega : i = 2 * k ∨ i = 2 * k + 1) with rfl | rfl
            · rw [e1]; exact Option.isSome_iff_ne_none.2 h1
            · rw [e2]; exact Option.isSome_iff_ne_none.2 h2)
        clear e1 e2 HNO
        generalize s.getD (7 + 2 * k) 0 = c1 at hi1 HH1 HN1 HA2
        generalize s.getD (8 + 2 * k) 0 = c2 at hi2 HH2 HN2 HA2
        have hw1 : IntKind.i64.wrap (2 * (k : Int)) = 2 * (k : Int) := IntWalk.i64_in _ (by omega)
        have hw2 : IntKind.i64.wrap (7 + 2 * (k : Int)) = ((7 + 2 * k : Nat) : Int) := by rw [show (7 + 2 * (k : Int)) = ((7 + 2 * k : Nat) : Int) by omega]; exact IntWalk.i64_in _ (by omega)
        have hw3 : IntKind.i64.wrap (8 + 2 * (k : Int)) = ((8 + 2 * k : Nat) : Int) := by rw [show (8 + 2 * (k : Int)) = ((8 + 2 * k : Nat) : Int) by omega]; exact IntWalk.i64_in _ (by omega)
        generalize 7 + 2 * k = p1 at hi1 hw2
        generalize 8 + 2 * k = p2 at hi2 hw3
        go_wp2_with fail
        refine (value_any c1 wr).mono ?_
        rintro e w' ⟨rfl, rfl⟩
        go_wp2_with fail
        refine (value_any c2 wr).mono ?_
        rintro e w' ⟨rfl, rfl⟩
        cases hc1 : hexv c1 with
        | none =>
            have hv1 : valI c1 = -1 := by unfold valI; rw [hc1]
            rw [hv1]
            have HN : Hid (digParse s = none) := Lib.hid (HN1.out hc1)
            clear hi1 hi2 hw1 hw2 hw3
            go_wp2_with (first | (refine wpList_build_as rfl 25 _ rfl (Lib.byteCells z32).toArray (by kernel_rfl) ?_) | (refine wpList_store_row rfl 25 _ _ rfl _ _ rfl rfl 25 _ hz1 info23 rfl (one_byteCells _) ?_))
            all_goals
              refine bodyPost_ret (results_row_tmp rfl _ _ _ 25 (Lib.byteCells z32).toArray _ _ rfl (setRow_heap _ _ _ _ _ _ hz1) Tryz.underlying25 rfl info23) rfl ⟨?_, setRow_below HBL.out (Nat.le_refl _) _⟩
              unfold refEnds
              rw [HN.out]
              rfl
        | some m1 =>
          have hv1 : valI c1 = (m1 : Int) := by unfold valI; rw [hc1]
          have hm1 := hexv_lt hc1
          rw [hv1]
          cases hc2 : hexv c2 with
          | none =>
            have hv2 : valI c2 = -1 := by unfold valI; rw [hc2]
            rw [hv2]
            have HN : Hid (digParse s = none) := Lib.hid (HN2.out hc2)
            clear hi1 hi2 hw1 hw2 hw3
            go_wp2_with (first | (refine wpList_build_as rfl 25 _ rfl (Lib.byteCells z32).toArray (by kernel_rfl) ?_) | (refine wpList_store_row rfl 25 _ _ rfl _ _ rfl rfl 25 _ hz1 info23 rfl (one_byteCells _) ?_))
            all_goals
              refine bodyPost_ret (results_row_tmp rfl _ _ _ 25 (Lib.byteCells z32).toArray _ _ rfl (setRow_heap _ _ _ _ _ _ hz1) Tryz.underlying25 rfl info23) rfl ⟨?_, setRow_below HBL.out (Nat.le_refl _) _⟩
              unfold refEnds
              rw [HN.out]
              rfl
          | some m2 =>
            have hv2 : valI c2 = (m2 : Int) := by unfold valI; rw [hc2]
            have hm2 := hexv_lt hc2
            rw [hv2]
            have HA3 := Lib.hid (HA2.out (by rw [hc1]; simp) (by rw [hc2]; simp))
            have HSET : Hid ((Lib.byteCells (accL (s.drop 7) (2 * k))).set k (.int .u8 (16 * (m1 : Int) + (m2 : Int))) = Lib.byteCells (accL (s.drop 7) (2 * (k + 1)))) := Lib.hid (by
              have h := acc_two (s.drop 7) k
              rw [HH1.out m1 hc1, HH2.out m2 hc2] at h
              rw [show 2 * (k + 1) = 2 * k + 2 by omega, h]
              unfold Lib.byteCells
              rw [List.map_set]
              congr 2
              rw [UInt8.toNat_ofNat']
              omega)
            have hb16 : IntKind.i64.wrap (16 * (m1 : Int)) = 16 * (m1 : Int) := IntWalk.i64_in _ (by omega)
            have hbs : IntKind.i64.wrap (16 * (m1 : Int) + (m2 : Int)) = 16 * (m1 : Int) + (m2 : Int) := IntWalk.i64_in _ (by omega)
            have hbu : IntKind.u8.wrap (16 * (m1 : Int) + (m2 : Int)) = 16 * (m1 : Int) + (m2 : Int) := by rw [IntKind.wrap_u8]; omega
            have n1 : ((m1 : Int) < 0) = False := by simp
            have n2 : ((m2 : Int) < 0) = False := by simp
            obtain ⟨u, cu⟩ : ∃ u, wr.cell? ⟨w.heap.size + 1, k, none⟩ = some u := by
              rw [HB4.out.cell k, List.getElem?_toArray]
              exact ⟨_, List.getElem?_eq_getElem (by simp [Lib.byteCells, accL_length]; omega)⟩
            have fu := HB4.out.frozen k
            have p1 : 0 ≤ (k : Int) ∧ (k : Int) < 32 := by omega
            have HD4 : Hid (Blk (wr.setCell ⟨w.heap.size + 1, k, none⟩ (.int .u8 (16 * (m1 : Int) + (m2 : Int)))) (w.heap.size + 1) 25 (Lib.byteCells (accL (s.drop 7) (2 * (k + 1)))).toArray) := Lib.hid (by
              have := HB4.out.set_ k (.int .u8 (16 * (m1 : Int) + (m2 : Int)))
              rw [List.setIfInBounds_toArray, HSET.out] at this
              exact this)
            have HD2 : Hid (Blk (wr.setCell ⟨w.heap.size + 1, k, none⟩ (.int .u8 (16 * (m1 : Int) + (m2 : Int)))) w.heap.size 25 (Lib.byteCells z32).toArray) := Lib.hid (HB2.out.far (by simp) _)
            have HDL : Hid (Below w.heap.size w (wr.setCell ⟨w.heap.size + 1, k, none⟩ (.int .u8 (16 * (m1 : Int) + (m2 : Int))))) := Lib.hid (HBL.out.setCell (by simp) _)
            clear hi1 hi2 hw1 hw2 hw3 hv1 hv2 hc1 hc2
            go_wp2
            go_roundw
            case rel => exact ⟨k + 1, by omega, by go_num, HA3, HD2, HD4, HDL⟩
            case measure => simp [intOf]; omega
      · have hk32 : k = 32 := by omega
        have HA3 : Hid (allHex (s.drop 7) 64) := Lib.hid (by have := HA.out; rw [hk32] at this; exact this)
        have hz3 : wr.heap[w.heap.size + 1]? = some (.cells (Lib.byteCells (accL (s.drop 7) 64)).toArray 25 (0, 0)) := by have := HB4.out; rw [hk32] at this; exact this
        have HL64 : Hid ((s.drop 7).length = 64) := Lib.hid (by rw [List.length_drop]; have := H71.out; omega)
        have HTB := Lib.hid (text_back H71.out HA3.out)
        have HSOM : Hid (Lib.hasPrefix s shaHead = true → digParse s = some (accL (s.drop 7) 64)) := Lib.hid (fun h => by unfold digParse; rw [if_pos ⟨h, HL64.out, HA3.out⟩])
        have HNON : Hid (¬ Lib.hasPrefix s shaHead = true → digParse s = none) := Lib.hid (fun h => by unfold digParse; rw [if_neg (fun h2 => h h2.1)])
        have HAL : Hid ((accL (s.drop 7) 64).length = 32) := Lib.hid (accL_length _ _)
        generalize accL (s.drop 7) 64 = D at hz3 HTB HSOM HAL
        have hi3 : (Tryz.prog.info? 25).map (·.size) = some (Lib.byteCells D).toArray.size := by rw [info23]; simp [Lib.byteCells, HAL.out]
        have hs3 : (Lib.byteCells z32).toArray.size = (Lib.byteCells D).toArray.size := by simp [Lib.byteCells, HAL.out, z32]
        clear hk32 HB4 HA HNO
        go_wp2_with (refine wpList_load_row rfl 25 _ rfl _ rfl 25 _ _ _ hz3 Tryz.underlying25 rfl hi3 ?_)
        refine (refText_any D HAL.out wr).mono ?_
        rintro e w2 ⟨rfl, hb2⟩
        have hz1b := HB2.out.below hb2 HB2.out.lt
        have hz3b : w2.heap[w.heap.size + 1]? = some (.cells (Lib.byteCells D).toArray 25 (0, 0)) := (hb2.block _ (Array.getElem?_eq_some_iff.1 hz3).1).trans hz3
        have HBL2 := Lib.hid (HBL.out.trans (hb2.mono HBL.out.size))
        clear hb2 HB2 hz1 hz3
        by_cases heq : digText D = s
        · have HS := Lib.hid (HSOM.out (HTB.out.1 heq))
          have hq : (digText D == s) = true := by simp [heq]
          clear heq
          go_wp2_with (first | (refine wpList_load_row rfl 25 _ rfl _ rfl 25 _ _ _ hz3b Tryz.underlying25 rfl hi3 ?_) | (refine wpList_store_row rfl 25 _ _ rfl _ _ rfl rfl 25 _ hz1b hi3 hs3 (one_byteCells _) ?_))
          refine bodyPost_ret (results_row_tmp rfl _ _ _ 25 (Lib.byteCells D).toArray _ _ rfl (setRow_heap _ _ _ _ _ _ hz1b) Tryz.underlying25 rfl hi3) rfl ⟨?_, setRow_below HBL2.out (Nat.le_refl _) _⟩
          unfold refEnds
          rw [HS.out]
          rfl
        · have HN := Lib.hid (HNON.out (fun h => heq (HTB.out.2 h)))
          have hq : (digText D == s) = false := by simp [heq]
          clear heq
          go_wp2_with (first | (refine wpList_build_as rfl 25 _ rfl (Lib.byteCells z32).toArray (by kernel_rfl) ?_) | (refine wpList_store_row rfl 25 _ _ rfl _ _ rfl rfl 25 _ hz1b info23 rfl (one_byteCells _) ?_))
          refine bodyPost_ret (results_row_tmp rfl _ _ _ 25 (Lib.byteCells z32).toArray _ _ rfl (setRow_heap _ _ _ _ _ _ hz1b) Tryz.underlying25 rfl info23) rfl ⟨?_, setRow_below HBL2.out (Nat.le_refl _) _⟩
          unfold refEnds
          rw [HN.out]
          rfl
  · have hq : ((s.length : Int) != 71) = true := by rw [bne_iff_ne]; omega
    have HN : Hid (digParse s = none) := Lib.hid (by unfold digParse; rw [if_neg (fun h => by have := h.2.1; rw [List.length_drop] at this; omega)])
    clear h71
    have hz1 := hz0 w
    have hbel : Below w.heap.size w (w.alloc (.cells (Lib.byteCells z32).toArray 25)) := (Below.refl _ _).alloc (Nat.le_refl _) _
    go_wp2_with (first | (refine wpList_build_as rfl 25 _ rfl (Lib.byteCells z32).toArray (by kernel_rfl) ?_) | (refine wpList_store_row rfl 25 _ _ rfl _ _ rfl rfl 25 _ hz1 info23 rfl (one_byteCells _) ?_))
    all_goals
      refine bodyPost_ret (results_row_tmp rfl _ _ _ 25 (Lib.byteCells z32).toArray _ _ rfl (setRow_heap _ _ _ _ _ _ hz1) Tryz.underlying25 rfl info23) rfl ⟨?_, setRow_below hbel (Nat.le_refl _) _⟩
      unfold refEnds
      rw [HN.out]
      rfl
end Go.Proofs.YtgjelinnpcekmaaGreatDoor
