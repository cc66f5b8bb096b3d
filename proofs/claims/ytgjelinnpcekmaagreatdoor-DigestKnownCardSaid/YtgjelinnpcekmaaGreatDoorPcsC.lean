/-
  The walk of digest.Cut at this seat's translation: a text cut into pieces, or the error and its place.
-/
import Derived.Test.YtgjelinnpcekmaaGreatDoorPcsV
import Derived.Deep.DeepCutAuto
namespace Go.Proofs.YtgjelinnpcekmaaGreatDoor
open Go.RowKit Plain
set_option linter.unusedSimpArgs false

theorem infoString : (Tryz.prog.info? 9).map (fun i => (i.zero, i.size, i.bytes)) = some (some (.string .empty), 1, 16) := by kernel_rfl

/-- What Cut leaves: the pieces, in memory of its own; or the error with its place. -/
def CutPost (s : List UInt8) (w : World) (e : Ending) (w' : World) : Prop :=
  (∃ ps v, e = .returned (.tuple #[v, .nilIface]) ∧ s = pieces ps ∧ w'.ownsRow w.heap.size 9 1 v ps.length (tx ps) ∧ Below w.heap.size w w') ∨
  (∃ ps k j, e = .returned (.tuple #[.slice none 0 0, .iface 87 (.agg #[.int .i64 4, .int .i64 0, .int .i64 (k : Nat)])]) ∧ CutTo s ps k ∧ k < s.length ∧ DigRun (s.drop k) j ∧ ¬ Good1 (s.drop k) j ∧ Below w.heap.size w w')

theorem decVal_lt (l : List UInt8) (h : ∀ c ∈ l, isD c = true) : decVal l < 10 ^ l.length := by
  induction l using snoc_ind with
  | nil => simp [decVal]
  | snoc l c ih =>
    have hc := (isD_iff c).1 (h c (by simp))
    have := ih (fun x hx => h x (by simp [hx]))
    rw [decVal_snoc, List.length_append, List.length_cons, List.length_nil, Nat.pow_succ]
    omega
/-- The number that the bytes from k to i tell. -/
def numAt (s : List UInt8) (k i : Nat) : Nat := decVal ((s.drop k).take (i - k))
theorem numAt_self (s : List UInt8) (k : Nat) : numAt s k k = 0 := by simp [numAt, decVal]
theorem getD_drop (s : List UInt8) (k j : Nat) : (s.drop k).getD j 0 = s.getD (k + j) 0 := by simp [List.getD]
theorem numAt_succ {s : List UInt8} {k i : Nat} (hk : k ≤ i) (hi : i < s.length) : numAt s k (i + 1) = 10 * numAt s k i + ((s.getD i 0).toNat - 48) := by
  unfold numAt
  have hl : i - k < (s.drop k).length := by rw [List.length_drop]; omega
  rw [show i + 1 - k = (i - k) + 1 by omega, List.take_succ_eq_append_getElem hl, decVal_snoc]
  have e := getD_drop s k (i - k)
  rw [show k + (i - k) = i by omega] at e
  rw [← e]
  simp only [List.getD, List.getElem?_eq_getElem hl, Option.getD_some]
theorem numAt_lt {s : List UInt8} {k i : Nat} (hd : ∀ t, k ≤ t → t < i → isD (s.getD t 0) = true) (h10 : i ≤ k + 10) : numAt s k i < 10000000000 := by
  unfold numAt
  have h := decVal_lt ((s.drop k).take (i - k)) (by
    intro c hc
    obtain ⟨t, ht, rfl⟩ := List.getElem_of_mem hc
    have ht' : t < i - k ∧ t < s.length - k := by rw [List.length_take, List.length_drop] at ht; omega
    have := hd (k + t) (by omega) (by omega)
    rw [List.getElem_take, List.getElem_drop]
    simpa [List.getD, List.getElem?_eq_getElem (show k + t < s.length by omega)] using this)
  rw [List.length_take] at h
  exact Nat.lt_of_lt_of_le h (Nat.le_trans (Nat.pow_le_pow_right (by omega) (show min (i - k) (s.drop k).length ≤ 10 by omega)) (by decide))
theorem digRun_of {s : List UInt8} {k i : Nat} (hk : k ≤ i) (hi : i ≤ s.length) (h10 : i ≤ k + 10) (hd : ∀ t, k ≤ t → t < i → isD (s.getD t 0) = true)
    (hs : ¬ (i < s.length ∧ i < k + 10 ∧ 48 ≤ (s.getD i 0).toNat ∧ (s.getD i 0).toNat ≤ 57)) : DigRun (s.drop k) (i - k) := by
  refine ⟨by omega, by rw [List.length_drop]; omega, fun t ht => by rw [getD_drop]; exact hd _ (by omega) (by omega), ?_⟩
  rw [List.length_drop, getD_drop, show k + (i - k) = i by omega]
  by_cases h1 : i - k = 10
  · exact .inl h1
  · by_cases h2 : i < s.length
    · refine .inr (.inr ?_)
      have : ¬ (48 ≤ (s.getD i 0).toNat ∧ (s.getD i 0).toNat ≤ 57) := fun h => hs ⟨h2, by omega, h⟩
      simpa [isD] using this
    · exact .inr (.inl (by omega))
theorem good_iff {s : List UInt8} {k i : Nat} (hk : k ≤ i) (hi : i ≤ s.length) : Good1 (s.drop k) (i - k) ↔
    i ≠ k ∧ i ≠ s.length ∧ (s.getD i 0).toNat = 58 ∧ ¬ ((s.getD k 0).toNat = 48 ∧ k + 1 < i) ∧ numAt s k i ≤ s.length - i - 1 := by
  unfold Good1 numAt
  rw [getD_drop, getD_drop, List.length_drop, Nat.add_zero, show k + (i - k) = i by omega]
  have e (c : UInt8) (n : Nat) (hn : n < 256) : (c = UInt8.ofNat n) ↔ c.toNat = n := by
    rw [← UInt8.toNat_inj, UInt8.toNat_ofNat']; omega
  have e1 := e (s.getD i 0) 58 (by omega)
  have e2 := e (s.getD k 0) 48 (by omega)
  rw [show (58 : UInt8) = UInt8.ofNat 58 from rfl, show (48 : UInt8) = UInt8.ofNat 48 from rfl, e1, e2]
  constructor
  · rintro ⟨h1, h2, h3, h4, h5⟩
    exact ⟨by omega, by omega, h3, fun h => h4 ⟨h.1, by omega⟩, by omega⟩
  · rintro ⟨h1, h2, h3, h4, h5⟩
    exact ⟨by omega, by omega, h3, fun h => h4 ⟨h.1, by omega⟩, by omega⟩

set_option maxHeartbeats 4000000 in
set_option maxRecDepth 100000 in
theorem Cut_any (s : List UInt8) (hs : s.length ≤ 8796093022208) (w : World) :
    Calls Tryz.prog 29 #[.string ⟨s.toArray⟩] w (CutPost s w) := by
  obtain ⟨i0, hi0, hz0, hz1, hz2⟩ := info_parts infoString
  go_enter Tryz.func29, Tryz.ntmps29
  go_wp2
  go_loopw [4, 5] (fun v a wr => ∃ (ps : List (List UInt8)) (k : Nat), a = .int .i64 k ∧ k ≤ s.length ∧ Hid (CutTo s ps k) ∧ Hid (wr.ownsRow w.heap.size 9 1 v ps.length (tx ps)) ∧ Hid (Below w.heap.size w wr)) (fun _ a _ => s.length - (intOf a).toNat)
  case atStart => exact ⟨[], 0, rfl, by omega, Lib.hid (CutTo.start s), Lib.hid (World.ownsRow_nil _ _ _ _), Lib.hid (Below.refl _ _)⟩
  case round =>
    obtain ⟨ps, k, rfl, hk, HC, HO, HW⟩ := hrel
    by_cases hlt : k < s.length
    · go_wp2_with fail
      go_loopw [6, 7] (fun n a wx => ∃ i : Nat, a = .int .i64 i ∧ n = .int .i64 (numAt s k i) ∧ k ≤ i ∧ i ≤ s.length ∧ i ≤ k + 10 ∧ numAt s k i < 10000000000 ∧ Hid (∀ t, k ≤ t → t < i → isD (s.getD t 0) = true) ∧ wr = wx) (fun _ a _ => s.length - (intOf a).toNat)
      case atStart => exact ⟨k, rfl, by rw [numAt_self]; rfl, by omega, by omega, by omega, by rw [numAt_self]; omega, Lib.hid (fun t h1 h2 => by omega), rfl⟩
      case round =>
        obtain ⟨i, rfl, rfl, hki, hil, hi10, hnum, HR, rfl⟩ := hrel
        go_upto_region 6 with fail
        go_cut [34] (fun s34 wx => ∃ b, s34 = .bool b ∧ Hid (b = decide (i < s.length ∧ i < k + 10 ∧ 48 ≤ (s.getD i 0).toNat ∧ (s.getD i 0).toNat ≤ 57)) ∧ wr = wx)
        case first =>
          by_cases h1 : i < s.length
          · have hidx := run_index_list Tryz.underlying9 s i h1
            generalize hc : s.getD i 0 = c at hidx
            have HCc := Lib.hid hc
            clear hc
            by_cases h2 : (i : Int) < k + 10
            · by_cases h3 : 48 ≤ c.toNat
              · by_cases h4 : c.toNat ≤ 57
                all_goals
                  go_wp2
                  go_meet
                  exact ⟨_, rfl, Lib.hid (by rw [HCc.out]; (rw [Bool.eq_iff_iff]; simp only [decide_eq_true_eq, Bool.or_eq_true, beq_iff_eq, Bool.not_eq_true', decide_eq_false_iff_not, reduceCtorEq, true_iff, false_iff, Bool.false_eq_true, Bool.not_eq_eq_eq_not, Bool.not_true, Bool.not_false, Bool.not_eq_true]; omega)), rfl⟩
              · go_wp2
                go_meet
                exact ⟨_, rfl, Lib.hid (by rw [HCc.out]; (rw [Bool.eq_iff_iff]; simp only [decide_eq_true_eq, Bool.or_eq_true, beq_iff_eq, Bool.not_eq_true', decide_eq_false_iff_not, reduceCtorEq, true_iff, false_iff, Bool.false_eq_true, Bool.not_eq_eq_eq_not, Bool.not_true, Bool.not_false, Bool.not_eq_true]; omega)), rfl⟩
            · go_wp2
              go_meet
              exact ⟨_, rfl, Lib.hid (by rw [HCc.out]; (rw [Bool.eq_iff_iff]; simp only [decide_eq_true_eq, Bool.or_eq_true, beq_iff_eq, Bool.not_eq_true', decide_eq_false_iff_not, reduceCtorEq, true_iff, false_iff, Bool.false_eq_true, Bool.not_eq_eq_eq_not, Bool.not_true, Bool.not_false, Bool.not_eq_true]; omega)), rfl⟩
          · go_wp2
            go_meet
            exact ⟨_, rfl, Lib.hid (by (rw [Bool.eq_iff_iff]; simp only [decide_eq_true_eq, Bool.or_eq_true, beq_iff_eq, Bool.not_eq_true', decide_eq_false_iff_not, reduceCtorEq, true_iff, false_iff, Bool.false_eq_true, Bool.not_eq_eq_eq_not, Bool.not_true, Bool.not_false, Bool.not_eq_true]; omega)), rfl⟩
        case rest =>
          obtain ⟨b, rfl, hb, rfl⟩ := hcut
          cases b with
          | true =>
            have hT := of_decide_eq_true hb.out.symm
            obtain ⟨h1, h2, h3, h4⟩ := hT
            have hidx := run_index_list Tryz.underlying9 s i h1
            have hsucc := numAt_succ hki h1
            have HD : Hid (∀ t, k ≤ t → t < i + 1 → isD (s.getD t 0) = true) := Lib.hid (fun t h5 h6 => by
              by_cases he : t = i
              · rw [he, isD_iff]; exact ⟨h3, h4⟩
              · exact HR.out t h5 (by omega))
            have hlt' := numAt_lt HD.out (by omega)
            generalize s.getD i 0 = c at hidx hsucc h3 h4
            have HS := Lib.hid hsucc
            rw [hsucc] at hlt'
            clear hsucc
            go_wp2
            go_roundw
            case rel => exact ⟨i + 1, by go_num, by rw [HS.out]; go_num, by omega, by omega, by omega, by rw [HS.out]; omega, HD, trivial⟩
            case measure => simp [intOf]; omega
          | false =>
            have HDR := Lib.hid (digRun_of hki hil hi10 HR.out (of_decide_eq_false hb.out.symm))
            clear hb HR
            have HG := Lib.hid (good_iff hki hil)
            go_upto_region 9 with fail
            go_cut [7, 80] (fun s7 s80 wx => ∃ b, s7 = .int .i64 i ∧ s80 = .bool b ∧ Hid (b = !decide (i ≠ k ∧ i ≠ s.length ∧ (s.getD i 0).toNat = 58 ∧ ¬ ((s.getD k 0).toNat = 48 ∧ k + 1 < i) ∧ numAt s k i ≤ s.length - i - 1)) ∧ wr = wx)
            case first =>
              clear HG HDR
              have hidk := run_index_list Tryz.underlying9 s k hlt
              generalize hd : s.getD k 0 = d at hidk
              have HD := Lib.hid hd
              clear hd
              by_cases h1 : i = k
              · go_wp2
                go_meet
                exact ⟨_, by first | rfl | (congr 1; omega), rfl, Lib.hid (by (rw [Bool.eq_iff_iff]; simp only [decide_eq_true_eq, Bool.or_eq_true, beq_iff_eq, Bool.not_eq_true', decide_eq_false_iff_not, reduceCtorEq, true_iff, false_iff, Bool.false_eq_true, Bool.not_eq_eq_eq_not, Bool.not_true, Bool.not_false, Bool.not_eq_true]; omega)), rfl⟩
              · by_cases h2 : i < s.length
                · have hidx := run_index_list Tryz.underlying9 s i h2
                  generalize hc : s.getD i 0 = c at hidx
                  have HCc := Lib.hid hc
                  clear hc
                  by_cases h3 : c.toNat = 58
                  · by_cases h4 : d.toNat = 48
                    · by_cases h5 : k + 1 < i
                      all_goals
                        go_wp2
                        go_meet
                        exact ⟨_, by first | rfl | (congr 1; omega), rfl, Lib.hid (by rw [HCc.out, HD.out]; (rw [Bool.eq_iff_iff]; simp only [decide_eq_true_eq, Bool.or_eq_true, beq_iff_eq, Bool.not_eq_true', decide_eq_false_iff_not, reduceCtorEq, true_iff, false_iff, Bool.false_eq_true, Bool.not_eq_eq_eq_not, Bool.not_true, Bool.not_false, Bool.not_eq_true]; omega)), rfl⟩
                    · go_wp2
                      go_meet
                      exact ⟨_, by first | rfl | (congr 1; omega), rfl, Lib.hid (by rw [HCc.out, HD.out]; (rw [Bool.eq_iff_iff]; simp only [decide_eq_true_eq, Bool.or_eq_true, beq_iff_eq, Bool.not_eq_true', decide_eq_false_iff_not, reduceCtorEq, true_iff, false_iff, Bool.false_eq_true, Bool.not_eq_eq_eq_not, Bool.not_true, Bool.not_false, Bool.not_eq_true]; omega)), rfl⟩
                  · go_wp2
                    go_meet
                    exact ⟨_, by first | rfl | (congr 1; omega), rfl, Lib.hid (by rw [HCc.out]; (rw [Bool.eq_iff_iff]; simp only [decide_eq_true_eq, Bool.or_eq_true, beq_iff_eq, Bool.not_eq_true', decide_eq_false_iff_not, reduceCtorEq, true_iff, false_iff, Bool.false_eq_true, Bool.not_eq_eq_eq_not, Bool.not_true, Bool.not_false, Bool.not_eq_true]; omega)), rfl⟩
                · go_wp2
                  go_meet
                  exact ⟨_, by first | rfl | (congr 1; omega), rfl, Lib.hid (by (rw [Bool.eq_iff_iff]; simp only [decide_eq_true_eq, Bool.or_eq_true, beq_iff_eq, Bool.not_eq_true', decide_eq_false_iff_not, reduceCtorEq, true_iff, false_iff, Bool.false_eq_true, Bool.not_eq_eq_eq_not, Bool.not_true, Bool.not_false, Bool.not_eq_true]; omega)), rfl⟩
            case rest =>
              obtain ⟨b, rfl, rfl, hb, rfl⟩ := hcut
              cases b with
              | true =>
                have HN : Hid (¬ Good1 (s.drop k) (i - k)) := Lib.hid (fun g => by
                  have := hb.out
                  rw [decide_eq_true (HG.out.1 g)] at this
                  cases this)
                go_wp2
                go_ret2
                exact .inr ⟨ps, k, i - k, rfl, HC.out, hlt, HDR.out, HN.out, HW.out⟩
              | false =>
                have hg : i ≠ k ∧ i ≠ s.length ∧ (s.getD i 0).toNat = 58 ∧ ¬ ((s.getD k 0).toNat = 48 ∧ k + 1 < i) ∧ numAt s k i ≤ s.length - i - 1 := by
                  have := hb.out
                  simpa using this
                have hst : CutTo s (ps ++ [(s.drop (i + 1)).take (numAt s k i)]) (i + 1 + numAt s k i) := by
                  have := HC.out.step HDR.out (HG.out.2 hg)
                  have e : (s.drop k).drop (i - k + 1) = s.drop (i + 1) := by rw [List.drop_drop]; congr 1; omega
                  rw [e] at this
                  have e2 : k + (i - k + 1 + numAt s k i) = i + 1 + numAt s k i := by omega
                  rw [← e2]
                  exact this
                have HST := Lib.hid hst
                obtain ⟨g1, g2, _, _, g5⟩ := hg
                have hps : ps.length ≤ k := by rw [HC.out.len]; exact length_le_pieces ps
                have hsl := fun wx => run_slice_list Tryz.underlying9 s .i64 .i64 ((i : Int) + 1) ((i : Int) + 1 + (numAt s k i : Nat)) (i + 1) (i + 1 + numAt s k i) (by omega) (by omega) (by omega) (by omega) wx
                rw [show i + 1 + numAt s k i - (i + 1) = numAt s k i by omega] at hsl
                clear hst hb HDR HG
                generalize (s.drop (i + 1)).take (numAt s k i) = p at hsl HST
                go_wp2_with (at_builtin; refine wpList_append_own _ rfl _ _ 29 rfl w.heap.size 9 i0 (.string ByteArray.empty) 1 16 Tryz.underlying29 hi0 hz0 hz1 hz2 rfl (by decide) _ _ _ rfl (HO.out.alloc _) ⟨wr.heap.size, 0, none⟩ 1 1 [.string ⟨p.toArray⟩] rfl rfl (cell_one_new _ _ _) (by intro x hx; simp at hx; subst hx; rfl) (by unfold maxLen; omega) (by omega) (by have := HW.out.size; simp; omega) ?_; intro v1 w1 hown1 hgrow1 hnil1)
                have hB1 : Hid (Below w.heap.size w w1) := Lib.hid (Below.grown (HW.out.alloc HW.out.size _) hgrow1 (by have := HW.out.size; simp; omega) (fun j hj => (HO.out.lt j hj).1))
                clear hgrow1 hnil1
                go_roundw
                case rel => exact ⟨ps ++ [p], i + 1 + numAt s k i, by go_num, by omega, HST, Lib.hid (by simpa [tx] using hown1), hB1⟩
                case measure => simp [intOf]; omega
    · go_wp2
      go_ret2
      exact .inl ⟨ps, _, rfl, HC.out.done (by omega), HO.out, HW.out⟩
end Go.Proofs.YtgjelinnpcekmaaGreatDoor
