/-
  The walk of stratalaw13.WordsQuoted at this seat's translation.
-/
import Derived.Test.YtapghojjkeegjaaDoorWrdJ
import Derived.Test.YtapghojjkeegjaaDoorTx
namespace Go.Proofs.YtapghojjkeegjaaDoor
open Go.RowKit Wrd Err

theorem quote_len (w : List UInt8) (c : UInt8) : (quote w c).length ≤ 2 * w.length + 2 := by
  unfold quote
  split
  · omega
  · unfold Wrd.quoted
    have := esc_len (escOf c) w
    simp only [List.cons_append, List.length_cons, List.length_append, List.length_nil]
    omega
theorem cat_snoc (c : UInt8) (ws : List (List UInt8)) (w : List UInt8) : cat c (ws ++ [w]) = cat c ws ++ quote w c ++ [32] := by simp [cat]

set_option maxHeartbeats 4000000 in
set_option maxRecDepth 100000 in
theorem wordsQuoted_any (A : Option Addr) (n c : Nat) (l : List (List UInt8)) (c0 : UInt8) (w : World) (hr : Reads w w.heap.size 1 A n (tx l)) (hn : n ≤ 1048576) (hls : total l ≤ 1048576) (hg : ErrTab w) :
    Calls Tryd.prog 7 #[.slice A n c, .int .u8 c0.toNat] w fun e w' => e = .returned (.bool true) ∧ Below w.heap.size w w' := by
  obtain ⟨i0, hi0, hz0, hz1, hz2⟩ := info_parts infoStr
  have HG := Lib.hid hg
  have HR := Lib.hid hr
  have hl : l.length = n := by have := hr.1; rw [tx_length] at this; omega
  have HL := Lib.hid hl
  clear hg hr hl
  go_enter Tryd.func7, Tryd.ntmps7
  go_wp2_with fail
  go_loopw [5, 6, 7] (fun s v i wr => ∃ k : Nat, k ≤ n ∧ i = .int .i64 k ∧ s = .string ⟨(cat c0 (l.take k)).toArray⟩ ∧ (cat c0 (l.take k)).length ≤ 2 * total (l.take k) + 3 * k ∧
    Hid (wr.ownsRow w.heap.size 9 1 v k (tx ((l.take k).map fun t => quote t c0))) ∧ Hid (Below w.heap.size w wr)) (fun _ _ i _ => n - (intOf i).toNat)
  case atStart => exact ⟨0, by omega, rfl, rfl, by simp [cat], Lib.hid (World.ownsRow_nil _ _ _ _), Lib.hid (Below.refl _ _)⟩
  case round =>
    obtain ⟨k, hk, rfl, rfl, hcl, HO, HW⟩ := hrel
    have htl := total_take_le l k
    by_cases hgo : k < n ∧ k < 200 ∧ (cat c0 (l.take k)).length + (l.getD k []).length < 16777216
    · obtain ⟨hkn, hk2, hsum⟩ := hgo
      obtain ⟨ad, u, rfl, _, hu, hc⟩ := (HR.out.below HW.out).at_ hkn
      obtain rfl := tx_get hu (by have := HL.out; omega)
      have hkl : k < l.length := by have := HL.out; omega
      have HX : Hid (l.take (k + 1) = l.take k ++ [l.getD k []]) := Lib.hid (by rw [List.take_succ_eq_append_getElem hkl]; simp [List.getD, List.getElem?_eq_getElem hkl])
      have htt := total_take_succ l k hkl
      have htl1 := total_take_le l (k + 1)
      have HC : Hid (cat c0 (l.take (k + 1)) = cat c0 (l.take k) ++ quote (l.getD k []) c0 ++ [32]) := Lib.hid (by rw [HX.out, cat_snoc])
      have HM : Hid (tx ((l.take (k + 1)).map fun t => quote t c0) = tx ((l.take k).map fun t => quote t c0) ++ [.string ⟨(quote (l.getD k []) c0).toArray⟩]) := Lib.hid (by rw [HX.out, List.map_append, tx_append]; rfl)
      have hql := quote_len (l.getD k []) c0
      clear hu HX
      generalize l.getD k [] = p at hc hsum htt HC HM hql
      generalize cat c0 (l.take k) = s at hcl hsum HC
      have HCL : Hid ((cat c0 (l.take (k + 1))).length ≤ 2 * total (l.take (k + 1)) + 3 * (k + 1)) := Lib.hid (by rw [HC.out]; simp only [List.length_append, List.length_singleton]; omega)
      have hw1 : IntKind.i64.wrap ((s.length : Int) + p.length) = (s.length : Int) + p.length := IntWalk.i64_in _ (by omega)
      have n1 : ((s.length : Int) + p.length < 16777216) = True := by rw [eq_iff_iff]; exact ⟨fun _ => trivial, fun _ => by omega⟩
      have ha1 := add_bytes s (quote p c0) (by omega)
      have ha2 := add_bytes (s ++ quote p c0) [32] (by simp; omega)
      have HQ := Lib.hid (Quote_any p (by omega) c0)
      generalize quote p c0 = q at ha1 ha2 HC HM HQ
      have HC2 : Hid (s ++ q ++ [32] = cat c0 (l.take (k + 1))) := Lib.hid HC.out.symm
      clear HC
      generalize hs3 : cat c0 (l.take (k + 1)) = s3 at HCL HC2
      have HS3 := Lib.hid hs3
      clear hs3
      rw [HC2.out] at ha2
      generalize s ++ q = s2 at ha1 ha2
      clear htt htl1 hsum
      go_upto_region 6 with fail
      go_wp2_with fail
      refine (HQ.out _).mono ?_
      rintro e1 w1 ⟨rfl, hb1⟩
      have HO1 := Lib.hid (own_kept HO.out hb1)
      have HW1 := Lib.hid (HW.out.trans (hb1.mono HW.out.size))
      clear hb1
      go_wp2_with (at_builtin; refine wpList_append_own _ rfl _ _ 47 rfl w.heap.size 9 i0 (.string ByteArray.empty) 1 16 Tryd.underlying47 hi0 hz0 hz1 hz2 rfl (by decide) _ _ _ rfl (HO1.out.alloc _) ⟨w1.heap.size, 0, none⟩ 1 1 [.string ⟨q.toArray⟩] rfl rfl (cell_one_new _ _ _) (by intro x hx; simp at hx; subst hx; rfl) (by unfold maxLen; omega) (by omega) (by have := HW1.out.size; simp; omega) ?_; intro v1 w2 hown1 hgrow1 hnil1)
      have hB1 : Hid (Below w.heap.size w w2) := Lib.hid (Below.grown (HW1.out.alloc HW1.out.size _) hgrow1 (by have := HW1.out.size; simp; omega) (fun j hj => (HO1.out.lt j hj).1))
      clear hgrow1 hnil1
      go_wp2
      go_roundw
      case rel => exact ⟨k + 1, by omega, by go_num, by rw [HS3.out], by rw [HS3.out]; exact HCL.out, Lib.hid (by rw [HM.out]; exact hown1), hB1⟩
      case measure => simp [intOf]; omega
    · have hkl : k ≤ l.length := by have := HL.out; omega
      obtain ⟨L, hL1, hL2⟩ := split_cat c0 (l.take k)
      have HSP := Lib.hid hL1
      have hLl : L.length = k := by have := congrArg List.length hL2; simpa [Nat.min_eq_left hkl] using this
      have HQL : Hid (∀ j, j < k → ∃ a r, L.getD j (0, []) = (a, r) ∧ ((l.take k).map fun t => quote t c0).getD j [] = r) := Lib.hid (fun j hj => by
        refine ⟨_, _, rfl, ?_⟩
        rw [← hL2]
        simp [List.getD, List.getElem?_eq_getElem (show j < L.length by omega)])
      have HQT : Hid (((l.take k).map fun t => quote t c0).length = k) := Lib.hid (by simp [Nat.min_eq_left hkl])
      have hcl2 : (cat c0 (l.take k)).length ≤ 4398046511104 := by omega
      obtain ⟨A2, c2, rfl, hr2⟩ := own_readsN HO.out
      have HR2 := Lib.hid hr2
      have HHR := Lib.hid (HR.out.below HW.out)
      have HSL := Lib.hid (fun hkn : k < l.length => (rfl : l.getD k [] = l.getD k []))
      generalize hs : cat c0 (l.take k) = s at hgo HSP hcl2
      generalize (l.take k).map (fun t => quote t c0) = Q at HQL HQT HR2
      have HNG := Lib.hid hgo
      clear hL1 hL2 hr2 HO HSL hcl hs hgo htl
      go_upto_region 4 with fail
      go_cut [30] (fun s30 wx => s30 = .bool false ∧ wr = wx)
      case first =>
        by_cases hkn : k < n
        · by_cases hk2 : k < 200
          · obtain ⟨ad, u, rfl, _, hu, hc⟩ := HHR.out.at_ hkn
            obtain rfl := tx_get hu (by have := HL.out; omega)
            have hsum : 16777216 ≤ s.length + (l.getD k []).length := by
              have := HNG.out
              rcases Nat.lt_or_ge (s.length + (l.getD k []).length) 16777216 with h | h
              · exact absurd ⟨hkn, hk2, h⟩ this
              · exact h
            have hpl : (l.getD k []).length ≤ 1048576 := by
              have h1 := total_take_succ l k (by have := HL.out; omega)
              have h2 := total_take_le l (k + 1)
              omega
            clear hu
            generalize l.getD k [] = p at hc hsum hpl
            have hw1 : IntKind.i64.wrap ((s.length : Int) + p.length) = (s.length : Int) + p.length := IntWalk.i64_in _ (by omega)
            have n1 : ((s.length : Int) + p.length < 16777216) = False := by rw [eq_iff_iff]; exact ⟨fun h => by omega, fun h => h.elim⟩
            clear hsum
            go_wp2
            go_meet
            exact ⟨rfl, rfl⟩
          · go_wp2
            go_meet
            exact ⟨rfl, rfl⟩
        · go_wp2
          go_meet
          exact ⟨rfl, rfl⟩
      case rest =>
        obtain ⟨rfl, rfl⟩ := hcut
        go_wp2_with fail
        refine (split_ok HSP.out hcl2 _).mono ?_
        rintro e1 w1 ⟨A1, c1, rfl, hr1, hb1⟩
        rw [hLl] at hr1
        have HR1 := Lib.hid hr1
        have HR2 := Lib.hid (HR2.out.step (Nat.le_refl _) hb1)
        have B1 := Lib.hid (HW.out.trans (hb1.mono HW.out.size))
        rw [hLl]
        clear hr1 hb1 hLl
        go_wp2_with fail
        go_loopw [11] (fun i wx => ∃ j : Nat, j ≤ k ∧ i = .int .i64 j ∧ Hid (Below w1.heap.size w1 wx)) (fun i _ => k - (intOf i).toNat)
        case atStart => exact ⟨0, by omega, rfl, Lib.hid (Below.refl _ _)⟩
        case round =>
          obtain ⟨j, hj, rfl, HW2⟩ := hrel
          by_cases hjk : j < k
          · obtain ⟨ad1, rfl, _, f1, f2⟩ := at_word (HR1.out.below HW2.out) hjk
            obtain ⟨ad2, u, rfl, _, hu, hc⟩ := (HR2.out.below HW2.out).at_ hjk
            obtain rfl := tx_get hu (by have := HQT.out; omega)
            obtain ⟨a, r, hx, hy⟩ := HQL.out j hjk
            rw [hx] at f1 f2
            rw [hy] at hc
            clear hx hy hu
            simp only at f1 f2
            go_wp2_with fail
            go_quiet (fail)
            have HW3 := Lib.hid (below_drew HW2.out (rfl : World.drewN _ nq = World.drewN _ nq))
            go_wp2
            go_roundw
            case rel => exact ⟨j + 1, by omega, by go_num, HW3⟩
            case measure => simp [intOf]; omega
          · have B5 := Lib.hid (B1.out.trans (HW2.out.mono B1.out.size))
            go_wp2_with fail
            refine (works_any _ (errTab_below HG.out B5.out (errTab_lt HG.out))).mono ?_
            rintro e6 w6 ⟨rfl, hb6⟩
            have B6 := Lib.hid (B5.out.trans (hb6.mono B5.out.size))
            clear hb6
            go_wp2
            go_ret
            exact ⟨rfl, B6.out⟩
end Go.Proofs.YtapghojjkeegjaaDoor
