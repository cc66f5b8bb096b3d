/-
  The walk of stratakit's ApartTexts at this seat's translation: lists of texts that share no memory.
-/
import Derived.Test.YtlfeddgpfaigkaaGreatDoorLnt
import Derived.Test.YtlfeddgpfaigkaaGreatDoorApa
import Derived.Laws.Shifts
import Derived.StillTailTactics
import Derived.Deep.RegionHeld3
namespace Go.Proofs.YtlfeddgpfaigkaaGreatDoor
open Go.RowKit

/-- A text's mark, its cell. -/
def mtV (k i : Nat) : List Value := [.string ⟨(mtI k (i : Int)).toArray⟩]
theorem mtV_len (k i : Nat) : (mtV k i).length = 1 := rfl
theorem infoLists : (Tryz.prog.info? 23).map (fun i => (i.zero, i.size, i.bytes)) = some (some (.slice none 0 0), 1, 24) := by kernel_rfl
theorem below_drewA {B n : Nat} {a w w' : World} (h : Below B a w) (e : w' = w.drewN n) : Below B a w' := by subst e; exact ⟨h.os, h.tape, h.output, h.size, h.block⟩
theorem cell_one_far {w : World} {g L k i : Nat} {a x : Value} (hne : g ≠ L) (h : w.cell? ⟨L, k, none⟩ = some x) : (w.setCell ⟨g, i, none⟩ a).cell? ⟨L, k, none⟩ = some x :=
  (World.cell?_setCell_other _ _ _ _ (fun e => by first | exact hne (congrArg Addr.block e) | exact hne (congrArg Addr.block e).symm)).trans h
/-- A place of a row, where it lies. -/
theorem at_one {w : World} {B n : Nat} {A : Option Addr} {xs : List Value} {u : Value} (h : Reads w B 1 A n xs) {k : Nat} (hk : k < n) (hu : xs[k * 1 + 0]? = some u) : ∃ ad, A = some ad ∧ ad.block < B ∧ w.cell? (ad.add k) = some u := by
  obtain ⟨ad, hA, hb, hc⟩ := h.2 (by omega)
  rw [Nat.mul_one, Nat.add_zero] at hu
  exact ⟨ad, hA, hb, hc _ _ hu⟩
set_option maxHeartbeats 8000000 in
set_option maxRecDepth 100000 in
theorem apartTexts_any (w : World) (B L m : Nat) (cs : Array Value) (V : Nat → Value) (N : Nat → Nat) (X : Nat → List Value) (hL : Blk w L 23 cs) (hcs : ∀ k, k < m → cs[k]? = some (V k))
    (hR : Rws w B 9 1 m V N X) (hB : B ≤ w.heap.size) (hm : m ≤ 1000) (hN : ∀ k, k < m → N k ≤ 10000000) :
    Calls Tryz.prog 58 #[.slice (some ⟨L, 0, none⟩) m m] w fun e w' => e = .returned (.bool true) ∧ Below B w w' := by
  have HCS := Lib.hid hcs
  have HN := Lib.hid hN
  have HR0 := Lib.hid hR
  have HL0 := Lib.hid hL
  clear hcs hN hR hL
  obtain ⟨i0, hi0, hz0, hz1, hz2⟩ := info_parts infoStr
  obtain ⟨i1, hi1, hy0, hy1, hy2⟩ := info_parts infoLists
  go_enter Tryz.func58, Tryz.ntmps58
  go_wp2_with fail
  go_loopw [3] (fun i wr => ∃ k : Nat, k ≤ m ∧ i = .int .i64 k ∧ Hid (Rws wr B 9 1 m V N (fun j => if j < k then marks mtV j (N j) else X j)) ∧ Hid (Blk wr L 23 cs) ∧ Hid (Below B w wr)) (fun i _ => m - (intOf i).toNat)
  case atStart => exact ⟨0, by omega, rfl, Lib.hid (by simpa using HR0.out), HL0, Lib.hid (Below.refl _ _)⟩
  case round =>
    obtain ⟨k, hk, rfl, HR, HL, HW⟩ := hrel
    by_cases hkm : k < m
    · obtain ⟨A, n, c, hV⟩ : ∃ A n c, V k = .slice A n c ∧ N k = n := by
        obtain ⟨A, c, h, _⟩ := own_readsN (HR.out.own k hkm)
        exact ⟨A, N k, c, h, rfl⟩
      have HV := Lib.hid hV
      have hnb := HN.out k hkm
      rw [hV.2] at hnb
      clear hV
      have hX : (X k).length = n * 1 := by have := (HR0.out.own k hkm).1; rw [HV.out.2] at this; exact this
      have HX := Lib.hid hX
      clear hX
      have hgo : k ≤ 1000000 := by omega
      go_wp2_with fail
      go_loopw [4] (fun s wx => ∃ i : Nat, i ≤ n ∧ s = .int .i64 i ∧ Hid (Rws wx B 9 1 m V N (fun j => if j = k then pre mtV 1 k i (X k) else if j < k then marks mtV j (N j) else X j)) ∧ Hid (Blk wx L 23 cs) ∧ Hid (Below B w wx)) (fun s _ => n - (intOf s).toNat)
      case atStart =>
        refine ⟨0, by omega, rfl, Lib.hid ?_, HL, HW⟩
        have := HR.out
        refine ⟨fun j hj => ?_, this.apart⟩
        have h2 := this.own j hj
        by_cases hjk : j = k
        · subst hjk; simpa [pre_zero] using h2
        · simpa [hjk] using h2
      case round =>
        obtain ⟨i, hi, rfl, HR2, HL2, HW2⟩ := hrel
        clear HR HL HW
        have hc : wr.cell? ⟨L, k, none⟩ = some (.slice A n c) := by rw [HL2.out.cell k, HCS.out k hkm, HV.out.1]
        by_cases hin : i < n
        · have ho := HR2.out.own k hkm
          rw [if_pos rfl, HV.out.1, HV.out.2] at ho
          obtain ⟨g, cap, hv, hBg, hglt⟩ := ho.form (by omega)
          injection hv with hA _ _
          subst hA
          have hpl := pre_len (mk := mtV) (k := k) (mtV_len k) HX.out (Nat.le_of_lt hin)
          obtain ⟨x0, hx0⟩ : ∃ x, (pre mtV 1 k i (X k))[i]? = some x := ⟨_, List.getElem?_eq_getElem (by omega)⟩
          have HO := Lib.hid ho
          have HX0 := Lib.hid hx0
          have HBG := Lib.hid hBg
          have HGL : Hid (g ≠ L) := Lib.hid (fun e => own_blk_ne ho HL2.out (by decide) (by simp [Value.ownBlock, e]))
          have HM := Lib.hid (markTexts_any k (i : Int))
          have hst : ∀ wy : World, wy.ownsRow B 9 1 (.slice (some ⟨g, 0, none⟩) n c) n (pre mtV 1 k i (X k)) → _ := fun wy hO => hO.stored i (.string ⟨(mtI k (i : Int)).toArray⟩)
          rw [pre_one (mtV_len k) HX.out hin (a := .string ⟨(mtI k (i : Int)).toArray⟩) rfl] at hst
          have HST := Lib.hid hst
          clear ho hx0 hBg hglt hpl hst
          generalize mtI k (i : Int) = mx at HM HST
          go_wp2_with fail
          go_region_held3 (fun wy => wy.cell? ⟨L, k, none⟩ = some (.slice (some ⟨g, 0, none⟩) n c)) ((first | exact cell_one_far HGL.out (by assumption) | go_keep)) ((go_at_call 118; refine (HM.out _).mono ?_; rintro e w1 ⟨rfl, hb0⟩; have hb1 : Below wr.heap.size wr w1 := ⟨hb0.os, hb0.tape, hb0.output, hb0.size, hb0.block⟩; have HL3 := Lib.hid (HL2.out.below hb1 HL2.out.lt); have d := (hb1.cell (p := ⟨L, k, none⟩) HL2.out.lt).trans hc; have HO3 := Lib.hid (own_kept HO.out hb1); have t0 : w1.cell? ⟨g, i, none⟩ = some x0 := (HO3.out.cellAt i (by omega)).trans HX0.out; have f0 := HO3.out.frozenAt i; have HR3 := Lib.hid (HR2.out.below hb1); have HW3 := Lib.hid (HW2.out.trans (hb1.mono (Nat.le_trans hB HW2.out.size))); clear hb0 hb1))
          have hst := HST.out _ HO3.out
          have HR4 := Lib.hid (HR3.out.turn (X' := fun j => if j = k then pre mtV 1 k (i + 1) (X k) else if j < k then marks mtV j (N j) else X j) hkm (by rw [HV.out.1, HV.out.2]; exact hst.1) (by rw [HV.out.1]; exact hst.2) (fun j => by by_cases e : j = k <;> simp [e]))
          have HL4 := Lib.hid (HL3.out.far (p := ⟨g, i, none⟩) (fun e => HGL.out e.symm) (.string ⟨mx.toArray⟩))
          have HW4 := Lib.hid (HW3.out.setCell (p := ⟨g, i, none⟩) HBG.out (.string ⟨mx.toArray⟩))
          clear hst
          go_wp2
          go_roundw
          case rel => exact ⟨i + 1, by omega, by go_num, HR4, HL4, HW4⟩
          case measure => simp [intOf]; omega
        · have hin2 : i = n := by omega
          have HR4 : Hid (Rws wr B 9 1 m V N (fun j => if j < k + 1 then marks mtV j (N j) else X j)) := Lib.hid (by
            have := HR2.out
            refine ⟨fun j hj => ?_, this.apart⟩
            have h2 := this.own j hj
            by_cases hjk : j = k
            · subst hjk
              rw [if_pos rfl, hin2, pre_all HX.out, ← HV.out.2] at h2
              rw [if_pos (by omega)]
              exact h2
            · rw [if_neg hjk] at h2
              by_cases hlt : j < k
              · rw [if_pos hlt] at h2; rw [if_pos (by omega)]; exact h2
              · rw [if_neg hlt] at h2; rw [if_neg (by omega)]; exact h2)
          clear hin2
          go_wp2
          go_roundw
          case rel => exact ⟨k + 1, by omega, by go_num, HR4, HL2, HW2⟩
          case measure => simp [intOf]; omega
    · have HR4 : Hid (∀ j, j < m → wr.ownsRow B 9 1 (V j) (N j) (marks mtV j (N j))) := Lib.hid (fun j hj => by
        have h2 := HR.out.own j hj
        rwa [if_pos (by omega)] at h2)
      have HAP := Lib.hid HR.out.apart
      clear HR
      clear HL0 HR0
      go_wp2_with fail
      go_loopw [5, 6] (fun v s wr => ∃ (k : Nat) (G : Nat → Value), k ≤ m ∧ s = .int .i64 k ∧ Hid (St2 wr B 9 23 1 m mtV V N k v G) ∧ Hid (v.ownBlock ≠ some L) ∧ Hid (Blk wr L 23 cs) ∧ Hid (Below B w wr)) (fun _ s _ => m - (intOf s).toNat)
      case atStart => exact ⟨0, _, by omega, rfl, Lib.hid (St2.start HR4.out), Lib.hid (fun e => by cases e), HL, HW⟩
      case round =>
        clear HR4 HL HW
        obtain ⟨k, G, hk, rfl, HS, HSL, HL, HW⟩ := hrel
        obtain ⟨w0, hw0⟩ : ∃ w0 : World, w0 = wr := ⟨_, rfl⟩
        subst hw0
        by_cases hkm : k < m
        · obtain ⟨A, n, c, hV⟩ : ∃ A n c, V k = .slice A n c ∧ N k = n := by
            obtain ⟨A, c, h, _⟩ := own_readsN (HS.out.later k (Nat.le_refl _) hkm)
            exact ⟨A, N k, c, h, rfl⟩
          have HV := Lib.hid hV
          have hnb := HN.out k hkm
          rw [hV.2] at hnb
          clear hV
          have hc : w0.cell? ⟨L, k, none⟩ = some (.slice A n c) := by rw [HL.out.cell k, HCS.out k hkm, HV.out.1]
          have HG0 := Lib.hid (Grow.start (by have := HS.out.later k (Nat.le_refl _) hkm; rwa [HV.out.1, HV.out.2] at this))
          go_wp2_with fail
          go_loopw [7, 8] (fun g s wr => ∃ i : Nat, i ≤ 64 ∧ s = .int .i64 i ∧ Hid (Grow w0 wr B 9 1 mtV k A n c i g) ∧ Hid (Blk wr L 23 cs) ∧ Hid (Below B w wr)) (fun _ s _ => 64 - (intOf s).toNat)
          case atStart => exact ⟨0, by omega, rfl, HG0, HL, HW⟩
          case round =>
            clear HL HW HG0 hc
            obtain ⟨i, hi, rfl, HG, HL, HW⟩ := hrel
            have hc : wr.cell? ⟨L, k, none⟩ = some (.slice A n c) := by rw [HL.out.cell k, HCS.out k hkm, HV.out.1]
            by_cases hi6 : i < 64
            · have hmk := fun wx => markTexts_any k ((n + i : Nat) : Int) wx
              have HMW : Hid (mtV k (n + i) = [.string ⟨(mtI k ((n + i : Nat) : Int)).toArray⟩]) := Lib.hid rfl
              rw [show ((n + i : Nat) : Int) = (n : Int) + i by omega] at hmk HMW
              have HM := Lib.hid hmk
              clear hmk
              generalize mtI k ((n : Int) + i) = x at HM HMW
              go_wp2_with fail
              refine (HM.out _).mono ?_
              rintro e w1 ⟨rfl, hb1⟩
              have HG1 := Lib.hid (HG.out.below hb1)
              have HL1 := Lib.hid (HL.out.below hb1 HL.out.lt)
              have HW1 := Lib.hid (HW.out.trans (hb1.mono (Nat.le_trans hB HW.out.size)))
              clear hb1 HG HL HW hc
              go_wp2_with (at_builtin; refine wpList_append_keep _ rfl _ _ 23 rfl B 9 i0 (.string .empty) 1 16 Tryz.underlying23 hi0 hz0 hz1 hz2 rfl (by decide) _ _ _ rfl (HG1.out.own.alloc _) ⟨w1.heap.size, 0, none⟩ 1 1 [.string ⟨x.toArray⟩] rfl rfl (cell_one_new _ _ _) (by intro x hx; simp at hx; subst hx; rfl) (by unfold maxLen; omega) (by omega) (by have := HW1.out.size; simp; omega) (by omega) ?_; intro v1 w2 ho1 hg1 hk1 hl1)
              have hba := (Below.refl w1.heap.size w1).alloc (Nat.le_refl _) (.cells #[.string ⟨x.toArray⟩] 9)
              have hG2 := HG1.out.below hba
              have hL2 := HL1.out.below hba HL1.out.lt
              have hW2 := HW1.out.trans (hba.mono (Nat.le_trans hB HW1.out.size))
              have hnL := own_blk_ne hG2.own hL2 (by decide)
              have HG3 : Hid (Grow w0 w2 B 9 1 mtV k A n c (i + 1) v1) := Lib.hid (hG2.step (by rw [HMW.out]; exact ho1) hg1 hk1 hl1)
              have HL3 : Hid (Blk w2 L 23 cs) := Lib.hid (hL2.grown hg1 (fun e => hnL e.symm))
              have HW3 : Hid (Below B w w2) := Lib.hid (hW2.grown hg1 (by have := HW1.out.size; simp; omega) (fun b hb => (hG2.own.lt b hb).1))
              clear ho1 hg1 hk1 hl1 hba hG2 hL2 hW2 hnL
              go_roundw
              case rel => exact ⟨i + 1, by omega, by go_num, HG3, HL3, HW3⟩
              case measure => simp [intOf]; omega
            · have hi64 : i = 64 := by omega
              subst hi64
              have hgr : w0.grownBy wr (V k).ownBlock := by rw [HV.out.1]; exact HG.out.gr
              have HGS := Lib.hid (HS.out.gs.kept hgr (own_own_ne HS.out.gs (HS.out.later k (Nat.le_refl _) hkm) (by decide)))
              obtain ⟨gb, gc, hgv, _, _⟩ := HG.out.own.form (by omega)
              subst hgv
              have hba := (Below.refl wr.heap.size wr).alloc (Nat.le_refl _) (.cells #[.slice (some ⟨gb, 0, none⟩) (n + 64) gc] 23)
              have HG1 := Lib.hid (HG.out.below hba)
              have HL1 := Lib.hid (HL.out.below hba HL.out.lt)
              have HW1 := Lib.hid (HW.out.trans (hba.mono (Nat.le_trans hB HW.out.size)))
              clear hgr hba hc
              go_wp2_with (at_builtin; refine wpList_append_keep _ rfl _ _ 43 rfl B 23 i1 (.slice none 0 0) 1 24 Tryz.underlying43 hi1 hy0 hy1 hy2 rfl (by decide) _ _ _ rfl (HGS.out.alloc _) ⟨wr.heap.size, 0, none⟩ 1 1 [.slice (some ⟨gb, 0, none⟩) (n + 64) gc] rfl rfl (cell_one_new _ _ _) (by intro x hx; simp at hx; subst hx; rfl) (by unfold maxLen; omega) (by omega) (by have := HW.out.size; simp; omega) (by omega) ?_; intro v1 w2 ho1 hg1 hk1 hl1)
              have HS2 : Hid (St2 w2 B 9 23 1 m mtV V N (k + 1) v1 (fun j => if j = k then .slice (some ⟨gb, 0, none⟩) (n + 64) gc else G j)) := Lib.hid (St2.step (by decide) hkm HAP.out HS.out HV.out.1 HV.out.2 HG1.out ho1 hg1 hl1)
              have hgsl := HGS.out.alloc (.cells #[.slice (some ⟨gb, 0, none⟩) (n + 64) gc] 23)
              have HL2 : Hid (Blk w2 L 23 cs) := Lib.hid (HL1.out.grown hg1 (fun e => HSL.out e.symm))
              have HSL2 : Hid (v1.ownBlock ≠ some L) := Lib.hid (fun e => by
                rcases hl1 with h | h
                · exact HSL.out (h.symm.trans e)
                · have h2 := HL.out.lt
                  rw [h] at e
                  injection e with e
                  simp at e
                  omega)
              have HW2 : Hid (Below B w w2) := Lib.hid (HW1.out.grown hg1 (by have := HW.out.size; simp; omega) (fun b hb => (hgsl.lt b hb).1))
              clear ho1 hg1 hk1 hl1 hgsl
              go_roundw
              case rel => exact ⟨k + 1, _, by omega, by go_num, HS2, HSL2, HL2, HW2⟩
              case measure => simp [intOf]; omega
        · have hkm2 : k = m := by omega
          subst hkm2
          obtain ⟨Ag, cg, hgs, hgr⟩ := own_readsN HS.out.gs
          subst hgs
          have HGR := Lib.hid hgr
          have HGO : Hid (∀ j, j < k → ∃ A1 c1 A2 c2, G j = .slice A1 (N j + 64) c1 ∧ Reads w0 w0.heap.size 1 A1 (N j + 64) (marks mtV j (N j + 64)) ∧ V j = .slice A2 (N j) c2 ∧ Reads w0 w0.heap.size 1 A2 (N j) (marks mtV j (N j))) := Lib.hid (fun j hj => by
            obtain ⟨A1, c1, h1, h2⟩ := own_readsN (HS.out.newr j hj)
            obtain ⟨A2, c2, h3, h4⟩ := HS.out.oldr j hj
            exact ⟨A1, c1, A2, c2, h1, h2, h3, h4⟩)
          clear hgr HS HSL HAP
          go_wp2_with fail
          go_loopw [9] (fun s wr => ∃ j : Nat, j ≤ k ∧ s = .int .i64 j ∧ Hid (Below w0.heap.size w0 wr)) (fun s _ => k - (intOf s).toNat)
          case atStart => exact ⟨0, by omega, rfl, Lib.hid (Below.refl _ _)⟩
          case round =>
            obtain ⟨j, hj, rfl, HX⟩ := hrel
            by_cases hjk : j < k
            · obtain ⟨A1, c1, A2, c2, hG, hR1, hV, hR2⟩ := HGO.out j hjk
              have HR1 := Lib.hid hR1
              have HR2 := Lib.hid hR2
              have HG1 := Lib.hid hG
              have HV1 := Lib.hid hV
              have hnb := HN.out j hjk
              generalize N j = n at HR1 HR2 HG1 HV1 hnb
              clear hG hR1 hV hR2
              obtain ⟨ad, u, rfl, hadb, hu, hc⟩ := HGR.out.at_ hjk
              have hu2 : u = .slice A1 (n + 64) c1 := by
                rw [List.getElem?_map, List.getElem?_range hjk] at hu
                simp at hu
                rw [← hu, HG1.out]
              subst hu2
              have hLc : w0.cell? ⟨L, j, none⟩ = some (.slice A2 n c2) := by rw [HL.out.cell j, HCS.out j hjk, HV1.out]
              have HC := Lib.hid hc
              have HLC := Lib.hid hLc
              have HAD := Lib.hid hadb
              clear hc hLc hu hadb
              have x1 : wr.cell? (ad.add j) = some (.slice A1 (n + 64) c1) := (HX.out.cell (p := ad.add j) (by rw [block_of_add]; exact HAD.out)).trans HC.out
              have x2 : wr.cell? ⟨L, j, none⟩ = some (.slice A2 n c2) := (HX.out.cell (p := ⟨L, j, none⟩) HL.out.lt).trans HLC.out
              go_wp2_with fail
              go_loopw [10] (fun s wr => ∃ i : Nat, i ≤ n + 64 ∧ s = .int .i64 i ∧ Hid (Below w0.heap.size w0 wr)) (fun s _ => n + 64 - (intOf s).toNat)
              case atStart => exact ⟨0, by omega, rfl, HX⟩
              case round =>
                clear HX x1 x2
                obtain ⟨i, hi, rfl, HX⟩ := hrel
                have x1 : wr.cell? (ad.add j) = some (.slice A1 (n + 64) c1) := (HX.out.cell (p := ad.add j) (by rw [block_of_add]; exact HAD.out)).trans HC.out
                by_cases hin : i < n + 64
                · obtain ⟨a1, rfl, b1, y1⟩ := at_one HR1.out hin (marks_get (mtV_len j) (j := 0) hin (by omega))
                  have HY1 := Lib.hid y1
                  have HB1 := Lib.hid b1
                  have HM := Lib.hid (markTexts_any j (i : Int))
                  have ne := fun wx => neq_texts (mtI j (i : Int)) (mtI j (i : Int)) wx
                  rw [decide_eq_false (by simp)] at ne
                  clear y1 b1
                  go_wp2_with fail
                  refine (HM.out _).mono ?_
                  rintro e w1 ⟨rfl, hb1⟩
                  have HX1 := Lib.hid (HX.out.trans (hb1.mono HX.out.size))
                  clear hb1 x1 HM
                  have z1 := (HX1.out.cell (p := ad.add j) (by rw [block_of_add]; exact HAD.out)).trans HC.out
                  have z2 := (HX1.out.cell (p := ⟨L, j, none⟩) HL.out.lt).trans HLC.out
                  have z3 := (HX1.out.cell (p := a1.add i) (by rw [block_of_add]; exact HB1.out)).trans HY1.out
                  by_cases hin2 : i < n
                  · obtain ⟨a2, rfl, b2, y3⟩ := at_one HR2.out hin2 (marks_get (mtV_len j) (j := 0) hin2 (by omega))
                    have z5 := (HX1.out.cell (p := a2.add i) (by rw [block_of_add]; exact b2)).trans y3
                    clear y3 b2
                    generalize mtI j (i : Int) = x at ne z3 z5
                    go_wp2_with fail
                    go_roundw
                    case rel => exact ⟨i + 1, by omega, by go_num, HX1⟩
                    case measure => simp [intOf]; omega
                  · generalize mtI j (i : Int) = x at ne z3
                    go_wp2_with fail
                    go_roundw
                    case rel => exact ⟨i + 1, by omega, by go_num, HX1⟩
                    case measure => simp [intOf]; omega
                · go_wp2
                  go_roundw
                  case rel => exact ⟨j + 1, by omega, by go_num, HX⟩
                  case measure => simp [intOf]; omega
            · go_wp2
              go_ret
              exact ⟨rfl, HW.out.trans (HX.out.mono (Nat.le_trans hB HW.out.size))⟩
end Go.Proofs.YtlfeddgpfaigkaaGreatDoor
