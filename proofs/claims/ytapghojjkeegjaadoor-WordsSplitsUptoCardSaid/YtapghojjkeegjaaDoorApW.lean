/-
  The walks of stratakit's MarkText, markWords and ApartWords at this seat's translation: lists of words that share no memory.
-/
import Derived.Test.YtapghojjkeegjaaDoorWrdS
import Derived.Test.YtapghojjkeegjaaDoorByt
import Derived.Test.YtapghojjkeegjaaDoorApa
import Derived.Laws.Shifts
import Derived.StillTailTactics
import Derived.Deep.RegionHeld3
namespace Go.Proofs.YtapghojjkeegjaaDoor
open Go.RowKit Wrd

/-- The mark of a place in a list. -/
def mt (k i : Nat) : List UInt8 := [35, .ofNat k, .ofNat (k / 256), .ofNat i, .ofNat (i / 256)]
theorem mt_cells (k i : Nat) : Lib.byteCells (mt k i) = [.int .u8 35, .int .u8 ((k : Int) % 256), .int .u8 ((k : Int) / 256 % 256), .int .u8 ((i : Int) % 256), .int .u8 ((i : Int) / 256 % 256)] := by
  simp only [Lib.byteCells, mt, List.map_cons, List.map_nil, UInt8.toNat_ofNat']
  rfl
set_option maxRecDepth 100000 in
theorem markText_any (k i : Nat) (w : World) :
    Calls Tryd.prog 34 #[.int .i64 k, .int .i64 i] w fun e w' => e = .returned (.string ⟨(mt k i).toArray⟩) ∧ Below w.heap.size w w' := by
  have hcv := run_convert_reads Tryd.underlying45 Tryd.underlying5 Tryd.underlying9 5 (l := mt k i) (by
    rw [mt_cells]
    exact Reads.of_block (n := 5) (size := 1) (heap_alloc_new w (.cells #[.int .u8 35, .int .u8 ((k : Int) % 256), .int .u8 ((k : Int) / 256 % 256), .int .u8 ((i : Int) % 256), .int .u8 ((i : Int) / 256 % 256)] 5)) rfl)
  generalize mt k i = x at hcv
  go_enter Tryd.func34, Tryd.ntmps34
  go_wp2
  go_ret
  exact ⟨rfl, (Below.refl _ _).alloc (Nat.le_refl _) _⟩
/-- A word's mark, its cells. -/
def mw (k i : Nat) : List Value := [.int .i64 (-7 - (k : Int)), .string ⟨(mt k i).toArray⟩]
set_option maxRecDepth 100000 in
theorem markWords_any (k i : Nat) (hk : k ≤ 1000000) (w : World) :
    Calls Tryd.prog 26 #[.int .i64 k, .int .i64 i] w fun e w' => e = .returned (.agg (mw k i).toArray) ∧ Below w.heap.size w w' := by
  have HM := Lib.hid (markText_any k i)
  unfold mw
  generalize mt k i = x at HM
  go_enter Tryd.func26, Tryd.ntmps26
  go_wp2_with fail
  refine (HM.out _).mono ?_
  rintro e1 w1 ⟨rfl, hb1⟩
  have hk1 : Blk w1 w.heap.size 41 #[.int .i64 0, .string ⟨#[]⟩] := (Blk.new w 41 #[.int .i64 0, .string ⟨#[]⟩]).below hb1 (by simp)
  have c0 : w1.cell? ⟨w.heap.size, 0, none⟩ = some (.int .i64 0) := hk1.cell 0
  have c1 : w1.cell? ⟨w.heap.size, 1, none⟩ = some (.string ⟨#[]⟩) := hk1.cell 1
  have f0 := hk1.frozen 0
  have f1 := hk1.frozen 1
  have HK := Lib.hid ((hk1.set_ 0 (.int .i64 (-7 - (k : Int)))).set_ 1 (.string ⟨x.toArray⟩))
  have HB := Lib.hid ((((Below.refl w.heap.size w).alloc (Nat.le_refl _) _).trans (hb1.mono (by simp))).setCell (p := ⟨w.heap.size, 0, none⟩) (Nat.le_refl _) (.int .i64 (-7 - (k : Int))))
  clear hb1 hk1
  go_wp2
  exact bodyPost_ret (results_row rfl _ _ _ 41 _ _ _ rfl HK.out Tryd.underlying41 rfl (by kernel_rfl)) rfl ⟨rfl, HB.out.setCell (p := ⟨w.heap.size, 1, none⟩) (Nat.le_refl _) _⟩
theorem markWords_lit (k i : Nat) (hk : k ≤ 1000000) (w : World) :
    Calls Tryd.prog 26 #[.int .i64 k, .int .i64 i] w fun e w' => e = .returned (.agg #[.int .i64 (-7 - (k : Int)), .string ⟨(mt k i).toArray⟩]) ∧ Below w.heap.size w w' := markWords_any k i hk w
theorem mw_len (k i : Nat) : (mw k i).length = 2 := rfl
theorem infoLists : (Tryd.prog.info? 22).map (fun i => (i.zero, i.size, i.bytes)) = some (some (.slice none 0 0), 1, 24) := by kernel_rfl
/-- A store onto one place of a row of words. -/
theorem stored_word {w : World} {B g n c : Nat} {xs : List Value} (h : w.ownsRow B 41 2 (.slice (some ⟨g, 0, none⟩) n c) n xs) (j : Nat) (a b : Value) :
    ((w.setCell ⟨g, j, none⟩ a).setCell ⟨g, j + 1, none⟩ b).ownsRow B 41 2 (.slice (some ⟨g, 0, none⟩) n c) n ((xs.set j a).set (j + 1) b) ∧ w.grownBy ((w.setCell ⟨g, j, none⟩ a).setCell ⟨g, j + 1, none⟩ b) (some g) := by
  obtain ⟨h1, g1⟩ := h.stored j a
  obtain ⟨h2, g2⟩ := h1.stored (j + 1) b
  exact ⟨h2, ⟨g2.os.trans g1.os, g2.tape.trans g1.tape, g2.output.trans g1.output, Nat.le_trans g1.size g2.size, fun k hk hne => (g2.block k (Nat.lt_of_lt_of_le hk g1.size) hne).trans (g1.block k hk hne)⟩⟩

theorem below_drewA {B n : Nat} {a w w' : World} (h : Below B a w) (e : w' = w.drewN n) : Below B a w' := by subst e; exact ⟨h.os, h.tape, h.output, h.size, h.block⟩
theorem neq_word_self (a : Int) (p : List UInt8) (w : World) : (binOp .neq 41 (.agg #[.int .i64 a, .string ⟨p.toArray⟩]) (.agg #[.int .i64 a, .string ⟨p.toArray⟩])).run Tryd.prog w = .ok (.bool false) w := by
  go_simp
/-- A place of a row of words, where it lies. -/
theorem at_two {w : World} {B n : Nat} {A : Option Addr} {xs : List Value} {u v : Value} (h : Reads w B 2 A n xs) {k : Nat} (hk : k < n) (hu : xs[k * 2]? = some u) (hv : xs[k * 2 + 1]? = some v) :
    ∃ ad, A = some ad ∧ ad.block < B ∧ w.cell? (ad.add (k * 2)) = some u ∧ w.cell? ⟨(ad.add (k * 2)).block, (ad.add (k * 2)).off + 1, none⟩ = some v := by
  obtain ⟨ad, hA, hb, hc⟩ := h.2 (by omega)
  have e := hc _ _ hv
  rw [← add_of_add] at e
  exact ⟨ad, hA, hb, hc _ _ hu, by rw [← e]; unfold Addr.add; simp⟩
theorem cell_two_far {w : World} {g L k i : Nat} {a b : Value} {x : Value} (hne : g ≠ L) (h : w.cell? ⟨L, k, none⟩ = some x) : ((w.setCell ⟨g, i, none⟩ a).setCell ⟨g, i + 1, none⟩ b).cell? ⟨L, k, none⟩ = some x :=
  (World.cell?_setCell_other _ _ _ _ (fun e => by first | exact hne (congrArg Addr.block e) | exact hne (congrArg Addr.block e).symm)).trans ((World.cell?_setCell_other _ _ _ _ (fun e => by first | exact hne (congrArg Addr.block e) | exact hne (congrArg Addr.block e).symm)).trans h)
set_option maxHeartbeats 8000000 in
set_option maxRecDepth 100000 in
theorem apartWords_any (w : World) (B L m : Nat) (cs : Array Value) (V : Nat → Value) (N : Nat → Nat) (X : Nat → List Value) (hL : Blk w L 22 cs) (hcs : ∀ k, k < m → cs[k]? = some (V k))
    (hR : Rws w B 41 2 m V N X) (hB : B ≤ w.heap.size) (hm : m ≤ 1000) (hN : ∀ k, k < m → N k ≤ 10000000) :
    Calls Tryd.prog 13 #[.slice (some ⟨L, 0, none⟩) m m] w fun e w' => e = .returned (.bool true) ∧ Below B w w' := by
  have HCS := Lib.hid hcs
  have HN := Lib.hid hN
  have HR0 := Lib.hid hR
  have HL0 := Lib.hid hL
  clear hcs hN hR hL
  obtain ⟨i0, hi0, hz0, hz1, hz2⟩ := info_parts infoWord
  obtain ⟨i1, hi1, hy0, hy1, hy2⟩ := info_parts infoLists
  go_enter Tryd.func13, Tryd.ntmps13
  go_wp2_with fail
  go_loopw [3] (fun i wr => ∃ k : Nat, k ≤ m ∧ i = .int .i64 k ∧ Hid (Rws wr B 41 2 m V N (fun j => if j < k then marks mw j (N j) else X j)) ∧ Hid (Blk wr L 22 cs) ∧ Hid (Below B w wr)) (fun i _ => m - (intOf i).toNat)
  case atStart => exact ⟨0, by omega, rfl, Lib.hid (by simpa using HR0.out), HL0, Lib.hid (Below.refl _ _)⟩
  case round =>
    obtain ⟨k, hk, rfl, HR, HL, HW⟩ := hrel
    by_cases hkm : k < m
    · obtain ⟨A, n, c, hV⟩ : ∃ A n c, V k = .slice A n c ∧ N k = n := by
        obtain ⟨A, c, h, _⟩ := own_readsN (HR.out.own k hkm)
        exact ⟨A, N k, c, h, rfl⟩
      have HV := Lib.hid hV
      have hnb := HN.out k hkm
      rw [hV.2] at hnb
      clear hV
      have hX : (X k).length = n * 2 := by have := (HR0.out.own k hkm).1; rw [HV.out.2] at this; exact this
      have HX := Lib.hid hX
      clear hX
      have hgo : k ≤ 1000000 := by omega
      go_wp2_with fail
      go_loopw [4] (fun s wx => ∃ i : Nat, i ≤ n ∧ s = .int .i64 i ∧ Hid (Rws wx B 41 2 m V N (fun j => if j = k then pre mw 2 k i (X k) else if j < k then marks mw j (N j) else X j)) ∧ Hid (Blk wx L 22 cs) ∧ Hid (Below B w wx)) (fun s _ => n - (intOf s).toNat)
      case atStart =>
        refine ⟨0, by omega, rfl, Lib.hid ?_, HL, HW⟩
        have := HR.out
        refine ⟨fun j hj => ?_, this.apart⟩
        have h2 := this.own j hj
        by_cases hjk : j = k
        · subst hjk; simpa [pre_zero] using h2
        · simpa [hjk] using h2
      case round =>
        obtain ⟨i, hi, rfl, HR2, HL2, HW2⟩ := hrel
        clear HR HL HW
        have hc : wr.cell? ⟨L, k, none⟩ = some (.slice A n c) := by rw [HL2.out.cell k, HCS.out k hkm, HV.out.1]
        by_cases hin : i < n
        · have ho := HR2.out.own k hkm
          rw [if_pos rfl, HV.out.1, HV.out.2] at ho
          obtain ⟨g, cap, hv, hBg, hglt⟩ := ho.form (by omega)
          injection hv with hA _ _
          subst hA
          have hpl := pre_len (mk := mw) (k := k) (mw_len k) HX.out (Nat.le_of_lt hin)
          obtain ⟨x0, hx0⟩ : ∃ x, (pre mw 2 k i (X k))[i * 2]? = some x := ⟨_, List.getElem?_eq_getElem (by omega)⟩
          obtain ⟨x1, hx1⟩ : ∃ x, (pre mw 2 k i (X k))[i * 2 + 1]? = some x := ⟨_, List.getElem?_eq_getElem (by omega)⟩
          have HO := Lib.hid ho
          have HX0 := Lib.hid hx0
          have HX1 := Lib.hid hx1
          have HBG := Lib.hid hBg
          have HGL : Hid (g ≠ L) := Lib.hid (fun e => own_blk_ne ho HL2.out (by decide) (by simp [Value.ownBlock, e]))
          clear ho hx0 hx1 hBg hglt hpl
          go_wp2_with fail
          go_region_held3 (fun wy => wy.cell? ⟨L, k, none⟩ = some (.slice (some ⟨g, 0, none⟩) n c)) ((first | exact cell_two_far HGL.out (by assumption) | go_keep)) ((go_at_call 26; refine (markWords_lit k i hgo _).mono ?_; rintro e w1 ⟨rfl, hb0⟩; have hb1 : Below wr.heap.size wr w1 := ⟨hb0.os, hb0.tape, hb0.output, hb0.size, hb0.block⟩; have HL3 := Lib.hid (HL2.out.below hb1 HL2.out.lt); have d := (hb1.cell (p := ⟨L, k, none⟩) HL2.out.lt).trans hc; have HO3 := Lib.hid (own_kept HO.out hb1); have t0 : w1.cell? ⟨g, i * 2, none⟩ = some x0 := (HO3.out.cellAt (i * 2) (by omega)).trans HX0.out; have t1 : w1.cell? ⟨g, i * 2 + 1, none⟩ = some x1 := (HO3.out.cellAt (i * 2 + 1) (by omega)).trans HX1.out; have f0 := HO3.out.frozenAt (i * 2); have f1 := HO3.out.frozenAt (i * 2 + 1); have HR3 := Lib.hid (HR2.out.below hb1); have HW3 := Lib.hid (HW2.out.trans (hb1.mono (Nat.le_trans hB HW2.out.size))); clear hb0 hb1))
          have hst := stored_word HO3.out (i * 2) (.int .i64 (-7 - (k : Int))) (.string ⟨(mt k i).toArray⟩)
          rw [pre_two (mw_len k) HX.out hin (a := .int .i64 (-7 - (k : Int))) (b := .string ⟨(mt k i).toArray⟩) rfl] at hst
          have HR4 := Lib.hid (HR3.out.turn (X' := fun j => if j = k then pre mw 2 k (i + 1) (X k) else if j < k then marks mw j (N j) else X j) hkm (by rw [HV.out.1, HV.out.2]; exact hst.1) (by rw [HV.out.1]; exact hst.2) (fun j => by by_cases e : j = k <;> simp [e]))
          have HL4 := Lib.hid ((HL3.out.far (p := ⟨g, i * 2, none⟩) (fun e => HGL.out e.symm) (.int .i64 (-7 - (k : Int)))).far (p := ⟨g, i * 2 + 1, none⟩) (fun e => HGL.out e.symm) (.string ⟨(mt k i).toArray⟩))
          have HW4 := Lib.hid ((HW3.out.setCell (p := ⟨g, i * 2, none⟩) HBG.out (.int .i64 (-7 - (k : Int)))).setCell (p := ⟨g, i * 2 + 1, none⟩) HBG.out (.string ⟨(mt k i).toArray⟩))
          clear hst
          go_wp2
          go_roundw
          case rel => exact ⟨i + 1, by omega, by go_num, HR4, HL4, HW4⟩
          case measure => simp [intOf]; omega
        · have hin2 : i = n := by omega
          have HR4 : Hid (Rws wr B 41 2 m V N (fun j => if j < k + 1 then marks mw j (N j) else X j)) := Lib.hid (by
            have := HR2.out
            refine ⟨fun j hj => ?_, this.apart⟩
            have h2 := this.own j hj
            by_cases hjk : j = k
            · subst hjk
              rw [if_pos rfl, hin2, pre_all HX.out, ← HV.out.2] at h2
              rw [if_pos (by omega)]
              exact h2
            · rw [if_neg hjk] at h2
              by_cases hlt : j < k
              · rw [if_pos hlt] at h2; rw [if_pos (by omega)]; exact h2
              · rw [if_neg hlt] at h2; rw [if_neg (by omega)]; exact h2)
          clear hin2
          go_wp2
          go_roundw
          case rel => exact ⟨k + 1, by omega, by go_num, HR4, HL2, HW2⟩
          case measure => simp [intOf]; omega
    · have HR4 : Hid (∀ j, j < m → wr.ownsRow B 41 2 (V j) (N j) (marks mw j (N j))) := Lib.hid (fun j hj => by
        have h2 := HR.out.own j hj
        rwa [if_pos (by omega)] at h2)
      have HAP := Lib.hid HR.out.apart
      clear HR
      clear HL0 HR0
      go_wp2_with fail
      go_loopw [5, 6] (fun v s wr => ∃ (k : Nat) (G : Nat → Value), k ≤ m ∧ s = .int .i64 k ∧ Hid (St2 wr B 41 22 2 m mw V N k v G) ∧ Hid (v.ownBlock ≠ some L) ∧ Hid (Blk wr L 22 cs) ∧ Hid (Below B w wr)) (fun _ s _ => m - (intOf s).toNat)
      case atStart => exact ⟨0, _, by omega, rfl, Lib.hid (St2.start HR4.out), Lib.hid (fun e => by cases e), HL, HW⟩
      case round =>
        clear HR4 HL HW
        obtain ⟨k, G, hk, rfl, HS, HSL, HL, HW⟩ := hrel
        obtain ⟨w0, hw0⟩ : ∃ w0 : World, w0 = wr := ⟨_, rfl⟩
        subst hw0
        by_cases hkm : k < m
        · obtain ⟨A, n, c, hV⟩ : ∃ A n c, V k = .slice A n c ∧ N k = n := by
            obtain ⟨A, c, h, _⟩ := own_readsN (HS.out.later k (Nat.le_refl _) hkm)
            exact ⟨A, N k, c, h, rfl⟩
          have HV := Lib.hid hV
          have hnb := HN.out k hkm
          rw [hV.2] at hnb
          clear hV
          have hc : w0.cell? ⟨L, k, none⟩ = some (.slice A n c) := by rw [HL.out.cell k, HCS.out k hkm, HV.out.1]
          have HG0 := Lib.hid (Grow.start (by have := HS.out.later k (Nat.le_refl _) hkm; rwa [HV.out.1, HV.out.2] at this))
          go_wp2_with fail
          go_loopw [7, 8] (fun g s wr => ∃ i : Nat, i ≤ 64 ∧ s = .int .i64 i ∧ Hid (Grow w0 wr B 41 2 mw k A n c i g) ∧ Hid (Blk wr L 22 cs) ∧ Hid (Below B w wr)) (fun _ s _ => 64 - (intOf s).toNat)
          case atStart => exact ⟨0, by omega, rfl, HG0, HL, HW⟩
          case round =>
            clear HL HW HG0 hc
            obtain ⟨i, hi, rfl, HG, HL, HW⟩ := hrel
            have hc : wr.cell? ⟨L, k, none⟩ = some (.slice A n c) := by rw [HL.out.cell k, HCS.out k hkm, HV.out.1]
            by_cases hi6 : i < 64
            · have hmk := fun wx => markWords_lit k (n + i) (by omega) wx
              rw [show ((n + i : Nat) : Int) = (n : Int) + i by omega] at hmk
              have HM := Lib.hid hmk
              clear hmk
              have HMW : Hid (mw k (n + i) = [.int .i64 (-7 - (k : Int)), .string ⟨(mt k (n + i)).toArray⟩]) := Lib.hid rfl
              generalize mt k (n + i) = x at HM HMW
              go_wp2_with fail
              refine (HM.out _).mono ?_
              rintro e w1 ⟨rfl, hb1⟩
              have HG1 := Lib.hid (HG.out.below hb1)
              have HL1 := Lib.hid (HL.out.below hb1 HL.out.lt)
              have HW1 := Lib.hid (HW.out.trans (hb1.mono (Nat.le_trans hB HW.out.size)))
              clear hb1 HG HL HW hc
              go_wp2_with (at_builtin; refine wpList_append_keep _ rfl _ _ 22 rfl B 41 i0 (.agg #[.int .i64 0, .string .empty]) 2 24 Tryd.underlying22 hi0 hz0 hz1 hz2 rfl (by decide) _ _ _ rfl (HG1.out.own.alloc _) ⟨w1.heap.size, 0, none⟩ 1 1 [.int .i64 (-7 - (k : Int)), .string ⟨x.toArray⟩] rfl rfl (two_new _ _ _ _) (by intro x hx; simp at hx; rcases hx with rfl | rfl <;> rfl) (by unfold maxLen; omega) (by omega) (by have := HW1.out.size; simp; omega) (by omega) ?_; intro v1 w2 ho1 hg1 hk1 hl1)
              have hba := (Below.refl w1.heap.size w1).alloc (Nat.le_refl _) (.cells #[.int .i64 (-7 - (k : Int)), .string ⟨x.toArray⟩] 41)
              have hG2 := HG1.out.below hba
              have hL2 := HL1.out.below hba HL1.out.lt
              have hW2 := HW1.out.trans (hba.mono (Nat.le_trans hB HW1.out.size))
              have hnL := own_blk_ne hG2.own hL2 (by decide)
              have HG3 : Hid (Grow w0 w2 B 41 2 mw k A n c (i + 1) v1) := Lib.hid (hG2.step (by rw [HMW.out]; exact ho1) hg1 hk1 hl1)
              have HL3 : Hid (Blk w2 L 22 cs) := Lib.hid (hL2.grown hg1 (fun e => hnL e.symm))
              have HW3 : Hid (Below B w w2) := Lib.hid (hW2.grown hg1 (by have := HW1.out.size; simp; omega) (fun b hb => (hG2.own.lt b hb).1))
              clear ho1 hg1 hk1 hl1 hba hG2 hL2 hW2 hnL
              go_roundw
              case rel => exact ⟨i + 1, by omega, by go_num, HG3, HL3, HW3⟩
              case measure => simp [intOf]; omega
            · have hi64 : i = 64 := by omega
              subst hi64
              have hgr : w0.grownBy wr (V k).ownBlock := by rw [HV.out.1]; exact HG.out.gr
              have HGS := Lib.hid (HS.out.gs.kept hgr (own_own_ne HS.out.gs (HS.out.later k (Nat.le_refl _) hkm) (by decide)))
              obtain ⟨gb, gc, hgv, _, _⟩ := HG.out.own.form (by omega)
              subst hgv
              have hba := (Below.refl wr.heap.size wr).alloc (Nat.le_refl _) (.cells #[.slice (some ⟨gb, 0, none⟩) (n + 64) gc] 22)
              have HG1 := Lib.hid (HG.out.below hba)
              have HL1 := Lib.hid (HL.out.below hba HL.out.lt)
              have HW1 := Lib.hid (HW.out.trans (hba.mono (Nat.le_trans hB HW.out.size)))
              clear hgr hba hc
              go_wp2_with (at_builtin; refine wpList_append_keep _ rfl _ _ 32 rfl B 22 i1 (.slice none 0 0) 1 24 Tryd.underlying32 hi1 hy0 hy1 hy2 rfl (by decide) _ _ _ rfl (HGS.out.alloc _) ⟨wr.heap.size, 0, none⟩ 1 1 [.slice (some ⟨gb, 0, none⟩) (n + 64) gc] rfl rfl (cell_one_new _ _ _) (by intro x hx; simp at hx; subst hx; rfl) (by unfold maxLen; omega) (by omega) (by have := HW.out.size; simp; omega) (by omega) ?_; intro v1 w2 ho1 hg1 hk1 hl1)
              have HS2 : Hid (St2 w2 B 41 22 2 m mw V N (k + 1) v1 (fun j => if j = k then .slice (some ⟨gb, 0, none⟩) (n + 64) gc else G j)) := Lib.hid (St2.step (by decide) hkm HAP.out HS.out HV.out.1 HV.out.2 HG1.out ho1 hg1 hl1)
              have hgsl := HGS.out.alloc (.cells #[.slice (some ⟨gb, 0, none⟩) (n + 64) gc] 22)
              have HL2 : Hid (Blk w2 L 22 cs) := Lib.hid (HL1.out.grown hg1 (fun e => HSL.out e.symm))
              have HSL2 : Hid (v1.ownBlock ≠ some L) := Lib.hid (fun e => by
                rcases hl1 with h | h
                · exact HSL.out (h.symm.trans e)
                · have h2 := HL.out.lt
                  rw [h] at e
                  injection e with e
                  simp at e
                  omega)
              have HW2 : Hid (Below B w w2) := Lib.hid (HW1.out.grown hg1 (by have := HW.out.size; simp; omega) (fun b hb => (hgsl.lt b hb).1))
              clear ho1 hg1 hk1 hl1 hgsl
              go_roundw
              case rel => exact ⟨k + 1, _, by omega, by go_num, HS2, HSL2, HL2, HW2⟩
              case measure => simp [intOf]; omega
        · have hkm2 : k = m := by omega
          subst hkm2
          obtain ⟨Ag, cg, hgs, hgr⟩ := own_readsN HS.out.gs
          subst hgs
          have HGR := Lib.hid hgr
          have HGO : Hid (∀ j, j < k → ∃ A1 c1 A2 c2, G j = .slice A1 (N j + 64) c1 ∧ Reads w0 w0.heap.size 2 A1 (N j + 64) (marks mw j (N j + 64)) ∧ V j = .slice A2 (N j) c2 ∧ Reads w0 w0.heap.size 2 A2 (N j) (marks mw j (N j))) := Lib.hid (fun j hj => by
            obtain ⟨A1, c1, h1, h2⟩ := own_readsN (HS.out.newr j hj)
            obtain ⟨A2, c2, h3, h4⟩ := HS.out.oldr j hj
            exact ⟨A1, c1, A2, c2, h1, h2, h3, h4⟩)
          clear hgr HS HSL HAP
          go_wp2_with fail
          go_loopw [9] (fun s wr => ∃ j : Nat, j ≤ k ∧ s = .int .i64 j ∧ Hid (Below w0.heap.size w0 wr)) (fun s _ => k - (intOf s).toNat)
          case atStart => exact ⟨0, by omega, rfl, Lib.hid (Below.refl _ _)⟩
          case round =>
            obtain ⟨j, hj, rfl, HX⟩ := hrel
            by_cases hjk : j < k
            · obtain ⟨A1, c1, A2, c2, hG, hR1, hV, hR2⟩ := HGO.out j hjk
              have HR1 := Lib.hid hR1
              have HR2 := Lib.hid hR2
              have HG1 := Lib.hid hG
              have HV1 := Lib.hid hV
              have hnb := HN.out j hjk
              generalize N j = n at HR1 HR2 HG1 HV1 hnb
              clear hG hR1 hV hR2
              obtain ⟨ad, u, rfl, hadb, hu, hc⟩ := HGR.out.at_ hjk
              have hu2 : u = .slice A1 (n + 64) c1 := by
                rw [List.getElem?_map, List.getElem?_range hjk] at hu
                simp at hu
                rw [← hu, HG1.out]
              subst hu2
              have hLc : w0.cell? ⟨L, j, none⟩ = some (.slice A2 n c2) := by rw [HL.out.cell j, HCS.out j hjk, HV1.out]
              have HC := Lib.hid hc
              have HLC := Lib.hid hLc
              have HAD := Lib.hid hadb
              clear hc hLc hu hadb
              have x1 : wr.cell? (ad.add j) = some (.slice A1 (n + 64) c1) := (HX.out.cell (p := ad.add j) (by rw [block_of_add]; exact HAD.out)).trans HC.out
              have x2 : wr.cell? ⟨L, j, none⟩ = some (.slice A2 n c2) := (HX.out.cell (p := ⟨L, j, none⟩) HL.out.lt).trans HLC.out
              go_wp2_with fail
              go_loopw [10] (fun s wr => ∃ i : Nat, i ≤ n + 64 ∧ s = .int .i64 i ∧ Hid (Below w0.heap.size w0 wr)) (fun s _ => n + 64 - (intOf s).toNat)
              case atStart => exact ⟨0, by omega, rfl, HX⟩
              case round =>
                clear HX x1 x2
                obtain ⟨i, hi, rfl, HX⟩ := hrel
                have x1 : wr.cell? (ad.add j) = some (.slice A1 (n + 64) c1) := (HX.out.cell (p := ad.add j) (by rw [block_of_add]; exact HAD.out)).trans HC.out
                by_cases hin : i < n + 64
                · obtain ⟨a1, rfl, b1, y1, y2⟩ := at_two HR1.out hin (marks_get (mw_len j) (j := 0) hin (by omega)) (marks_get (mw_len j) (j := 1) hin (by omega))
                  have HY1 := Lib.hid y1
                  have HY2 := Lib.hid y2
                  have HB1 := Lib.hid b1
                  have HM := Lib.hid (markWords_lit j i (by omega))
                  have HMK : Hid (mw j i = [.int .i64 (-7 - (j : Int)), .string ⟨(mt j i).toArray⟩]) := Lib.hid rfl
                  clear y1 y2 b1
                  go_wp2_with fail
                  refine (HM.out _).mono ?_
                  rintro e w1 ⟨rfl, hb1⟩
                  have HX1 := Lib.hid (HX.out.trans (hb1.mono HX.out.size))
                  clear hb1 x1
                  have hsz := HX1.out.size
                  have z1 := fun o => (World.cell?_alloc_lt w1 o (ad.add j) (by rw [block_of_add]; have := HAD.out; omega)).trans ((HX1.out.cell (p := ad.add j) (by rw [block_of_add]; exact HAD.out)).trans HC.out)
                  have z2 := fun o => (World.cell?_alloc_lt w1 o ⟨L, j, none⟩ (by have := HL.out.lt; simp only; omega)).trans ((HX1.out.cell (p := ⟨L, j, none⟩) HL.out.lt).trans HLC.out)
                  have z3 := fun o => (World.cell?_alloc_lt w1 o (a1.add (i * 2)) (by rw [block_of_add]; have := HB1.out; omega)).trans ((HX1.out.cell (p := a1.add (i * 2)) (by rw [block_of_add]; exact HB1.out)).trans HY1.out)
                  have z4 := fun o => (World.cell?_alloc_lt w1 o ⟨(a1.add (i * 2)).block, (a1.add (i * 2)).off + 1, none⟩ (by simp only; rw [block_of_add]; have := HB1.out; omega)).trans ((HX1.out.cell (p := ⟨(a1.add (i * 2)).block, (a1.add (i * 2)).off + 1, none⟩) (by simp only; rw [block_of_add]; exact HB1.out)).trans HY2.out)
                  have ne := neq_word_self (-7 - (j : Int)) (mt j i)
                  by_cases hin2 : i < n
                  · obtain ⟨a2, rfl, b2, y3, y4⟩ := at_two HR2.out hin2 (marks_get (mw_len j) (j := 0) hin2 (by omega)) (marks_get (mw_len j) (j := 1) hin2 (by omega))
                    have z5 := fun o => (World.cell?_alloc_lt w1 o (a2.add (i * 2)) (by rw [block_of_add]; omega)).trans ((HX1.out.cell (p := a2.add (i * 2)) (by rw [block_of_add]; exact b2)).trans y3)
                    have z6 := fun o => (World.cell?_alloc_lt w1 o ⟨(a2.add (i * 2)).block, (a2.add (i * 2)).off + 1, none⟩ (by simp only; rw [block_of_add]; omega)).trans ((HX1.out.cell (p := ⟨(a2.add (i * 2)).block, (a2.add (i * 2)).off + 1, none⟩) (by simp only; rw [block_of_add]; exact b2)).trans y4)
                    clear y3 y4 b2 hsz
                    have HX2 : Hid (Below w0.heap.size w0 (w1.alloc (.cells #[.int .i64 (-7 - (j : Int)), .string ⟨(mt j i).toArray⟩] 41))) := Lib.hid (HX1.out.alloc HX1.out.size _)
                    generalize mt j i = x at ne z3 z4 z5 z6 HX2
                    go_wp2_with fail
                    go_quiet (fail)
                    have HX3 := Lib.hid (below_drewA HX2.out (rfl : World.drewN _ nq = World.drewN _ nq))
                    go_wp2
                    go_roundw
                    case rel => exact ⟨i + 1, by omega, by go_num, HX3⟩
                    case measure => simp [intOf]; omega
                  · clear hsz
                    have HX2 : Hid (Below w0.heap.size w0 (w1.alloc (.cells #[.int .i64 (-7 - (j : Int)), .string ⟨(mt j i).toArray⟩] 41))) := Lib.hid (HX1.out.alloc HX1.out.size _)
                    generalize mt j i = x at ne z3 z4 HX2
                    go_wp2_with fail
                    go_quiet (fail)
                    have HX3 := Lib.hid (below_drewA HX2.out (rfl : World.drewN _ nq = World.drewN _ nq))
                    go_wp2
                    go_roundw
                    case rel => exact ⟨i + 1, by omega, by go_num, HX3⟩
                    case measure => simp [intOf]; omega
                · go_wp2
                  go_roundw
                  case rel => exact ⟨j + 1, by omega, by go_num, HX⟩
                  case measure => simp [intOf]; omega
            · go_wp2
              go_ret
              exact ⟨rfl, HW.out.trans (HX.out.mono (Nat.le_trans hB HW.out.size))⟩
end Go.Proofs.YtapghojjkeegjaaDoor
