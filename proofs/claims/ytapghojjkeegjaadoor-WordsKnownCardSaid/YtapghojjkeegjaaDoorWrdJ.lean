/-
  The walk of stratalaw13.WordsJoined at this seat's translation.
-/
import Derived.Test.YtapghojjkeegjaaDoorWrdC
import Derived.Test.YtapghojjkeegjaaDoorByt
namespace Go.Proofs.YtapghojjkeegjaaDoor
open Go.RowKit Wrd Err

theorem add_bytes (l m : List UInt8) (h : l.length + m.length ≤ 9223372036854775807) (w : World) : (Op.stringOp .add ⟨l.toArray⟩ ⟨m.toArray⟩).run Tryd.prog w = .ok (.string ⟨(l ++ m).toArray⟩) w := by
  rw [run_string_add_sum w _ _ (by simpa [ByteArray.size] using h), ByteArray.mk_append_mk]
theorem escOf_escOf (c : UInt8) : escOf (escOf c) = escOf c := by
  rcases escOf_cases c with h | h <;> rw [h] <;> rfl
/-- The blank that counts. -/
def blOf (b : UInt8) : UInt8 := if Wrd.blank b = true then b else 32
theorem blOf_blank (b : UInt8) : Wrd.blank (blOf b) = true := by
  unfold blOf; split
  · assumption
  · rfl
set_option maxHeartbeats 4000000 in
set_option maxRecDepth 100000 in
theorem wordsJoined_any (s t : List UInt8) (hs : s.length ≤ 1048576) (ht : t.length ≤ 1048576) (c0 b0 : UInt8) (w : World) (hg : ErrTab w) :
    Calls Tryd.prog 6 #[.agg #[.string ⟨s.toArray⟩, .string ⟨t.toArray⟩, .int .u8 c0.toNat, .int .u8 b0.toNat]] w fun e w' => e = .returned (.bool true) ∧ Below w.heap.size w w' := by
  have HG := Lib.hid hg
  clear hg
  have hcs := split_covered s (escOf c0)
  have hct := split_covered t (escOf c0)
  go_enter Tryd.func6, Tryd.ntmps6
  go_wp2_with fail
  go_quiet (fail)
  generalize hW : ((w.alloc (.cells #[.string ⟨s.toArray⟩, .string ⟨t.toArray⟩, .int .u8 c0.toNat, .int .u8 b0.toNat] 44)).drewN nq) = W0
  have B0 : Hid (Below w.heap.size w W0) := by subst hW; exact Lib.hid (below_drew ((Below.refl _ _).alloc (Nat.le_refl _) _) rfl)
  clear hW
  go_upto_if 24 with fail
  go_cut [5] (fun s5 wx => s5 = .int .u8 (escOf c0).toNat ∧ W0 = wx)
  case first =>
    by_cases h : c0.toNat = 96
    · have HC := Lib.hid (show escOf c0 = 96 from if_pos (UInt8.toNat_inj.1 h))
      have q1 : ((c0.toNat : Int) != 96) = false := by rw [Bool.eq_false_iff, ne_eq, bne_iff_ne]; omega
      have HT := Lib.hid (show ((c0.toNat : Int)) = 96 by omega)
      clear h
      go_wp2
      go_meet
      exact ⟨by rw [HC.out, HT.out]; rfl, rfl⟩
    · have HC := Lib.hid (show escOf c0 = 92 from if_neg (fun e => h (by rw [e]; rfl)))
      have q1 : ((c0.toNat : Int) != 96) = true := by rw [bne_iff_ne]; omega
      clear h
      go_wp2
      go_meet
      exact ⟨by rw [HC.out]; rfl, rfl⟩
  case rest =>
    obtain ⟨rfl, rfl⟩ := hcut
    have hee := escOf_escOf c0
    generalize escOf c0 = e at hcs hct hee
    have HEE := Lib.hid hee
    clear hee
    have hcv := run_convert_reads Tryd.underlying45 Tryd.underlying5 Tryd.underlying9 1 (l := [b0]) (w := W0.alloc (.cells #[.int .u8 b0.toNat] 5)) (Reads.of_block (n := 1) (heap_alloc_new _ _) rfl)
    go_upto_if 29 with fail
    clear hcv
    refine (blanks_any [b0] (by simp) _).mono ?_
    rintro e1 w1 ⟨rfl, hw1⟩
    have B1 : Hid (Below w.heap.size w w1) := by subst hw1; exact Lib.hid (B0.out.alloc B0.out.size _)
    clear hw1 B0
    go_upto_if 29 with fail
    go_cut [6] (fun s6 wx => s6 = .int .u8 (blOf b0).toNat ∧ w1 = wx)
    case first =>
      cases hbl : Wrd.blank b0
      · have HB := Lib.hid (show blOf b0 = 32 by unfold blOf; rw [hbl]; rfl)
        have hb2 : [b0].all Wrd.blank = false := by simp [hbl]
        clear hbl
        go_wp2
        go_meet
        exact ⟨by rw [HB.out]; rfl, rfl⟩
      · have HB := Lib.hid (show blOf b0 = b0 by unfold blOf; rw [hbl]; rfl)
        have hb2 : [b0].all Wrd.blank = true := by simp [hbl]
        clear hbl
        go_wp2
        go_meet
        exact ⟨by rw [HB.out], rfl⟩
    case rest =>
      obtain ⟨rfl, rfl⟩ := hcut
      have hbb := blOf_blank b0
      generalize blOf b0 = b at hbb
      have HBB := Lib.hid hbb
      clear hbb
      go_wp2_with fail
      refine (Split_any s (by omega) e _).mono ?_
      rintro e2 w2 hp
      rcases hp with ⟨l, v, h1, rfl, h3, h4⟩ | ⟨q, h1, rfl, h4⟩
      · obtain ⟨A, ca, rfl, hr⟩ := own_readsN h3
        have HR1 := Lib.hid hr
        have H1 := Lib.hid h1
        have B2 := Lib.hid (B1.out.trans (h4.mono B1.out.size))
        clear hr h1 h3 h4 B1
        go_wp2_with fail
        refine (Split_any t (by omega) e _).mono ?_
        rintro e3 w3 hp
        rcases hp with ⟨m, v, h2, rfl, h3, h4⟩ | ⟨q, h2, rfl, h4⟩
        · obtain ⟨A', cb, rfl, hr⟩ := own_readsN h3
          have HR2 := Lib.hid hr
          have HR1 := Lib.hid (HR1.out.step (Nat.le_refl _) h4)
          have H2 := Lib.hid h2
          have B3 := Lib.hid (B2.out.trans (h4.mono B2.out.size))
          clear hr h2 h3 h4 B2
          have hls := covered_len (H1.out ▸ hcs)
          have hlt := covered_len (H2.out ▸ hct)
          clear hcs hct
          by_cases hend : s ≠ [] ∧ s.getD (s.length - 1) 0 = e
          · obtain ⟨hne, hd⟩ := hend
            have hpos : 0 < s.length := List.length_pos_iff.2 hne
            have hidx := run_index_list Tryd.underlying9 s (s.length - 1) (by omega)
            rw [hd, show ((s.length - 1 : Nat) : Int) = (s.length : Int) - 1 by omega] at hidx
            have hem : s.isEmpty = false := by rw [← Bool.not_eq_true, List.isEmpty_iff]; exact hne
            clear hd
            go_wp2_with fail
            refine (works_any _ (errTab_below HG.out B3.out (errTab_lt HG.out))).mono ?_
            rintro e4 w4 ⟨rfl, hb4⟩
            have B4 := Lib.hid (B3.out.trans (hb4.mono B3.out.size))
            clear hb4
            go_wp2
            go_ret
            exact ⟨rfl, B4.out⟩
          · have HJ : Hid (split (s ++ [b] ++ t) e = .ok (l ++ sh (s.length + 1) m)) := Lib.hid (by
              rw [List.append_assoc]
              exact split_join HBB.out (fun h => by rw [HEE.out]; exact fun h2 => hend ⟨h, h2⟩) H1.out H2.out)
            have HLEN : Hid ((l ++ sh (s.length + 1) m).length = l.length + m.length) := Lib.hid (by simp [sh])
            have HGET : Hid (∀ k, k < l.length → (l ++ sh (s.length + 1) m).getD k (0, []) = l.getD k (0, [])) := Lib.hid (fun k hk => by simp [List.getD, List.getElem?_append_left hk])
            have HGET2 : Hid (∀ k, l.length ≤ k → k < l.length + m.length → (l ++ sh (s.length + 1) m).getD k (0, []) = ((m.getD (k - l.length) (0, [])).1 + (s.length + 1), (m.getD (k - l.length) (0, [])).2)) := Lib.hid (fun k h1 h2 => by
              simp only [List.getD, List.getElem?_append_right h1, sh, List.getElem?_map]
              rw [List.getElem?_eq_getElem (by omega)]; rfl)
            generalize l ++ sh (s.length + 1) m = L at HJ HLEN HGET HGET2
            have ha1 := add_bytes s [b] (by simp; omega)
            have ha2 := add_bytes (s ++ [b]) t (by simp; omega)
            have hcv2 := run_convert_reads Tryd.underlying45 Tryd.underlying5 Tryd.underlying9 1 (l := [b]) (w := w3.alloc (.cells #[.int .u8 b.toNat] 5)) (Reads.of_block (n := 1) (heap_alloc_new _ _) rfl)
            have hSL : (s ++ [b] ++ t).length ≤ 4398046511104 := by simp; omega
            generalize s ++ [b] ++ t = S at HJ ha2 hSL
            generalize hs1 : s ++ [b] = s1 at ha1 ha2
            clear hs1
            have hwhich : (s.isEmpty = true) ∨ (s.isEmpty = false ∧ ∃ d : UInt8, ((d.toNat : Int) == (e.toNat : Int)) = false ∧ ∀ wx : World, (Instr.index 9 (.string ⟨s.toArray⟩) (.int .i64 ((s.length : Int) - 1))).run Tryd.prog wx = .ok (.int .u8 d.toNat) wx) := by
              cases hE : s.isEmpty
              · have hne : s ≠ [] := by rw [← Bool.not_eq_true, List.isEmpty_iff] at hE; exact hE
                have hpos : 0 < s.length := List.length_pos_iff.2 hne
                refine .inr ⟨rfl, s.getD (s.length - 1) 0, ?_, fun wx => ?_⟩
                · rw [beq_eq_false_iff_ne]
                  intro h
                  exact hend ⟨hne, UInt8.toNat_inj.1 (by omega)⟩
                · have := run_index_list Tryd.underlying9 s (s.length - 1) (by omega) wx
                  rwa [show ((s.length - 1 : Nat) : Int) = (s.length : Int) - 1 by omega] at this
              · exact .inl rfl
            have BA : Hid (Below w.heap.size w (w3.alloc (.cells #[.int .u8 b.toNat] 5))) := Lib.hid (B3.out.alloc B3.out.size _)
            clear hend
            go_upto_region 8 with fail
            go_cut [60] (fun s60 wx => s60 = .bool false ∧ w3 = wx)
            case first =>
              rcases hwhich with hE | ⟨hE, d, q1, hidx⟩
              · go_wp2
                go_meet
                exact ⟨rfl, rfl⟩
              · go_wp2
                go_meet
                exact ⟨rfl, rfl⟩
            case rest =>
              clear hwhich
              obtain ⟨rfl, rfl⟩ := hcut
              go_wp2_with fail
              clear ha1 ha2 hcv2
              refine (split_ok HJ.out hSL _).mono ?_
              rintro e4 w4 ⟨A4, c4, rfl, hr4, hb4⟩
              have HR3 := Lib.hid hr4
              have hbx := (Below.refl w3.heap.size w3).alloc (Nat.le_refl _) (.cells #[.int .u8 b.toNat] 5)
              have hb5 := hbx.trans (hb4.mono hbx.size)
              have HR1 := Lib.hid (HR1.out.step (Nat.le_refl _) hb5)
              have HR2 := Lib.hid (HR2.out.step (Nat.le_refl _) hb5)
              have B4 := Lib.hid (B3.out.trans (hb5.mono B3.out.size))
              clear hr4 hb4 hbx hb5 BA B3
              have HX1 : Hid (∀ k, k < l.length → ∃ x : Nat × List UInt8, l.getD k (0, []) = x ∧ L.getD k (0, []) = x) := Lib.hid (fun k hk => ⟨_, rfl, HGET.out k hk⟩)
              have HX2 : Hid (∀ k, l.length ≤ k → k < l.length + m.length → ∃ (a : Nat) (p : List UInt8), m.getD (k - l.length) (0, []) = (a, p) ∧ L.getD k (0, []) = (a + (s.length + 1), p)) := Lib.hid (fun k h1 h2 => ⟨_, _, rfl, HGET2.out k h1 h2⟩)
              have HSM : Hid (∀ k, l.length ≤ k → k < l.length + m.length → (m.getD (k - l.length) (0, [])).1 ≤ t.length) := Lib.hid (fun k h1 h2 => by
                have hc := (show Covered t (.ok m) from H2.out ▸ split_covered t e).1 (k - l.length) (m.getD (k - l.length) (0, [])) (by simp [List.getD, List.getElem?_eq_getElem (show k - l.length < m.length by omega)])
                have := hc.2.2.1
                omega)
              have hlen := HLEN.out
              clear HGET HGET2 HLEN
              generalize l.length = n1 at HR1 hls HX1 HX2 HSM hlen
              generalize m.length = n2 at HR2 hlt HX2 HSM hlen
              generalize L.length = n at HR3 hlen
              have hn1 : n ≤ n1 + n2 := by omega
              have hn2 : n1 + n2 ≤ n := by omega
              have q1 : ((n : Int) != (n1 : Int) + (n2 : Int)) = false := by rw [Bool.eq_false_iff, ne_eq, bne_iff_ne]; omega
              clear hlen
              go_wp2_with fail
              go_loopw [13] (fun i wr => ∃ k : Nat, k ≤ n ∧ i = .int .i64 k ∧ Hid (Below w4.heap.size w4 wr)) (fun i _ => n - (intOf i).toNat)
              case atStart => exact ⟨0, by omega, rfl, Lib.hid (Below.refl _ _)⟩
              case round =>
                obtain ⟨k, hk, rfl, HW⟩ := hrel
                by_cases hkn : k < n
                · obtain ⟨ad, rfl, hadb, g1, g2⟩ := at_word (HR3.out.below HW.out) hkn
                  by_cases hk1 : k < n1
                  · obtain ⟨ad1, rfl, hadb1, f1, f2⟩ := at_word (HR1.out.below HW.out) hk1
                    obtain ⟨⟨a, p⟩, hx1, hx2⟩ := HX1.out k hk1
                    rw [hx1] at f1 f2
                    rw [hx2] at g1 g2
                    clear hx1 hx2
                    simp only at f1 f2 g1 g2
                    have G1 := fun o => (World.cell?_alloc_lt wr o (ad.add (k * 2)) (by rw [block_of_add]; have := HW.out.size; omega)).trans g1
                    have G2 := fun o => (World.cell?_alloc_lt wr o ⟨(ad.add (k * 2)).block, (ad.add (k * 2)).off + 1, none⟩ (by simp only; rw [block_of_add]; have := HW.out.size; omega)).trans g2
                    have F1 := fun o => (World.cell?_alloc_lt wr o (ad1.add (k * 2)) (by rw [block_of_add]; have := HW.out.size; omega)).trans f1
                    have F2 := fun o => (World.cell?_alloc_lt wr o ⟨(ad1.add (k * 2)).block, (ad1.add (k * 2)).off + 1, none⟩ (by simp only; rw [block_of_add]; have := HW.out.size; omega)).trans f2
                    clear g1 g2 f1 f2
                    have c1 := fun wx => (neq_word a a p p wx).trans (by rw [decide_eq_false (by simp)])
                    have HB : Hid (Below w4.heap.size w4 (wr.alloc (.cells #[.int .i64 a, .string ⟨p.toArray⟩] 41))) := Lib.hid (HW.out.alloc HW.out.size _)
                    go_wp2_with fail
                    go_quiet (fail)
                    have HB2 := Lib.hid (below_drew HB.out (rfl : World.drewN _ nq = World.drewN _ nq))
                    go_wp2
                    go_roundw
                    case rel => exact ⟨k + 1, by omega, by go_num, HB2⟩
                    case measure => simp [intOf]; omega
                  · have hk2 : n1 ≤ k := by omega
                    have hkm : k - n1 < n2 := by omega
                    obtain ⟨ad2, rfl, hadb2, f1, f2⟩ := at_word (HR2.out.below HW.out) hkm
                    obtain ⟨a, p, hx1, hx2⟩ := HX2.out k hk2 (by omega)
                    have hab := HSM.out k hk2 (by omega)
                    rw [hx1] at f1 f2 hab
                    rw [hx2] at g1 g2
                    clear hx1 hx2
                    simp only at f1 f2 g1 g2 hab
                    rw [show ((a + (s.length + 1) : Nat) : Int) = (a : Int) + s.length + 1 by omega] at g1
                    have G1 := fun o => (World.cell?_alloc_lt wr o (ad.add (k * 2)) (by rw [block_of_add]; have := HW.out.size; omega)).trans g1
                    have G2 := fun o => (World.cell?_alloc_lt wr o ⟨(ad.add (k * 2)).block, (ad.add (k * 2)).off + 1, none⟩ (by simp only; rw [block_of_add]; have := HW.out.size; omega)).trans g2
                    have F1 := fun o => (World.cell?_alloc_lt wr o (ad2.add ((k - n1) * 2)) (by rw [block_of_add]; have := HW.out.size; omega)).trans f1
                    have F2 := fun o => (World.cell?_alloc_lt wr o ⟨(ad2.add ((k - n1) * 2)).block, (ad2.add ((k - n1) * 2)).off + 1, none⟩ (by simp only; rw [block_of_add]; have := HW.out.size; omega)).trans f2
                    clear g1 g2 f1 f2
                    have c1 : ∀ wx : World, (binOp .neq 41 (.agg #[.int .i64 ((a : Int) + s.length + 1), .string ⟨p.toArray⟩]) (.agg #[.int .i64 ((a : Int) + s.length + 1), .string ⟨p.toArray⟩])).run Tryd.prog wx = .ok (.bool false) wx := fun wx => by
                      have := (neq_word (a + (s.length + 1)) (a + (s.length + 1)) p p wx).trans (by rw [decide_eq_false (by simp)])
                      rwa [show ((a + (s.length + 1) : Nat) : Int) = (a : Int) + s.length + 1 by omega] at this
                    have HB : Hid (Below w4.heap.size w4 (wr.alloc (.cells #[.int .i64 ((a : Int) + s.length + 1), .string ⟨p.toArray⟩] 41))) := Lib.hid (HW.out.alloc HW.out.size _)
                    go_wp2_with fail
                    go_quiet (fail)
                    have HB2 := Lib.hid (below_drew HB.out (rfl : World.drewN _ nq = World.drewN _ nq))
                    go_wp2
                    go_roundw
                    case rel => exact ⟨k + 1, by omega, by go_num, HB2⟩
                    case measure => simp [intOf]; omega
                · have B5 := Lib.hid (B4.out.trans (HW.out.mono B4.out.size))
                  go_wp2_with fail
                  refine (works_any _ (errTab_below HG.out B5.out (errTab_lt HG.out))).mono ?_
                  rintro e6 w6 ⟨rfl, hb6⟩
                  have B6 := Lib.hid (B5.out.trans (hb6.mono B5.out.size))
                  clear hb6
                  go_wp2
                  go_ret
                  exact ⟨rfl, B6.out⟩
        · have B3 := Lib.hid (B2.out.trans (h4.mono B2.out.size))
          clear h2 h4
          go_wp2_with fail
          refine (works_any _ (errTab_below HG.out B3.out (errTab_lt HG.out))).mono ?_
          rintro e4 w4 ⟨rfl, hb4⟩
          have B4 := Lib.hid (B3.out.trans (hb4.mono B3.out.size))
          clear hb4
          go_wp2
          go_ret
          exact ⟨rfl, B4.out⟩
      · have B2 := Lib.hid (B1.out.trans (h4.mono B1.out.size))
        clear h1 h4
        go_wp2_with fail
        refine (Split_any t (by omega) e _).mono ?_
        rintro e3 w3 hp
        have hpp : ∃ x, e3 = .returned x ∧ (∃ y z, x = .tuple #[y, z]) ∧ Below w2.heap.size w2 w3 := by
          rcases hp with ⟨m, v, _, h, _, h4⟩ | ⟨q, _, h, h4⟩
          · exact ⟨_, h, ⟨_, _, rfl⟩, h4⟩
          · exact ⟨_, h, ⟨_, _, rfl⟩, h4⟩
        obtain ⟨x, rfl, ⟨y, z, rfl⟩, h4⟩ := hpp
        have B3 := Lib.hid (B2.out.trans (h4.mono B2.out.size))
        clear h4 hp
        go_wp2_with fail
        refine (works_any _ (errTab_below HG.out B3.out (errTab_lt HG.out))).mono ?_
        rintro e4 w4 ⟨rfl, hb4⟩
        have B4 := Lib.hid (B3.out.trans (hb4.mono B3.out.size))
        clear hb4
        go_wp2
        go_ret
        exact ⟨rfl, B4.out⟩
end Go.Proofs.YtapghojjkeegjaaDoor
