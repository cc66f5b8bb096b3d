/-
  The walk of words.Split at this seat's translation: a line cut into words, or the place of a quote without an end.
-/
import Derived.Test.YtapghojjkeegjaaDoorWrdP
import Derived.Test.YtapghojjkeegjaaDoorKit
import Derived.Test.YtapghojjkeegjaaDoorProg
import Derived.Deep.DeepCutAuto
import Derived.OwnWalk
namespace Go.Proofs.YtapghojjkeegjaaDoor
open Go.RowKit Wrd

theorem infoWord : (Tryd.prog.info? 41).map (fun i => (i.zero, i.size, i.bytes)) = some (some (.agg #[.int .i64 0, .string .empty]), 2, 24) := by kernel_rfl
/-- A list of words, as cells. -/
def wd (l : List (Nat × List UInt8)) : List Value := l.flatMap fun x => [.int .i64 x.1, .string ⟨x.2.toArray⟩]
theorem wd_append (l m : List (Nat × List UInt8)) : wd (l ++ m) = wd l ++ wd m := by simp [wd]
theorem wd_one (a : Nat) (p : List UInt8) : wd [(a, p)] = [.int .i64 a, .string ⟨p.toArray⟩] := rfl

theorem of_any (c : UInt8) (w : World) : Calls Tryd.prog 25 #[.int .u8 c.toNat] w fun e w' => e = .returned (.int .u8 (escOf c).toNat) ∧ w = w' := by
  by_cases h : c.toNat = 96
  · have hc : escOf c = 96 := by unfold escOf; rw [if_pos (UInt8.toNat_inj.1 (by simpa using h))]
    have HC := Lib.hid hc
    clear hc
    go_enter Tryd.func25, Tryd.ntmps25
    go_wp2
    go_ret
    exact ⟨by rw [HC.out]; first | rfl | (simp [h]; done) | (simp [h]; rfl), rfl⟩
  · have hc : escOf c = 92 := by unfold escOf; rw [if_neg (fun e => h (by rw [e]; rfl))]
    have HC := Lib.hid hc
    clear hc
    go_enter Tryd.func25, Tryd.ntmps25
    go_wp2
    go_ret
    exact ⟨by rw [HC.out]; rfl, rfl⟩

theorem two_new (w : World) (t : TypeId) (a b : Value) : ∀ j u, [a, b][j]? = some u → (w.alloc (.cells #[a, b] t)).cell? ((⟨w.heap.size, 0, none⟩ : Addr).add j) = some u := by
  intro j u hu
  have e := Lib.cell_of_heap (heap_alloc_new w (.cells #[a, b] t)) j
  have hadd : (⟨w.heap.size, 0, none⟩ : Addr).add j = ⟨w.heap.size, j, none⟩ := by unfold Addr.add; split <;> simp_all
  rw [hadd, e]
  simpa using hu

/-- What Split leaves. -/
def SplitPost (s : List UInt8) (c : UInt8) (w : World) (e : Ending) (w' : World) : Prop :=
  (∃ l v, split s c = .ok l ∧ e = .returned (.tuple #[v, .nilIface]) ∧ w'.ownsRow w.heap.size 41 2 v l.length (wd l) ∧ Below w.heap.size w w') ∨
  (∃ q, split s c = .error q ∧ e = .returned (.tuple #[.slice none 0 0, .iface 57 (.agg #[.int .i64 18, .int .i64 0, .int .i64 (q : Nat)])]) ∧ Below w.heap.size w w')

theorem st4 {st : Nat} (h : st ≤ 3) : st = 0 ∨ st = 1 ∨ st = 2 ∨ st = 3 := by omega
theorem u8n {c : UInt8} {n : Nat} (hn : n < 256) : (c = UInt8.ofNat n) ↔ c.toNat = n := by rw [← UInt8.toNat_inj, UInt8.toNat_ofNat']; omega

set_option maxHeartbeats 4000000 in
set_option maxRecDepth 100000 in
theorem Split_any (s : List UInt8) (hs : s.length ≤ 4398046511104) (c0 : UInt8) (w : World) :
    Calls Tryd.prog 10 #[.string ⟨s.toArray⟩, .int .u8 c0.toNat] w (SplitPost s c0 w) := by
  obtain ⟨i0, hi0, hz0, hz1, hz2⟩ := info_parts infoWord
  go_enter Tryd.func10, Tryd.ntmps10
  go_wp2_with fail
  refine (of_any c0 _).mono ?_
  rintro e w' ⟨rfl, rfl⟩
  go_wp2_with fail
  go_loopw [6, 7, 8, 9, 10] (fun v st fr q i wr => ∃ x : M, st = .int .i64 x.st ∧ fr = .int .i64 x.fr ∧ q = .int .i64 x.q ∧ i = .int .i64 x.i ∧ x.st ≤ 3 ∧ x.fr ≤ x.i ∧ x.fr ≤ s.length ∧ x.i ≤ s.length + 1 ∧ x.out.length ≤ x.i ∧
    Hid (fin s (escOf c0) x = split s c0) ∧ Hid (wr.ownsRow w.heap.size 41 2 v x.out.length (wd x.out)) ∧ Hid (Below w.heap.size w wr)) (fun _ _ _ _ i _ => s.length + 1 - (intOf i).toNat)
  case atStart => exact ⟨⟨[], 0, 0, 0, 0⟩, rfl, rfl, rfl, rfl, by simp, by simp, by simp, by simp, by simp, Lib.hid rfl, Lib.hid (World.ownsRow_nil _ _ _ _), Lib.hid (Below.refl _ _)⟩
  case round =>
    obtain ⟨⟨out, st, fr, q, i⟩, rfl, rfl, rfl, rfl, hst, hfi, hfl, hil, hol, HF, HO, HW⟩ := hrel
    simp only at hst hfi hfl hil hol
    by_cases hlt : i < s.length
    · have hidx := run_index_list Tryd.underlying9 s i hlt
      have HF1 : Hid (split s c0 = fin s (escOf c0) (stepC s (escOf c0) (s.getD i 0) ⟨out, st, fr, q, i⟩)) := Lib.hid (HF.out.symm.trans (fin_step hlt))
      clear HF
      generalize s.getD i 0 = c at hidx HF1
      generalize escOf c0 = e at HF1
      go_upto_region 8 with fail
      go_cut [12] (fun s12 wx => s12 = .bool (Wrd.blank c) ∧ wr = wx)
      case first =>
        by_cases h1 : c.toNat = 32
        · have HB := Lib.hid (show Wrd.blank c = true by unfold Wrd.blank; rw [show c = 32 from UInt8.toNat_inj.1 h1]; rfl)
          have q1 : ((c.toNat : Int) == 32) = true := by rw [beq_iff_eq]; omega
          clear h1
          go_wp2
          go_meet
          exact ⟨by rw [HB.out], rfl⟩
        · have q1 : ((c.toNat : Int) == 32) = false := by rw [beq_eq_false_iff_ne]; omega
          by_cases h2 : c.toNat = 9
          · have HB := Lib.hid (show Wrd.blank c = true by unfold Wrd.blank; rw [show c = 9 from UInt8.toNat_inj.1 h2]; rfl)
            have q2 : ((c.toNat : Int) == 9) = true := by rw [beq_iff_eq]; omega
            clear h1 h2
            go_wp2
            go_meet
            exact ⟨by rw [HB.out], rfl⟩
          · have q2 : ((c.toNat : Int) == 9) = false := by rw [beq_eq_false_iff_ne]; omega
            have hb : Wrd.blank c = decide (c.toNat = 13) := by
              unfold Wrd.blank
              have e1 : (c == 32) = false := by rw [beq_eq_false_iff_ne]; intro e; exact h1 (by rw [e]; rfl)
              have e2 : (c == 9) = false := by rw [beq_eq_false_iff_ne]; intro e; exact h2 (by rw [e]; rfl)
              rw [e1, e2]
              by_cases h3 : c.toNat = 13
              · rw [show c = 13 from UInt8.toNat_inj.1 h3]; rfl
              · rw [decide_eq_false h3]
                have e3 : (c == 13) = false := by rw [beq_eq_false_iff_ne]; intro e; exact h3 (by rw [e]; rfl)
                rw [e3]; rfl
            by_cases h3 : c.toNat = 13
            · have HB := Lib.hid (hb.trans (decide_eq_true h3))
              have q3 : ((c.toNat : Int) == 13) = true := by rw [beq_iff_eq]; omega
              clear h1 h2 h3 hb
              go_wp2
              go_meet
              exact ⟨by rw [HB.out], rfl⟩
            · have HB := Lib.hid (hb.trans (decide_eq_false h3))
              have q3 : ((c.toNat : Int) == 13) = false := by rw [beq_eq_false_iff_ne]; omega
              clear h1 h2 h3 hb
              go_wp2
              go_meet
              exact ⟨by rw [HB.out], rfl⟩
      case rest =>
        obtain ⟨rfl, rfl⟩ := hcut
        rcases st4 hst with rfl | rfl | rfl | rfl
        · cases hbl : Wrd.blank c
          · have HBL := Lib.hid hbl
            clear hbl
            have HS : Hid (split s c0 = fin s e (inWord s e c ⟨out, 1, i, q, i⟩)) := Lib.hid (by rw [HF1.out, stepC_0w HBL.out])
            by_cases h39 : c.toNat = 39
            · have HX := Lib.hid (show c = 39 from UInt8.toNat_inj.1 h39)
              have q39 : ((c.toNat : Int) == 39) = true := by rw [beq_iff_eq]; omega
              clear h39
              go_wp2
              go_roundw
              case rel => exact ⟨⟨out, 2, i, i, i + 1⟩, by go_num, by go_num, by go_num, by go_num, by simp, by simp <;> omega, by simp <;> omega, by simp <;> omega, by simp <;> omega, Lib.hid (by rw [HS.out, inWord_39 HBL.out HX.out]), HO, HW⟩
              case measure => simp [intOf]; omega
            · have N39 := Lib.hid (show ¬ c = 39 from fun h => h39 (by rw [h]; rfl))
              have q39 : ((c.toNat : Int) == 39) = false := by rw [beq_eq_false_iff_ne]; omega
              clear h39
              by_cases h34 : c.toNat = 34
              · have HX := Lib.hid (show c = 34 from UInt8.toNat_inj.1 h34)
                have q34 : ((c.toNat : Int) == 34) = true := by rw [beq_iff_eq]; omega
                clear h34
                go_wp2
                go_roundw
                case rel => exact ⟨⟨out, 3, i, i, i + 1⟩, by go_num, by go_num, by go_num, by go_num, by simp, by simp <;> omega, by simp <;> omega, by simp <;> omega, by simp <;> omega, Lib.hid (by rw [HS.out, inWord_34 HBL.out N39.out HX.out]), HO, HW⟩
                case measure => simp [intOf]; omega
              · have N34 := Lib.hid (show ¬ c = 34 from fun h => h34 (by rw [h]; rfl))
                have q34 : ((c.toNat : Int) == 34) = false := by rw [beq_eq_false_iff_ne]; omega
                clear h34
                by_cases he : c.toNat = e.toNat
                · have HX := Lib.hid (show c = e from UInt8.toNat_inj.1 he)
                  have qe : ((c.toNat : Int) == (e.toNat : Int)) = true := by rw [beq_iff_eq]; omega
                  clear he
                  go_wp2
                  go_roundw
                  case rel => exact ⟨⟨out, 1, i, q, i + 2⟩, by go_num, by go_num, by go_num, by go_num, by simp, by simp <;> omega, by simp <;> omega, by simp <;> omega, by simp <;> omega, Lib.hid (by rw [HS.out, inWord_e HBL.out N39.out N34.out HX.out]), HO, HW⟩
                  case measure => simp [intOf]; omega
                · have NX := Lib.hid (show ¬ c = e from fun h => he (by rw [h]))
                  have qe : ((c.toNat : Int) == (e.toNat : Int)) = false := by rw [beq_eq_false_iff_ne]; omega
                  clear he
                  go_wp2
                  go_roundw
                  case rel => exact ⟨⟨out, 1, i, q, i + 1⟩, by go_num, by go_num, by go_num, by go_num, by simp, by simp <;> omega, by simp <;> omega, by simp <;> omega, by simp <;> omega, Lib.hid (by rw [HS.out, inWord_n HBL.out N39.out N34.out NX.out]), HO, HW⟩
                  case measure => simp [intOf]; omega
          · have HBL := Lib.hid hbl
            clear hbl
            go_wp2
            go_roundw
            case rel => exact ⟨⟨out, 0, fr, q, i + 1⟩, by go_num, by go_num, by go_num, by go_num, by simp, by simp <;> omega, by simp <;> omega, by simp <;> omega, by simp <;> omega, Lib.hid (by rw [HF1.out, stepC_0b HBL.out]), HO, HW⟩
            case measure => simp [intOf]; omega
        · cases hbl : Wrd.blank c
          · have HBL := Lib.hid hbl
            clear hbl
            have HS : Hid (split s c0 = fin s e (inWord s e c ⟨out, 1, fr, q, i⟩)) := Lib.hid (by rw [HF1.out, stepC_1])
            by_cases h39 : c.toNat = 39
            · have HX := Lib.hid (show c = 39 from UInt8.toNat_inj.1 h39)
              have q39 : ((c.toNat : Int) == 39) = true := by rw [beq_iff_eq]; omega
              clear h39
              go_wp2
              go_roundw
              case rel => exact ⟨⟨out, 2, fr, i, i + 1⟩, by go_num, by go_num, by go_num, by go_num, by simp, by simp <;> omega, by simp <;> omega, by simp <;> omega, by simp <;> omega, Lib.hid (by rw [HS.out, inWord_39 HBL.out HX.out]), HO, HW⟩
              case measure => simp [intOf]; omega
            · have N39 := Lib.hid (show ¬ c = 39 from fun h => h39 (by rw [h]; rfl))
              have q39 : ((c.toNat : Int) == 39) = false := by rw [beq_eq_false_iff_ne]; omega
              clear h39
              by_cases h34 : c.toNat = 34
              · have HX := Lib.hid (show c = 34 from UInt8.toNat_inj.1 h34)
                have q34 : ((c.toNat : Int) == 34) = true := by rw [beq_iff_eq]; omega
                clear h34
                go_wp2
                go_roundw
                case rel => exact ⟨⟨out, 3, fr, i, i + 1⟩, by go_num, by go_num, by go_num, by go_num, by simp, by simp <;> omega, by simp <;> omega, by simp <;> omega, by simp <;> omega, Lib.hid (by rw [HS.out, inWord_34 HBL.out N39.out HX.out]), HO, HW⟩
                case measure => simp [intOf]; omega
              · have N34 := Lib.hid (show ¬ c = 34 from fun h => h34 (by rw [h]; rfl))
                have q34 : ((c.toNat : Int) == 34) = false := by rw [beq_eq_false_iff_ne]; omega
                clear h34
                by_cases he : c.toNat = e.toNat
                · have HX := Lib.hid (show c = e from UInt8.toNat_inj.1 he)
                  have qe : ((c.toNat : Int) == (e.toNat : Int)) = true := by rw [beq_iff_eq]; omega
                  clear he
                  go_wp2
                  go_roundw
                  case rel => exact ⟨⟨out, 1, fr, q, i + 2⟩, by go_num, by go_num, by go_num, by go_num, by simp, by simp <;> omega, by simp <;> omega, by simp <;> omega, by simp <;> omega, Lib.hid (by rw [HS.out, inWord_e HBL.out N39.out N34.out HX.out]), HO, HW⟩
                  case measure => simp [intOf]; omega
                · have NX := Lib.hid (show ¬ c = e from fun h => he (by rw [h]))
                  have qe : ((c.toNat : Int) == (e.toNat : Int)) = false := by rw [beq_eq_false_iff_ne]; omega
                  clear he
                  go_wp2
                  go_roundw
                  case rel => exact ⟨⟨out, 1, fr, q, i + 1⟩, by go_num, by go_num, by go_num, by go_num, by simp, by simp <;> omega, by simp <;> omega, by simp <;> omega, by simp <;> omega, Lib.hid (by rw [HS.out, inWord_n HBL.out N39.out N34.out NX.out]), HO, HW⟩
                  case measure => simp [intOf]; omega
          · have HBL := Lib.hid hbl
            clear hbl
            have hsl := fun wx => run_slice_list Tryd.underlying9 s .i64 .i64 (fr : Int) (i : Int) fr i rfl rfl (by omega) (by omega) wx
            have HS : Hid (split s c0 = fin s e ⟨out ++ [(fr, cut s fr i)], 0, fr, q, i + 1⟩) := Lib.hid (by rw [HF1.out, stepC_1, inWord_b HBL.out])
            rw [show (s.drop fr).take (i - fr) = cut s fr i from rfl] at hsl
            generalize cut s fr i = p at hsl HS
            go_wp2_with (at_builtin; refine wpList_append_own _ rfl _ _ 22 rfl w.heap.size 41 i0 (.agg #[.int .i64 0, .string .empty]) 2 24 Tryd.underlying22 hi0 hz0 hz1 hz2 rfl (by decide) _ _ _ rfl (HO.out.alloc _) ⟨wr.heap.size, 0, none⟩ 1 1 [.int .i64 fr, .string ⟨p.toArray⟩] rfl rfl (two_new _ _ _ _) (by intro x hx; simp at hx; rcases hx with rfl | rfl <;> rfl) (by unfold maxLen; simp only; omega) (by simp only; omega) (by have := HW.out.size; simp; omega) ?_; intro v1 w1 hown1 hgrow1 hnil1)
            have hB1 : Hid (Below w.heap.size w w1) := Lib.hid (Below.grown (HW.out.alloc HW.out.size _) hgrow1 (by have := HW.out.size; simp; omega) (fun j hj => (HO.out.lt j hj).1))
            clear hgrow1 hnil1
            go_wp2
            go_roundw
            case rel => exact ⟨⟨out ++ [(fr, p)], 0, fr, q, i + 1⟩, by go_num, by go_num, by go_num, by go_num, by simp, by simp <;> omega, by simp <;> omega, by simp <;> omega, by simp <;> omega, Lib.hid HS.out.symm, Lib.hid (by simpa [wd] using hown1), hB1⟩
            case measure => simp [intOf]; omega
        · by_cases h39 : c.toNat = 39
          · have HX := Lib.hid (show c = 39 from UInt8.toNat_inj.1 h39)
            have q39 : ((c.toNat : Int) == 39) = true := by rw [beq_iff_eq]; omega
            clear h39
            go_wp2
            go_roundw
            case rel => exact ⟨⟨out, 1, fr, q, i + 1⟩, by go_num, by go_num, by go_num, by go_num, by simp, by simp <;> omega, by simp <;> omega, by simp <;> omega, by simp <;> omega, Lib.hid (by rw [HF1.out, stepC_2q HX.out]), HO, HW⟩
            case measure => simp [intOf]; omega
          · have NX := Lib.hid (show ¬ c = 39 from fun h => h39 (by rw [h]; rfl))
            have q39 : ((c.toNat : Int) == 39) = false := by rw [beq_eq_false_iff_ne]; omega
            clear h39
            go_wp2
            go_roundw
            case rel => exact ⟨⟨out, 2, fr, q, i + 1⟩, by go_num, by go_num, by go_num, by go_num, by simp, by simp <;> omega, by simp <;> omega, by simp <;> omega, by simp <;> omega, Lib.hid (by rw [HF1.out, stepC_2n NX.out]), HO, HW⟩
            case measure => simp [intOf]; omega
        · by_cases h34 : c.toNat = 34
          · have HX := Lib.hid (show c = 34 from UInt8.toNat_inj.1 h34)
            have q34 : ((c.toNat : Int) == 34) = true := by rw [beq_iff_eq]; omega
            clear h34
            go_wp2
            go_roundw
            case rel => exact ⟨⟨out, 1, fr, q, i + 1⟩, by go_num, by go_num, by go_num, by go_num, by simp, by simp <;> omega, by simp <;> omega, by simp <;> omega, by simp <;> omega, Lib.hid (by rw [HF1.out, stepC_3q HX.out]), HO, HW⟩
            case measure => simp [intOf]; omega
          · have N34 := Lib.hid (show ¬ c = 34 from fun h => h34 (by rw [h]; rfl))
            have q34 : ((c.toNat : Int) == 34) = false := by rw [beq_eq_false_iff_ne]; omega
            clear h34
            by_cases he : c.toNat = e.toNat
            · have HX := Lib.hid (show c = e from UInt8.toNat_inj.1 he)
              have qe : ((c.toNat : Int) == (e.toNat : Int)) = true := by rw [beq_iff_eq]; omega
              clear he
              go_wp2
              go_roundw
              case rel => exact ⟨⟨out, 3, fr, q, i + 2⟩, by go_num, by go_num, by go_num, by go_num, by simp, by simp <;> omega, by simp <;> omega, by simp <;> omega, by simp <;> omega, Lib.hid (by rw [HF1.out, stepC_3e N34.out HX.out]), HO, HW⟩
              case measure => simp [intOf]; omega
            · have NX := Lib.hid (show ¬ c = e from fun h => he (by rw [h]))
              have qe : ((c.toNat : Int) == (e.toNat : Int)) = false := by rw [beq_eq_false_iff_ne]; omega
              clear he
              go_wp2
              go_roundw
              case rel => exact ⟨⟨out, 3, fr, q, i + 1⟩, by go_num, by go_num, by go_num, by go_num, by simp, by simp <;> omega, by simp <;> omega, by simp <;> omega, by simp <;> omega, Lib.hid (by rw [HF1.out, stepC_3n N34.out NX.out]), HO, HW⟩
              case measure => simp [intOf]; omega
    · have HT : Hid (split s c0 = told s ⟨out, st, fr, q, i⟩) := Lib.hid (HF.out.symm.trans (fin_done hlt))
      clear HF
      rcases st4 hst with rfl | rfl | rfl | rfl
      · go_wp2
        go_ret2
        exact .inl ⟨out, _, HT.out.trans (by simp [told]), rfl, HO.out, HW.out⟩
      · have hsl : ∀ wx : World, (Instr.slice 9 (.string ⟨s.toArray⟩) (some (.int .i64 (fr : Int))) none none).run Tryd.prog wx = .ok (.string ⟨(s.drop fr).toArray⟩) wx := by
          intro wx
          rw [run_slice_string_from_if wx _ _ _ _ Tryd.underlying9, if_pos ⟨by omega, by simp only [ByteArray.size, List.size_toArray]; omega⟩]
          congr 2
          apply ByteArray.ext
          simp [ByteArray.data_extract, List.extract, ByteArray.size]
          exact List.take_of_length_le (by simp)
        have HT1 : Hid (split s c0 = .ok (out ++ [(fr, s.drop fr)])) := Lib.hid (HT.out.trans (by simp [told]))
        generalize s.drop fr = p at hsl HT1
        go_wp2_with (at_builtin; refine wpList_append_own _ rfl _ _ 22 rfl w.heap.size 41 i0 (.agg #[.int .i64 0, .string .empty]) 2 24 Tryd.underlying22 hi0 hz0 hz1 hz2 rfl (by decide) _ _ _ rfl (HO.out.alloc _) ⟨wr.heap.size, 0, none⟩ 1 1 [.int .i64 fr, .string ⟨p.toArray⟩] rfl rfl (two_new _ _ _ _) (by intro x hx; simp at hx; rcases hx with rfl | rfl <;> rfl) (by unfold maxLen; simp only; omega) (by simp only; omega) (by have := HW.out.size; simp; omega) ?_; intro v1 w1 hown1 hgrow1 hnil1)
        have hB1 : Hid (Below w.heap.size w w1) := Lib.hid (Below.grown (HW.out.alloc HW.out.size _) hgrow1 (by have := HW.out.size; simp; omega) (fun j hj => (HO.out.lt j hj).1))
        clear hgrow1 hnil1
        go_wp2
        go_ret2
        exact .inl ⟨out ++ [(fr, p)], _, HT1.out, rfl, by simpa [wd] using hown1, hB1.out⟩
      · go_wp2
        go_ret2
        exact .inr ⟨q, HT.out.trans (by simp [told]), rfl, HW.out⟩
      · go_wp2
        go_ret2
        exact .inr ⟨q, HT.out.trans (by simp [told]), rfl, HW.out⟩
end Go.Proofs.YtapghojjkeegjaaDoor
