/-
  The walks of strataref13's bare and Quote at this seat's translation: the document's text in quotes.
-/
import Derived.Test.YtapghojjkeegjaaDoorWrdR
import Derived.Test.YtapghojjkeegjaaDoorWrdQ
import Derived.Test.YtapghojjkeegjaaDoorByt
import Derived.Laws.OwnMore
namespace Go.Proofs.YtapghojjkeegjaaDoor
open Go.RowKit Wrd

/-- A letter or a digit? -/
def rngB (c : UInt8) : Bool := decide ((97 ≤ c.toNat ∧ c.toNat ≤ 122) ∨ (65 ≤ c.toNat ∧ c.toNat ≤ 90) ∨ (48 ≤ c.toNat ∧ c.toNat ≤ 57))
theorem plain_rng (c : UInt8) : plainB c = (rngB c || bareL.contains c) :=
  all8 (P := fun c => plainB c = (rngB c || bareL.contains c)) (by decide +kernel) c
theorem take_mem {l : List UInt8} {k : Nat} {c : UInt8} (h : k < l.length) : (l.take (k + 1)).contains c = ((l.take k).contains c || (c == l.getD k 0)) := by
  rw [List.take_succ_eq_append_getElem h, List.contains_append]
  simp only [List.getD, List.getElem?_eq_getElem h, Option.getD_some, List.contains_cons, List.contains_nil, Bool.or_false]

set_option maxHeartbeats 2000000 in
set_option maxRecDepth 100000 in
theorem bare_any (s : List UInt8) (hs : s.length ≤ 70368744177000) (w : World) :
    Calls Tryd.prog 30 #[.string ⟨s.toArray⟩] w fun e w' => e = .returned (.bool (bare s)) ∧ w = w' := by
  go_enter Tryd.func30, Tryd.ntmps30
  go_wp2_with fail
  go_loop [3] (fun i => ∃ k : Nat, k ≤ s.length ∧ i = .int .i64 k ∧ Hid ((s.take k).all plainB = true)) (fun i => s.length - (intOf i).toNat)
  case atStart => exact ⟨0, by omega, rfl, Lib.hid rfl⟩
  case round =>
    obtain ⟨k, hk, rfl, HA⟩ := hrel
    by_cases hlt : k < s.length
    · have hidx := run_index_list Tryd.underlying9 s k hlt
      have HX : Hid (s.take (k + 1) = s.take k ++ [s.getD k 0]) := Lib.hid (by rw [List.take_succ_eq_append_getElem hlt]; simp [List.getD, List.getElem?_eq_getElem hlt])
      generalize s.getD k 0 = c at hidx HX
      go_upto_region 5 with fail
      go_cut [5] (fun s5 wx => s5 = .bool (rngB c) ∧ w = wx)
      case first =>
        rcases (by omega : c.toNat < 48 ∨ (48 ≤ c.toNat ∧ c.toNat ≤ 57) ∨ (57 < c.toNat ∧ c.toNat < 65) ∨ (65 ≤ c.toNat ∧ c.toNat ≤ 90) ∨ (90 < c.toNat ∧ c.toNat < 97) ∨ (97 ≤ c.toNat ∧ c.toNat ≤ 122) ∨ 122 < c.toNat) with h | ⟨h1, h2⟩ | ⟨h1, h2⟩ | ⟨h1, h2⟩ | ⟨h1, h2⟩ | ⟨h1, h2⟩ | h
        all_goals
          first
          | have HP := Lib.hid (show rngB c = true from decide_eq_true (by omega))
            go_wp2
            go_meet
            refine ⟨?_, rfl⟩
            first | (rw [HP.out]; done) | (rw [HP.out]; congr 1; simp <;> omega)
          | have HP := Lib.hid (show rngB c = false from decide_eq_false (by omega))
            go_wp2
            go_meet
            refine ⟨?_, rfl⟩
            first | (rw [HP.out]; done) | (rw [HP.out]; congr 1; simp <;> omega)
      case rest =>
        obtain ⟨rfl, rfl⟩ := hcut
        go_wp2_with fail
        go_loop [5, 7] (fun b i => ∃ m : Nat, m ≤ 10 ∧ i = .int .i64 m ∧ b = .bool (rngB c || (bareL.take m).contains c)) (fun _ i => 10 - (intOf i).toNat)
        case atStart => exact ⟨0, by omega, rfl, by simp⟩
        case round =>
          obtain ⟨m, hm, rfl, rfl⟩ := hrel
          by_cases hm1 : m < 10
          · have hidy := run_index_list Tryd.underlying9 bareL m hm1
            have HT := Lib.hid (take_mem (c := c) (show m < bareL.length from hm1))
            generalize bareL.getD m 0 = d at hidy HT
            have hidy' : ∀ w : World, (Instr.index 9 (.string ⟨#[95, 45, 46, 47, 58, 44, 43, 61, 64, 37]⟩) (.int .i64 m)).run Tryd.prog w = .ok (.int .u8 d.toNat) w := hidy
            clear hidy
            generalize hb : (rngB c || (bareL.take m).contains c) = b
            have HB := Lib.hid hb
            clear hb
            cases b
            · by_cases hcd : c.toNat = d.toNat
              · have HC : Hid ((rngB c || (bareL.take (m + 1)).contains c) = true) := Lib.hid (by rw [HT.out, show c = d from UInt8.toNat_inj.1 hcd]; simp)
                have q1 : ((c.toNat : Int) == (d.toNat : Int)) = true := by rw [beq_iff_eq]; omega
                clear hcd
                go_wp2
                go_round
                case rel => exact ⟨m + 1, by omega, by go_num, by rw [HC.out]⟩
                case measure => simp [intOf]; omega
              · have HC : Hid ((rngB c || (bareL.take (m + 1)).contains c) = false) := Lib.hid (by rw [HT.out, ← Bool.or_assoc, HB.out]; simp; intro e; exact hcd (by rw [e]))
                have q1 : ((c.toNat : Int) == (d.toNat : Int)) = false := by rw [beq_eq_false_iff_ne]; omega
                clear hcd
                go_wp2
                go_round
                case rel => exact ⟨m + 1, by omega, by go_num, by rw [HC.out]⟩
                case measure => simp [intOf]; omega
            · have HC : Hid ((rngB c || (bareL.take (m + 1)).contains c) = true) := Lib.hid (by rw [HT.out, ← Bool.or_assoc, HB.out]; rfl)
              go_wp2
              go_round
              case rel => exact ⟨m + 1, by omega, by go_num, by rw [HC.out]⟩
              case measure => simp [intOf]; omega
          · have HM : Hid ((rngB c || (bareL.take m).contains c) = plainB c) := Lib.hid (by rw [plain_rng, List.take_of_length_le (by show 10 ≤ m; omega)])
            rw [HM.out]
            cases hp : plainB c
            · have HF : Hid (bare s = false) := Lib.hid (by
                unfold bare
                have : s.all plainB = false := by
                  rw [← List.take_append_drop (k + 1) s, List.all_append, HX.out, List.all_append]
                  simp [hp]
                rw [this]; simp)
              clear hp
              go_wp2
              go_ret
              exact ⟨by rw [HF.out]; rfl, rfl⟩
            · have HA2 : Hid ((s.take (k + 1)).all plainB = true) := Lib.hid (by rw [HX.out, List.all_append, HA.out]; simp [hp])
              clear hp
              go_wp2
              go_round
              case rel => exact ⟨k + 1, by omega, by go_num, HA2⟩
              case measure => simp [intOf]; omega
    · have HB : Hid (bare s = !s.isEmpty) := Lib.hid (by
        have := HA.out
        rw [List.take_of_length_le (by omega)] at this
        unfold bare; rw [this]; simp)
      go_wp2
      go_ret
      exact ⟨by rw [HB.out]; rfl, rfl⟩

theorem infoU8 : (Tryd.prog.info? 5).map (fun i => (i.zero, i.size, i.bytes)) = some (some (.int .u8 0), 1, 1) := by kernel_rfl
theorem esc1_y {e c : UInt8} (h : needs e c = true) : esc1 e c = [e] ++ [c] := by unfold needs at h; unfold esc1; rw [if_pos (of_decide_eq_true h)]; rfl
theorem esc1_n {e c : UInt8} (h : needs e c = false) : esc1 e c = [c] := by unfold needs at h; unfold esc1; rw [if_neg (of_decide_eq_false h)]
set_option maxHeartbeats 4000000 in
set_option maxRecDepth 100000 in
theorem RefQuote_any (s : List UInt8) (hs : s.length ≤ 70368744177000) (c0 : UInt8) (w : World) :
    Calls Tryd.prog 16 #[.string ⟨s.toArray⟩, .int .u8 c0.toNat] w fun e w' => e = .returned (.string ⟨(quote s c0).toArray⟩) ∧ Below w.heap.size w w' := by
  obtain ⟨i0, hi0, hz0, hz1, hz2⟩ := info_parts infoU8
  have HBARE := Lib.hid (bare_any s hs)
  go_enter Tryd.func16, Tryd.ntmps16
  go_wp2_with fail
  refine (Escape_any c0 _).mono ?_
  rintro e w' ⟨rfl, rfl⟩
  generalize he : escOf c0 = e
  have HE := Lib.hid he
  clear he
  cases hb : bare s
  · have HQ : Hid (quote s c0 = 34 :: s.flatMap (esc1 e) ++ [34]) := Lib.hid (by unfold quote; rw [hb, if_neg Bool.false_ne_true, HE.out]; rfl)
    have HBC : Hid (∀ w, Calls Tryd.prog 30 #[.string ⟨s.toArray⟩] w fun e w' => e = .returned (.bool false) ∧ w = w') := Lib.hid (hb ▸ HBARE.out)
    clear hb HBARE
    go_wp2_with fail
    refine (HBC.out _).mono ?_
    rintro e1 w1 ⟨rfl, rfl⟩
    go_wp2_with fail
    go_loopw [6, 7] (fun v i wr => ∃ k : Nat, k ≤ s.length ∧ i = .int .i64 k ∧ Hid (wr.ownsRow w.heap.size 5 1 v (34 :: (s.take k).flatMap (esc1 e)).length (Lib.byteCells (34 :: (s.take k).flatMap (esc1 e)))) ∧ Hid (Below w.heap.size w wr)) (fun _ i _ => s.length - (intOf i).toNat)
    case atStart => exact ⟨0, by omega, rfl, Lib.hid (by simpa [Lib.byteCells] using World.ownsRow_lit (e := 5) (size := 1) (base := w.heap.size) w #[.int .u8 34] 1 (Nat.le_refl _) (by decide) rfl), Lib.hid ((Below.refl _ _).alloc (Nat.le_refl _) _)⟩
    case round =>
      obtain ⟨k, hk, rfl, HO, HW⟩ := hrel
      have hfl : ((s.take k).flatMap (esc1 e)).length ≤ 2 * k := by
        have := esc_len e (s.take k)
        rw [List.length_take] at this
        omega
      by_cases hlt : k < s.length
      · have hidx := run_index_list Tryd.underlying9 s k hlt
        have HX : Hid (s.take (k + 1) = s.take k ++ [s.getD k 0]) := Lib.hid (by rw [List.take_succ_eq_append_getElem hlt]; simp [List.getD, List.getElem?_eq_getElem hlt])
        generalize s.getD k 0 = c at hidx HX
        have HXE : Hid ((s.take (k + 1)).flatMap (esc1 e) = (s.take k).flatMap (esc1 e) ++ esc1 e c) := Lib.hid (by rw [HX.out, List.flatMap_append]; simp)
        generalize hL : (34 : UInt8) :: (s.take k).flatMap (esc1 e) = L at HO
        have HL := Lib.hid hL
        have hLl : L.length ≤ 2 * k + 1 := by rw [← hL, List.length_cons]; omega
        clear hL hfl
        go_upto_region 8 with fail
        go_cut [36] (fun s36 wx => s36 = .bool (needs e c) ∧ wr = wx)
        case first =>
          by_cases h1 : c.toNat = 34
          · have HD := Lib.hid (show needs e c = true from decide_eq_true (.inl (UInt8.toNat_inj.1 h1)))
            have q1 : ((c.toNat : Int) == 34) = true := by rw [beq_iff_eq]; omega
            clear h1
            go_wp2
            go_meet
            exact ⟨by rw [HD.out], rfl⟩
          · have q1 : ((c.toNat : Int) == 34) = false := by rw [beq_eq_false_iff_ne]; omega
            by_cases h2 : c.toNat = 36
            · have HD := Lib.hid (show needs e c = true from decide_eq_true (.inr (.inl (UInt8.toNat_inj.1 h2))))
              have q2 : ((c.toNat : Int) == 36) = true := by rw [beq_iff_eq]; omega
              clear h1 h2
              go_wp2
              go_meet
              exact ⟨by rw [HD.out], rfl⟩
            · have q2 : ((c.toNat : Int) == 36) = false := by rw [beq_eq_false_iff_ne]; omega
              by_cases h3 : c.toNat = e.toNat
              · have HD := Lib.hid (show needs e c = true from decide_eq_true (.inr (.inr (UInt8.toNat_inj.1 h3))))
                have q3 : ((c.toNat : Int) == (e.toNat : Int)) = true := by rw [beq_iff_eq]; omega
                clear h1 h2 h3
                go_wp2
                go_meet
                exact ⟨by rw [HD.out], rfl⟩
              · have HD := Lib.hid (show needs e c = false from decide_eq_false (by
                  rintro (h | h | h)
                  · exact h1 (by rw [h]; rfl)
                  · exact h2 (by rw [h]; rfl)
                  · exact h3 (by rw [h])))
                have q3 : ((c.toNat : Int) == (e.toNat : Int)) = false := by rw [beq_eq_false_iff_ne]; omega
                clear h1 h2 h3
                go_wp2
                go_meet
                exact ⟨by rw [HD.out], rfl⟩
        case rest =>
          obtain ⟨rfl, rfl⟩ := hcut
          cases hd : needs e c
          · have HN : Hid ((34 : UInt8) :: (s.take (k + 1)).flatMap (esc1 e) = L ++ [c]) := Lib.hid (by rw [HXE.out, esc1_n hd, ← HL.out]; simp)
            clear hd
            go_wp2_with (at_builtin; refine wpList_append_own _ rfl _ _ 45 rfl w.heap.size 5 i0 (.int .u8 0) 1 1 Tryd.underlying45 hi0 hz0 hz1 hz2 rfl (by decide) _ _ _ rfl (HO.out.alloc _) ⟨wr.heap.size, 0, none⟩ 1 1 [.int .u8 c.toNat] rfl rfl (cell_one_new _ _ _) (by intro x hx; simp at hx; subst hx; rfl) (by unfold maxLen; omega) (by omega) (by have := HW.out.size; simp; omega) ?_; intro v1 w1 hown1 hgrow1 hnil1)
            have hB1 : Hid (Below w.heap.size w w1) := Lib.hid (Below.grown (HW.out.alloc HW.out.size _) hgrow1 (by have := HW.out.size; simp; omega) (fun j hj => (HO.out.lt j hj).1))
            clear hgrow1 hnil1
            go_wp2
            go_roundw
            case rel => exact ⟨k + 1, by omega, by go_num, Lib.hid (by rw [HN.out, byteCells_app, List.length_append]; exact hown1), hB1⟩
            case measure => simp [intOf]; omega
          · have HN : Hid ((34 : UInt8) :: (s.take (k + 1)).flatMap (esc1 e) = L ++ [e] ++ [c]) := Lib.hid (by rw [HXE.out, esc1_y hd, ← HL.out]; simp)
            clear hd
            go_upto_region 10 with (at_builtin; refine wpList_append_own _ rfl _ _ 45 rfl w.heap.size 5 i0 (.int .u8 0) 1 1 Tryd.underlying45 hi0 hz0 hz1 hz2 rfl (by decide) _ _ _ rfl (HO.out.alloc _) ⟨wr.heap.size, 0, none⟩ 1 1 [.int .u8 e.toNat] rfl rfl (cell_one_new _ _ _) (by intro x hx; simp at hx; subst hx; rfl) (by unfold maxLen; omega) (by omega) (by have := HW.out.size; simp; omega) ?_; intro v1 w1 hown1 hgrow1 hnil1)
            have HB1 : Hid (Below w.heap.size w w1) := Lib.hid (Below.grown (HW.out.alloc HW.out.size _) hgrow1 (by have := HW.out.size; simp; omega) (fun j hj => (HO.out.lt j hj).1))
            have HO1 := Lib.hid hown1
            clear hgrow1 hnil1 hown1 HO HW
            go_wp2_with (at_builtin; refine wpList_append_own _ rfl _ _ 45 rfl w.heap.size 5 i0 (.int .u8 0) 1 1 Tryd.underlying45 hi0 hz0 hz1 hz2 rfl (by decide) _ _ _ rfl (HO1.out.alloc _) ⟨w1.heap.size, 0, none⟩ 1 1 [.int .u8 c.toNat] rfl rfl (cell_one_new _ _ _) (by intro x hx; simp at hx; subst hx; rfl) (by unfold maxLen; omega) (by omega) (by have := HB1.out.size; simp; omega) ?_; intro v2 w2 hown2 hgrow2 hnil2)
            have HB2 : Hid (Below w.heap.size w w2) := Lib.hid (Below.grown (HB1.out.alloc HB1.out.size _) hgrow2 (by have := HB1.out.size; simp; omega) (fun j hj => (HO1.out.lt j hj).1))
            clear hgrow2 hnil2
            go_wp2
            go_roundw
            case rel => exact ⟨k + 1, by omega, by go_num, Lib.hid (by rw [HN.out, byteCells_app, byteCells_app, List.length_append, List.length_append]; exact hown2), HB2⟩
            case measure => simp [intOf]; omega
      · have HQ2 : Hid (quote s c0 = (34 :: (s.take k).flatMap (esc1 e)) ++ [34]) := Lib.hid (by rw [HQ.out, List.take_of_length_le (by omega)])
        generalize hL : (34 : UInt8) :: (s.take k).flatMap (esc1 e) = L at HO HQ2
        have hLl : L.length ≤ 2 * k + 1 := by rw [← hL, List.length_cons]; omega
        clear hL hfl
        go_wp2_with (at_builtin; refine wpList_append_own _ rfl _ _ 45 rfl w.heap.size 5 i0 (.int .u8 0) 1 1 Tryd.underlying45 hi0 hz0 hz1 hz2 rfl (by decide) _ _ _ rfl (HO.out.alloc _) ⟨wr.heap.size, 0, none⟩ 1 1 [.int .u8 34] rfl rfl (cell_one_new _ _ _) (by intro x hx; simp at hx; subst hx; rfl) (by unfold maxLen; omega) (by omega) (by have := HW.out.size; simp; omega) ?_; intro v1 w1 hown1 hgrow1 hnil1)
        have hB1 : Hid (Below w.heap.size w w1) := Lib.hid (Below.grown (HW.out.alloc HW.out.size _) hgrow1 (by have := HW.out.size; simp; omega) (fun j hj => (HO.out.lt j hj).1))
        clear hgrow1 hnil1
        have ho2 : w1.ownsRow w.heap.size 5 1 v1 (L.length + 1) (Lib.byteCells (L ++ [34])) := by rw [byteCells_app]; exact hown1
        obtain ⟨A, c, rfl, hr⟩ := own_readsN ho2
        have hcv := run_convert_reads Tryd.underlying45 Tryd.underlying5 Tryd.underlying9 c hr
        clear hown1 ho2 hr
        go_wp2
        rw [hcv]
        go_wp2
        go_ret
        exact ⟨by rw [HQ2.out]; rfl, hB1.out⟩
  · have HQ : Hid (quote s c0 = s) := Lib.hid (by unfold quote; rw [hb, if_pos rfl])
    have HBC : Hid (∀ w, Calls Tryd.prog 30 #[.string ⟨s.toArray⟩] w fun e w' => e = .returned (.bool true) ∧ w = w') := Lib.hid (hb ▸ HBARE.out)
    clear hb HBARE
    go_wp2_with fail
    refine (HBC.out _).mono ?_
    rintro e1 w1 ⟨rfl, rfl⟩
    go_wp2
    go_ret
    exact ⟨by rw [HQ.out]; rfl, Below.refl _ _⟩
end Go.Proofs.YtapghojjkeegjaaDoor
