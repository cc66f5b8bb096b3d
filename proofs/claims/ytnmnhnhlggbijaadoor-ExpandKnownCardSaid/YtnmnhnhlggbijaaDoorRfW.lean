/-
  The walks of the reference's small functions for expanding a text, at this seat's translation: next, wrong, letter, digit, Name, bytes, met.
-/
import Derived.Test.YtnmnhnhlggbijaaDoorRfM
import Derived.Test.YtnmnhnhlggbijaaDoorExpW
import Derived.Test.YtnmnhnhlggbijaaDoorExpG
import Derived.Test.YtnmnhnhlggbijaaDoorApa
import Derived.Deep.RegionHeld3
import Derived.Deep.DrawnRows
namespace Go.Proofs.YtnmnhnhlggbijaaDoor
open Go.RowKit
attribute [local go_sem ↓] Go.wp_at_zero Go.wp_at_succ
namespace Exp
open T

/-- What next answers. -/
def NextPost (s : List UInt8) (p : Nat) (w : World) (x : Ending) (w' : World) : Prop :=
  ∃ m, x = .returned (.tuple #[.int .u8 (if p + 1 < s.length then (s.getD (p + 1) 0).toNat else 0 : Nat), .bool (decide (p + 1 < s.length))]) ∧ w' = w.drewN m
theorem next_any (s : List UInt8) (hs : s.length ≤ 1099511627776) (p rb : Nat) (hp : p < s.length) (e : UInt8) (no : Nat) (nv : Value) (w : World) (h : RdrR w rb s p e no nv) :
    Calls Tryd.prog 34 #[.pointer (some ⟨rb, 0, none⟩)] w (NextPost s p w) := by
  have c0 := h.c0
  have c1 := h.c1
  clear h
  have hi1 : IntKind.i64.wrap ((p : Int) + 1) = (p : Int) + 1 := IntWalk.i64_in _ (by omega)
  have hi2 : (0 : Int) ≤ (p : Int) + 1 := by omega
  have hi3 : ((p : Int) + 1).toNat = p + 1 := by omega
  unfold NextPost
  by_cases hlt : p + 1 < s.length
  · rw [if_pos hlt, decide_eq_true hlt]
    have hidx := run_index_list Tryd.underlying9 s (p + 1) hlt
    rw [show ((p + 1 : Nat) : Int) = (p : Int) + 1 by omega] at hidx
    have q1 : decide ((s.length : Int) ≤ (p : Int) + 1) = false := by rw [decide_eq_false_iff_not]; omega
    generalize s.getD (p + 1) 0 = d at hidx ⊢
    clear hlt hp
    go_enter Tryd.func34, Tryd.ntmps34
    go_wp2_with fail
    go_quiet (fail)
    go_wp2_with fail
    go_quiet (fail)
    go_wp2_with fail
    go_ret2
    exact ⟨_, rfl, World.drewN_drewN _ _ _⟩
  · rw [if_neg hlt, decide_eq_false hlt]
    have q1 : decide ((s.length : Int) ≤ (p : Int) + 1) = true := by rw [decide_eq_true_iff]; omega
    clear hlt hp
    go_enter Tryd.func34, Tryd.ntmps34
    go_wp2_with fail
    go_quiet (fail)
    go_wp2_with fail
    go_ret2
    exact ⟨_, rfl, rfl⟩
theorem wrong_any (s : List UInt8) (p rb : Nat) (e : UInt8) (k no : Nat) (nv : Value) (w : World) (h : RdrR w rb s p e no nv) :
    Calls Tryd.prog 36 #[.pointer (some ⟨rb, 0, none⟩), .int .i64 k] w fun x w' => x = .returned (.tuple #[]) ∧ RdrR w' rb s s.length e (if no = 0 then k else no) nv ∧ Kq rb w w' := by
  have c0 := h.c0
  have c1 := h.c1
  have c3 := h.c3
  have f1 := Blk.frozen h 1
  have f3 := Blk.frozen h 3
  by_cases h0 : no = 0
  · rw [if_pos h0]
    have H1 := Lib.hid ((h.bad k (k : Int) rfl).to s.length (s.length : Int) rfl)
    have H2 := Lib.hid (((Kq.refl rb w).setCell (p := ⟨rb, 3, none⟩) (.inr rfl) (.int .i64 k)).setCell (p := ⟨rb, 1, none⟩) (.inr rfl) (.int .i64 s.length))
    have q1 : ((no : Int) == 0) = true := by rw [h0]; rfl
    clear h h0
    go_enter Tryd.func36, Tryd.ntmps36
    go_wp2_with fail
    go_end0
    exact ⟨rfl, H1.out, H2.out⟩
  · rw [if_neg h0]
    have H1 := Lib.hid (h.to s.length (s.length : Int) rfl)
    have H2 := Lib.hid ((Kq.refl rb w).setCell (p := ⟨rb, 1, none⟩) (.inr rfl) (.int .i64 s.length))
    have q1 : ((no : Int) == 0) = false := by rw [beq_eq_false_iff_ne]; omega
    clear h h0
    go_enter Tryd.func36, Tryd.ntmps36
    go_wp2_with fail
    go_end0
    exact ⟨rfl, H1.out, H2.out⟩
theorem dle {a b : Int} (h : a ≤ b) : decide (a ≤ b) = true := decide_eq_true h
theorem dnle {a b : Int} (h : b < a) : decide (a ≤ b) = false := decide_eq_false (by omega)
theorem letter_any (c : UInt8) (w : World) : Calls Tryd.prog 67 #[.int .u8 c.toNat] w fun x w' => x = .returned (.bool (letter c)) ∧ w = w' := by
  rw [letter_is]
  have hc := c.toNat_lt
  generalize c.toNat = n at hc ⊢
  have e95 : ((n : Int) == 95) = decide (n = 95) := by rw [Bool.eq_iff_iff]; simp; omega
  rcases Nat.lt_or_ge n 97 with h1 | h1
  · have b1 := dnle (show (n : Int) < 97 by omega)
    rcases Nat.lt_or_ge n 65 with h2 | h2
    · have b2 := dnle (show (n : Int) < 65 by omega)
      rw [decide_eq_false (show ¬ n = 95 by omega)] at e95
      have HD : Hid (decide ((97 ≤ n ∧ n ≤ 122) ∨ (65 ≤ n ∧ n ≤ 90) ∨ n = 95) = false) := Lib.hid (decide_eq_false (by omega))
      clear h1 h2
      go_enter Tryd.func67, Tryd.ntmps67
      go_wp2_with fail
      go_ret
      exact ⟨by rw [HD.out]; rfl, rfl⟩
    · have b2 := dle (show (65 : Int) ≤ n by omega)
      rcases Nat.lt_or_ge 90 n with h3 | h3
      · have b3 := dnle (show (90 : Int) < n by omega)
        have HD : Hid (decide ((97 ≤ n ∧ n ≤ 122) ∨ (65 ≤ n ∧ n ≤ 90) ∨ n = 95) = decide (n = 95)) := Lib.hid (decide_eq_decide.2 (by omega))
        clear h1 h2 h3
        rw [HD.out]
        clear HD
        generalize decide (n = 95) = z at e95 ⊢
        go_enter Tryd.func67, Tryd.ntmps67
        go_wp2_with fail
        go_ret
        exact ⟨rfl, rfl⟩
      · have b3 := dle (show (n : Int) ≤ 90 by omega)
        have HD : Hid (decide ((97 ≤ n ∧ n ≤ 122) ∨ (65 ≤ n ∧ n ≤ 90) ∨ n = 95) = true) := Lib.hid (decide_eq_true (by omega))
        clear h1 h2 h3 e95
        go_enter Tryd.func67, Tryd.ntmps67
        go_wp2_with fail
        go_ret
        exact ⟨by rw [HD.out]; rfl, rfl⟩
  · have b1 := dle (show (97 : Int) ≤ n by omega)
    rcases Nat.lt_or_ge 122 n with h2 | h2
    · have b2 := dnle (show (122 : Int) < n by omega)
      have b3 := dle (show (65 : Int) ≤ n by omega)
      have b4 := dnle (show (90 : Int) < n by omega)
      rw [decide_eq_false (show ¬ n = 95 by omega)] at e95
      have HD : Hid (decide ((97 ≤ n ∧ n ≤ 122) ∨ (65 ≤ n ∧ n ≤ 90) ∨ n = 95) = false) := Lib.hid (decide_eq_false (by omega))
      clear h1 h2
      go_enter Tryd.func67, Tryd.ntmps67
      go_wp2_with fail
      go_ret
      exact ⟨by rw [HD.out]; rfl, rfl⟩
    · have b2 := dle (show (n : Int) ≤ 122 by omega)
      have HD : Hid (decide ((97 ≤ n ∧ n ≤ 122) ∨ (65 ≤ n ∧ n ≤ 90) ∨ n = 95) = true) := Lib.hid (decide_eq_true (by omega))
      clear h1 h2 e95
      go_enter Tryd.func67, Tryd.ntmps67
      go_wp2_with fail
      go_ret
      exact ⟨by rw [HD.out]; rfl, rfl⟩
theorem digit_any (c : UInt8) (w : World) : Calls Tryd.prog 68 #[.int .u8 c.toNat] w fun x w' => x = .returned (.bool (digit c)) ∧ w = w' := by
  rw [digit_is]
  have hc := c.toNat_lt
  generalize c.toNat = n at hc ⊢
  rcases Nat.lt_or_ge n 48 with h1 | h1
  · have b1 := dnle (show (n : Int) < 48 by omega)
    have HD : Hid (decide (48 ≤ n ∧ n ≤ 57) = false) := Lib.hid (decide_eq_false (by omega))
    clear h1
    go_enter Tryd.func68, Tryd.ntmps68
    go_wp2_with fail
    go_ret
    exact ⟨by rw [HD.out]; rfl, rfl⟩
  · have b1 := dle (show (48 : Int) ≤ n by omega)
    rcases Nat.lt_or_ge 57 n with h2 | h2
    · have b2 := dnle (show (57 : Int) < n by omega)
      have HD : Hid (decide (48 ≤ n ∧ n ≤ 57) = false) := Lib.hid (decide_eq_false (by omega))
      clear h1 h2
      go_enter Tryd.func68, Tryd.ntmps68
      go_wp2_with fail
      go_ret
      exact ⟨by rw [HD.out]; rfl, rfl⟩
    · have b2 := dle (show (n : Int) ≤ 57 by omega)
      have HD : Hid (decide (48 ≤ n ∧ n ≤ 57) = true) := Lib.hid (decide_eq_true (by omega))
      clear h1 h2
      go_enter Tryd.func68, Tryd.ntmps68
      go_wp2_with fail
      go_ret
      exact ⟨by rw [HD.out]; rfl, rfl⟩
theorem nameR_any (s : List UInt8) (hs : s.length ≤ 1099511627776) (w : World) : Calls Tryd.prog 55 #[.string ⟨s.toArray⟩] w fun x w' => x = .returned (.int .i64 (nl 0 s)) ∧ w = w' := by
  go_enter Tryd.func55, Tryd.ntmps55
  go_wp2_with fail
  go_loop [3] (fun v => ∃ i : Nat, i ≤ s.length ∧ v = .int .i64 i ∧ Hid (nl 0 s = i + nl i (s.drop i))) (fun v => s.length - (intOf v).toNat)
  case atStart => exact ⟨0, by omega, rfl, Lib.hid (by simp)⟩
  case round =>
    obtain ⟨i, hi, rfl, HN⟩ := hrel
    by_cases hlt : i < s.length
    · have hidx := run_index_list Tryd.underlying9 s i hlt
      have HS := Lib.hid (nl_at (j := i) hlt)
      generalize s.getD i 0 = c at hidx HS
      have HL := Lib.hid (letter_any c)
      have HG := Lib.hid (digit_any c)
      have HT : Hid (inName i c = true → nl 0 s = (i + 1) + nl (i + 1) (s.drop (i + 1))) := Lib.hid (fun h => by
        have h1 := HN.out; rw [HS.out, if_pos h] at h1; omega)
      have HF : Hid (inName i c = false → nl 0 s = i) := Lib.hid (fun h => by have h1 := HN.out; rw [HS.out, h] at h1; simpa using h1)
      clear HN HS
      cases hl : letter c
      · rw [hl] at HL
        by_cases h0 : i = 0
        · have HX := Lib.hid (HF.out (by unfold inName; rw [hl, h0]; simp))
          have b1 : decide (0 < (i : Int)) = false := by rw [decide_eq_false_iff_not]; omega
          have b2 : decide (0 < i) = false := by rw [decide_eq_false_iff_not]; omega
          clear h0 hl
          go_wp2_with fail
          refine (HL.out _).mono ?_
          rintro e w' ⟨rfl, rfl⟩
          go_wp2_with fail
          go_ret
          exact ⟨by rw [HX.out]; rfl, rfl⟩
        · have hip : 0 < i := by omega
          have b1 : decide (0 < (i : Int)) = true := by rw [decide_eq_true_iff]; omega
          clear h0
          cases hd : digit c
          · rw [hd] at HG
            have HX := Lib.hid (HF.out (by unfold inName; rw [hl, hd]; simp))
            clear hl hd
            go_wp2_with fail
            refine (HL.out _).mono ?_
            rintro e w' ⟨rfl, rfl⟩
            go_wp2_with fail
            refine (HG.out _).mono ?_
            rintro e w' ⟨rfl, rfl⟩
            go_wp2_with fail
            go_ret
            exact ⟨by rw [HX.out]; rfl, rfl⟩
          · rw [hd] at HG
            have HX := Lib.hid (HT.out (by unfold inName; rw [hl, hd]; simp [hip]))
            clear hl hd
            go_wp2_with fail
            refine (HL.out _).mono ?_
            rintro e w' ⟨rfl, rfl⟩
            go_wp2_with fail
            refine (HG.out _).mono ?_
            rintro e w' ⟨rfl, rfl⟩
            go_wp2_with fail
            go_round
            case rel => exact ⟨i + 1, by omega, by go_num, HX⟩
            case measure => simp [intOf]; omega
      · rw [hl] at HL
        have HX := Lib.hid (HT.out (by unfold inName; rw [hl]; simp))
        clear hl
        go_wp2_with fail
        refine (HL.out _).mono ?_
        rintro e w' ⟨rfl, rfl⟩
        go_wp2_with fail
        go_round
        case rel => exact ⟨i + 1, by omega, by go_num, HX⟩
        case measure => simp [intOf]; omega
    · have HX : Hid (nl 0 s = i) := Lib.hid (by have := HN.out; rwa [nl_over (j := i) (show s.length ≤ i by omega)] at this)
      go_wp2_with fail
      go_ret
      exact ⟨by rw [HX.out]; rfl, rfl⟩
theorem Kp.kq {rb : Nat} {w w' : World} (h : Kp w.heap.size (· = rb) w w') : Kq rb w w' := ⟨h.os, h.tape, h.output, h.size, fun k hk hx _ => h.block k hk hx⟩
theorem Own9.kp {rb p no : Nat} {w w' : World} {s : List UInt8} {e : UInt8} {nv nv' : Value} {B : Nat} {l : List (List UInt8)} (h : Own9 w B nv l) (hr : RdrR w rb s p e no nv') (hk : Kp w.heap.size (· = rb) w w') : Own9 w' B nv l :=
  own_at h fun b hb => hk.block b (own_lt h hb).2 (fun e => own_blk_ne h hr (by decide) (by rw [← e]; exact hb))
/-- What bytes leaves: so many bytes, as a piece; the reader behind them. -/
def BytesPost (s : List UInt8) (p n rb : Nat) (e : UInt8) (no : Nat) (nv : Value) (w : World) (x : Ending) (w' : World) : Prop :=
  x = .returned (.agg (litR (cut s p (p + n))).toArray) ∧ RdrR w' rb s (p + n) e no nv ∧ Kp w.heap.size (· = rb) w w'
set_option maxHeartbeats 2000000 in
theorem bytes_any (s : List UInt8) (hs : s.length ≤ 1099511627776) (p n rb : Nat) (hp : p + n ≤ s.length) (e : UInt8) (no : Nat) (nv : Value) (w : World) (h : RdrR w rb s p e no nv) :
    Calls Tryd.prog 35 #[.pointer (some ⟨rb, 0, none⟩), .int .i64 n] w (BytesPost s p n rb e no nv w) := by
  have c0 := h.c0
  have c1 := h.c1
  have f1 := Blk.frozen h 1
  have hrl := Blk.lt h
  have hi1 : IntKind.i64.wrap ((p : Int) + (n : Int)) = (p : Int) + (n : Int) := IntWalk.i64_in _ (by omega)
  have hi2 : (0 : Int) ≤ (p : Int) := by omega
  have hi3 : (p : Int) ≤ (p : Int) + (n : Int) := by omega
  have hsl := fun wx => run_slice_list Tryd.underlying9 s .i64 .i64 (p : Int) ((p : Int) + (n : Int)) p (p + n) rfl (by omega) (by omega) (by omega) wx
  rw [show (s.drop p).take (p + n - p) = cut s p (p + n) from rfl] at hsl
  unfold BytesPost
  generalize cut s p (p + n) = u at hsl ⊢
  have H := Lib.hid h
  clear h
  go_enter Tryd.func35, Tryd.ntmps35
  go_wp2_with fail
  have hn1 := World.new_ne w ⟨rb, 0, none⟩ c0
  have hn2 := World.new_ne w ⟨rb, 1, none⟩ c1
  go_region_held3 (fun w' => w'.cell? ⟨rb, 0, none⟩ = some (.string ⟨s.toArray⟩) ∧ w'.cell? ⟨rb, 1, none⟩ = some (.int .i64 p)) (go_keep) (fail)
  all_goals
    clear hn1 hn2
    go_wp2_with fail
    have hb : Blk ((w.setCell ⟨rb, 1, none⟩ (.int .i64 ((p : Int) + (n : Int)))).alloc (.cells (litR u).toArray 74)) w.heap.size 74 (litR u).toArray := by
      have := Blk.new (w.setCell ⟨rb, 1, none⟩ (.int .i64 ((p : Int) + (n : Int)))) 74 (litR u).toArray
      simpa using this
    refine bodyPost_ret (results_row rfl _ _ w.heap.size 74 (litR u).toArray (0, 0) _ rfl ((hb.alloc _).drew) Tryd.underlying74 rfl (by kernel_rfl)) rfl ⟨rfl, ?_, ?_⟩
    · exact (((H.out.to (p + n) _ (by omega)).alloc _).alloc _).drew
    · exact ((((Kp.refl w.heap.size (· = rb) w).setCell (p := ⟨rb, 1, none⟩) (.inr rfl) _).alloc (by simp) _).alloc (by simp) _).drew
theorem own_form {w : World} {B : Nat} {e : TypeId} {size n : Nat} {v : Value} {xs : List Value} (h : w.ownsRow B e size v n xs) : ∃ A c, v = .slice A n c := by
  rcases h.2 with ⟨rfl, rfl⟩ | ⟨g, cap, cur, rfl, _⟩
  · exact ⟨none, 0, rfl⟩
  · exact ⟨_, cap, rfl⟩
/-- What met leaves: the name among the names. -/
def MetPost (s : List UInt8) (p rb : Nat) (e : UInt8) (acc : List (List UInt8)) (n : List UInt8) (w : World) (x : Ending) (w' : World) : Prop :=
  x = .returned (.tuple #[]) ∧ ∃ nv', RdrR w' rb s p e 0 nv' ∧ Own9 w' rb nv' (met acc n) ∧ Kq rb w w'
set_option maxHeartbeats 2000000 in
theorem met_any (s : List UInt8) (p rb : Nat) (e : UInt8) (nv : Value) (acc : List (List UInt8)) (n : List UInt8) (w : World) (h : RdrR w rb s p e 0 nv) (ho : Own9 w rb nv acc) (hl : acc.length ≤ 4398046511103) :
    Calls Tryd.prog 56 #[.pointer (some ⟨rb, 0, none⟩), .string ⟨n.toArray⟩] w (MetPost s p rb e acc n w) := by
  obtain ⟨A, c, rfl, hr⟩ := ho.form
  obtain ⟨i0, hi0, hz0, hz1, hz2⟩ := info_parts infoStr
  have c4 := h.c4
  have f4 := Blk.frozen h 4
  have hrl := Blk.lt h
  have H := Lib.hid h
  have HO := Lib.hid ho
  have HR := Lib.hid hr
  have HNB := Lib.hid (own_blk_ne ho h (by decide))
  have HNT : Hid (∀ b o, (Value.slice A acc.length c).ownBlock = some b → rb ≤ b ∧ ¬ NT (w.alloc o) b) := Lib.hid (fun b o hb => ⟨(own_lt ho hb).1, own_t (World.ownsRow.alloc ho o) hb⟩)
  clear h ho hr
  go_enter Tryd.func56, Tryd.ntmps56
  go_wp2_with fail
  go_loop [4] (fun v => ∃ i : Nat, i ≤ acc.length ∧ v = .int .i64 i ∧ Hid (n ∉ acc.take i)) (fun v => acc.length - (intOf v).toNat)
  case atStart => exact ⟨0, by omega, rfl, Lib.hid (by simp)⟩
  case round =>
    obtain ⟨i, hi, rfl, HX⟩ := hrel
    by_cases hlt : i < acc.length
    · obtain ⟨ad, u, rfl, _, hu, hc⟩ := HR.out.at_ hlt
      obtain rfl := tx_get hu (by omega)
      have HY : Hid (acc.take (i + 1) = acc.take i ++ [acc.getD i []]) := Lib.hid (by
        rw [List.take_succ_eq_append_getElem (by omega)]
        simp [List.getD, List.getElem?_eq_getElem (show i < acc.length by omega)])
      have HM : Hid (acc.getD i [] ∈ acc) := Lib.hid (by
        simp [List.getD, List.getElem?_eq_getElem (show i < acc.length by omega)])
      clear hu
      generalize acc.getD i [] = y at hc HY HM
      by_cases hxy : y = n
      · subst hxy
        go_wp2_with fail
        go_end0
        exact ⟨rfl, _, H.out, by rw [show met acc y = acc from if_pos HM.out]; exact HO.out, Kq.refl _ _⟩
      · have hq : (y == n) = false := by rw [beq_eq_false_iff_ne]; exact hxy
        have HZ := Lib.hid (show n ≠ y from fun e => hxy e.symm)
        clear hxy
        go_wp2_with fail
        go_round
        case rel => exact ⟨i + 1, by omega, by go_num, Lib.hid (by rw [HY.out]; simp only [List.mem_append, List.mem_singleton, not_or]; exact ⟨HX.out, HZ.out⟩)⟩
        case measure => simp [intOf]; omega
    · have HE : Hid (n ∉ acc) := Lib.hid (by have := HX.out; rwa [List.take_of_length_le (by omega)] at this)
      go_wp2_with (at_builtin; refine wpList_append_own _ rfl _ _ 36 rfl rb 9 i0 (.string ByteArray.empty) 1 16 Tryd.underlying36 hi0 hz0 hz1 hz2 rfl (by decide) _ _ _ rfl (World.ownsRow.alloc HO.out _) ⟨w.heap.size, 0, none⟩ 1 1 [.string ⟨n.toArray⟩] rfl rfl (cell_one_new _ _ _) (by intro x hx; simp at hx; subst hx; rfl) (by unfold maxLen; omega) (by omega) (by simp; omega) ?_; intro v1 w1 hown1 hgrow1 _; have HO1 := Lib.hid hown1; have HG1 := Lib.hid hgrow1; have HB1 : Hid (RdrR w1 rb s p e 0 (.slice A acc.length c)) := Lib.hid (Blk.grown (H.out.alloc _) hgrow1 (fun e => HNB.out e.symm)); clear hown1 hgrow1; obtain ⟨A1, c1, rfl⟩ := own_form HO1.out; have f4 := Blk.frozen HB1.out 4; have c4 := HB1.out.c4)
      go_end0
      refine ⟨rfl, _, HB1.out.names _, ?_, ?_⟩
      · rw [show met acc n = acc ++ [n] from if_neg HE.out]
        unfold Own9
        rw [List.length_append, List.length_singleton, tx_append]
        have hne := own_blk_ne HO1.out HB1.out (by decide)
        exact own_at HO1.out (fun b hb => Below.heap_setCell w1 _ _ b (fun e => hne (by subst e; exact hb)))
      · exact ((Kq.refl rb w).alloc _).grown HG1.out (fun k hk => .inr (HNT.out k _ hk)) |>.setCell (.inr rfl) _
end Exp
end Go.Proofs.YtnmnhnhlggbijaaDoor
