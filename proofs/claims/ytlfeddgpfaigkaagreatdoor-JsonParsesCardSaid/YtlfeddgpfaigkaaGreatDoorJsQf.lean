/-
  The walks of the document's answer for layer 4 (strataref04): encoded, the Reader's escape.
-/
import Derived.Test.YtlfeddgpfaigkaaGreatDoorJsQe
namespace Go.Proofs.YtlfeddgpfaigkaaGreatDoor
open Go.RowKit
namespace Js
theorem ownY_row (w : World) (l : List UInt8) (vs : Array Value) (n : Nat) (hv : vs = (Lib.byteCells l).toArray) (hn : l.length = n) (h0 : 0 < n) (hl : l.length ≤ 1000) : OwnY (w.alloc (.cells vs 5)) w.heap.size (.slice (some ⟨w.heap.size, 0, none⟩) n n) l := by
  subst hv hn
  unfold OwnY
  exact ⟨by simp [Lib.byteCells], .inr ⟨w.heap.size, _, _, rfl, Nat.le_refl _, heap_alloc_new w _, Nat.le_refl _, by unfold maxLen; omega, by simp [Lib.byteCells], List.take_of_length_le (by simp [Lib.byteCells])⟩⟩
theorem OwnY.less {w : World} {B B' : Nat} {v : Value} {l : List UInt8} (h : OwnY w B v l) (hB : B' ≤ B) : OwnY w B' v l := own_less h hB
theorem u8n {n : Nat} (h : n < 256) : (UInt8.ofNat n).toNat = n := by rw [UInt8.toNat_ofNat']; omega
set_option maxRecDepth 100000 in
theorem encodedR_any (c : Nat) (hc : c < 1114112) (w : World) : Calls Tryz.prog 165 #[.int .i64 (c : Nat)] w fun x w' => ∃ v, x = .returned v ∧ OwnY w' w.heap.size v (utf8 c) ∧ Below w.heap.size w w' := by
  by_cases h1 : c < 128
  · have HB : Hid (utf8 c = [.ofNat c]) := Lib.hid (by unfold utf8; rw [if_pos h1])
    have l1 : ((c : Int) < 128) = True := eq_true (by omega)
    have e1 : IntKind.u8.wrap (c : Int) = (c : Int) := IntWalk.u8_in _ ⟨by omega, by omega⟩
    have HE : Hid ((UInt8.ofNat c).toNat = c) := Lib.hid (u8n (by omega))
    go_enter Tryz.func165, Tryz.ntmps165
    go_wp2
    go_ret
    exact ⟨_, rfl, by rw [HB.out]; exact ownY_row w _ _ 1 (by simp only [Lib.byteCells, List.map_cons, List.map_nil, HE.out]) rfl (by decide) (by simp), (Below.refl _ _).alloc (Nat.le_refl _) _⟩
  · have l1 : ((c : Int) < 128) = False := eq_false (by omega)
    by_cases h2 : c < 2048
    · have HB : Hid (utf8 c = [.ofNat (192 + c / 64), .ofNat (128 + c % 64)]) := Lib.hid (by unfold utf8; rw [if_neg h1, if_pos h2])
      have l2 : ((c : Int) < 2048) = True := eq_true (by omega)
      go_enter Tryz.func165, Tryz.ntmps165
      go_wp2
      go_ret
      exact ⟨_, rfl, by rw [HB.out]; exact ownY_row w _ _ 2 (by simp [Lib.byteCells]; omega) rfl (by decide) (by simp), (Below.refl _ _).alloc (Nat.le_refl _) _⟩
    · have l2 : ((c : Int) < 2048) = False := eq_false (by omega)
      by_cases h3 : c < 65536
      · have HB : Hid (utf8 c = [.ofNat (224 + c / 4096), .ofNat (128 + c / 64 % 64), .ofNat (128 + c % 64)]) := Lib.hid (by unfold utf8; rw [if_neg h1, if_neg h2, if_pos h3])
        have l3 : ((c : Int) < 65536) = True := eq_true (by omega)
        go_enter Tryz.func165, Tryz.ntmps165
        go_wp2
        go_ret
        exact ⟨_, rfl, by rw [HB.out]; exact ownY_row w _ _ 3 (by simp [Lib.byteCells]; omega) rfl (by decide) (by simp), (Below.refl _ _).alloc (Nat.le_refl _) _⟩
      · have HB : Hid (utf8 c = [.ofNat (240 + c / 262144), .ofNat (128 + c / 4096 % 64), .ofNat (128 + c / 64 % 64), .ofNat (128 + c % 64)]) := Lib.hid (by unfold utf8; rw [if_neg h1, if_neg h2, if_neg h3])
        have l3 : ((c : Int) < 65536) = False := eq_false (by omega)
        go_enter Tryz.func165, Tryz.ntmps165
        go_wp2
        go_ret
        exact ⟨_, rfl, by rw [HB.out]; exact ownY_row w _ _ 4 (by simp [Lib.byteCells]; omega) rfl (by decide) (by simp), (Below.refl _ _).alloc (Nat.le_refl _) _⟩
/-- What escape leaves. -/
def EsP (rb : Nat) (s : List UInt8) (i : Nat) (w : World) (x : Ending) (w' : World) : Prop :=
  ∃ v b, x = .returned v ∧ OwnY w' w.heap.size v b ∧ KR rb w w' ∧ ((∃ r wh', esc (s.drop i) = .emit b r ∧ Rb w' rb s (s.length - r.length) 0 wh') ∨ (∃ no r, b = [] ∧ 1 ≤ no ∧ esc (s.drop i) = .err no r ∧ Rb w' rb s i no (s.length - r.length)))
theorem simple_at {c : UInt8} {k : Nat} (hk : k < 8) (h : escF.getD k 0 = c) : simple c = some (escT.getD k 0) := by
  subst h
  exact (show ∀ k : Fin 8, simple (escF.getD k.val 0) = some (escT.getD k.val 0) by decide) ⟨k, hk⟩
theorem simple_none {c : UInt8} (h : ∀ k, k < 8 → escF.getD k 0 ≠ c) : simple c = none := by
  have h0 := h 0 (by decide); have h1 := h 1 (by decide); have h2 := h 2 (by decide); have h3 := h 3 (by decide)
  have h4 := h 4 (by decide); have h5 := h 5 (by decide); have h6 := h 6 (by decide); have h7 := h 7 (by decide)
  simp only [escF, List.getD_cons_zero, List.getD_cons_succ] at h0 h1 h2 h3 h4 h5 h6 h7
  unfold simple
  rw [if_neg (Ne.symm h0), if_neg (Ne.symm h1), if_neg (Ne.symm h2), if_neg (Ne.symm h3), if_neg (Ne.symm h4), if_neg (Ne.symm h5), if_neg (Ne.symm h6), if_neg (Ne.symm h7)]
theorem esc_two {s : List UInt8} {i : Nat} (h : i + 1 < s.length) : esc (s.drop i) = match simple (s.getD (i + 1) 0) with
    | some b => .emit [b] (s.drop (i + 2))
    | none => esc1 (s.drop i) := by
  rw [drop_get (show i < s.length by omega), drop_get h]; rfl
theorem esc_short {s : List UInt8} {i : Nat} (h : ¬ i + 1 < s.length) : esc (s.drop i) = .err 2 [] := by
  rcases Nat.lt_or_ge i s.length with h1 | h1
  · rw [drop_get h1, List.drop_eq_nil_of_le (by omega)]; rfl
  · rw [List.drop_eq_nil_of_le h1]; rfl
theorem esP_err {rb : Nat} {s : List UInt8} {i no pl : Nat} {r : List UInt8} {w w' : World} (h0 : 1 ≤ no) (he : esc (s.drop i) = .err no r) (hk : KR rb w w') (hr : Rb w' rb s i no pl) (hp : pl = s.length - r.length) : EsP rb s i w (.returned (.slice none 0 0)) w' := by
  subst hp
  exact ⟨_, [], rfl, ownY_nil _ _, hk, .inr ⟨no, r, rfl, h0, he, hr⟩⟩
theorem esP_emit {rb : Nat} {s : List UInt8} {i j wh : Nat} {b : List UInt8} {v : Value} {w w1 w2 : World} (he : esc (s.drop i) = .emit b (s.drop j)) (hj : j ≤ s.length) (hk : KR rb w w1) (hr : Rb w1 rb s j 0 wh) (ho : OwnY w2 w1.heap.size v b) (hb : Below w1.heap.size w1 w2) : EsP rb s i w (.returned v) w2 :=
  ⟨v, b, rfl, ho.less (kr_size hk), kr_below hk hb, .inl ⟨_, wh, he, by rw [List.length_drop, show s.length - (s.length - j) = j by omega]; exact Blk.below hr hb (Blk.lt hr)⟩⟩
-- <
set_option maxHeartbeats 6400000 in
set_option maxRecDepth 100000 in
theorem escapeR_any (rb : Nat) (s : List UInt8) (i wh : Nat) (w : World) (hr : Rb w rb s i 0 wh) (hs : s.length ≤ 4398046511104) (hi : i < s.length) :
    Calls Tryz.prog 147 #[.pointer (some ⟨rb, 0, none⟩)] w (EsP rb s i w) := by
  have HR := Lib.hid hr
  clear hr
  obtain ⟨c0, c1, _, _⟩ := HR.out.cells
  have HRB : Hid (rb < w.heap.size) := Lib.hid (Blk.lt HR.out)
  by_cases hlt : i + 1 < s.length
  · have hwr : IntKind.i64.wrap ((i : Int) + 1) = (i : Int) + 1 := IntWalk.i64_in _ ⟨by omega, by omega⟩
    have l1 : ((s.length : Int) ≤ (i : Int) + 1) = False := eq_false (by omega)
    have hidx : ∀ w, (Instr.index 9 (.string ⟨s.toArray⟩) (.int .i64 ((i : Int) + 1))).run Tryz.prog w = .ok (.int .u8 ((s.getD (i + 1) 0).toNat : Int)) w := fun w => by
      have := run_index_list Tryz.underlying9 s (i + 1) hlt w
      push_cast at this
      exact this
    have HET := Lib.hid (esc_two hlt)
    generalize s.getD (i + 1) 0 = c at hidx HET
    go_enter Tryz.func147, Tryz.ntmps147
    go_wp2_with fail
    go_quiet (fail)
    have HR1 : Hid (Rb (w.drewN nq) rb s i 0 wh) := Lib.hid HR.out
    have HK1 : Hid (KR rb w (w.drewN nq)) := Lib.hid (kr_drewN _ _ _)
    clear c0 c1 HR
    generalize w.drewN nq = w1 at HR1 HK1 ⊢
    obtain ⟨c0, c1, _, _⟩ := HR1.out.cells
    go_wp2_with fail
    go_quiet (fail)
    have HR2 : Hid (Rb (w1.drewN nq) rb s i 0 wh) := Lib.hid HR1.out
    have HK2 : Hid (KR rb w (w1.drewN nq)) := Lib.hid (Kp.drewN HK1.out nq)
    clear c0 c1 HR1 HK1 hidx hwr l1
    generalize w1.drewN nq = w2 at HR2 HK2 ⊢
    go_wp2_with fail
    go_loopw [6] (fun a wr => ∃ k : Nat, wr = w2 ∧ k ≤ 8 ∧ a = .int .i64 (k : Nat) ∧ Hid (∀ q, q < k → escF.getD q 0 ≠ c)) (fun a _ => 8 - (intOf a).toNat)
    case atStart => exact ⟨0, rfl, by omega, rfl, Lib.hid (fun q hq => absurd hq (by omega))⟩
    case round =>
      obtain ⟨k, hwr, hk, rfl, HN⟩ := hrel
      subst hwr
      obtain ⟨c0, c1, _, _⟩ := HR2.out.cells
      by_cases hk8 : k < 8
      · have hidx2 : ∀ w, (Instr.index 9 (.string ⟨#[34, 92, 47, 98, 102, 110, 114, 116]⟩) (.int .i64 (k : Nat))).run Tryz.prog w = .ok (.int .u8 ((escF.getD k 0).toNat : Int)) w := run_index_list Tryz.underlying9 escF k hk8
        have hidx3 : ∀ w, (Instr.index 9 (.string ⟨#[34, 92, 47, 8, 12, 10, 13, 9]⟩) (.int .i64 (k : Nat))).run Tryz.prog w = .ok (.int .u8 ((escT.getD k 0).toNat : Int)) w := run_index_list Tryz.underlying9 escT k hk8
        by_cases hc : escF.getD k 0 = c
        · have HEM : Hid (esc (s.drop i) = .emit [escT.getD k 0] (s.drop (i + 2))) := Lib.hid (by rw [HET.out, simple_at hk8 hc])
          rw [hc] at hidx2
          clear hc HN
          generalize escT.getD k 0 = d at hidx3 HEM
          have f1 := Blk.frozen HR2.out 1
          go_upto_region 12 with fail
          have HR3 : Hid (Rb (wr.setCell ⟨rb, 1, none⟩ (.int .i64 ((i : Int) + 2))) rb s (i + 2) 0 wh) := Lib.hid (by have := HR2.out.at_ (i + 2); push_cast at this; exact this)
          have HK3 : Hid (KR rb w (wr.setCell ⟨rb, 1, none⟩ (.int .i64 ((i : Int) + 2)))) := Lib.hid (kr_set HK2.out _)
          generalize wr.setCell ⟨rb, 1, none⟩ (.int .i64 ((i : Int) + 2)) = w3 at HR3 HK3 ⊢
          go_wp2
          go_ret
          refine ⟨_, [d], rfl, (ownY_row _ [d] #[.int .u8 (d.toNat : Int)] 1 (by simp [Lib.byteCells]) rfl (by decide) (by simp)).less (by have := kr_size HK3.out; omega), ?_, .inl ⟨_, wh, HEM.out, ?_⟩⟩
          · exact kr_below HK3.out ((Below.refl _ _).alloc (Nat.le_refl _) _)
          · rw [List.length_drop, show s.length - (s.length - (i + 2)) = i + 2 by omega]
            exact Blk.alloc HR3.out _
        · have H1 : Hid (∀ q, q < k + 1 → escF.getD q 0 ≠ c) := Lib.hid (fun q hq => by
            rcases Nat.lt_or_ge q k with h1 | h1
            · exact HN.out q h1
            · obtain rfl : q = k := by omega
              exact hc)
          generalize escF.getD k 0 = d at hidx2 hc
          have q1 : ((d.toNat : Int) == (c.toNat : Int)) = false := b8f hc
          clear hc hidx3
          go_wp2_with fail
          go_roundw
          case rel => exact ⟨k + 1, trivial, by omega, by go_num, H1⟩
          case measure => simp [intOf]; omega
      · obtain rfl : k = 8 := by omega
        have HE1 : Hid (esc (s.drop i) = esc1 (s.drop i)) := Lib.hid (by rw [HET.out, simple_none HN.out])
        have HUA := Lib.hid (unitRR_any rb s 0 wh i i wr HR2.out hs (by omega))
        clear HN HET
        cases hu : unit (s.drop i) with
        | bad =>
          rw [hu] at HUA
          replace HUA : Hid (Calls Tryz.prog 164 #[.pointer (some ⟨rb, 0, none⟩), .int .i64 (i : Nat)] wr fun x w' => x = .returned (.int .i64 (-1)) ∧ wr = w') := HUA
          go_wp2_with fail
          refine HUA.out.mono ?_
          rintro x wx ⟨rfl, rfl⟩
          clear HUA
          have HE2 : Hid (esc (s.drop i) = .err 4 (s.drop i)) := Lib.hid (by rw [HE1.out]; unfold esc1; rw [hu])
          have HF := Lib.hid (failR_any rb s i wh 4 i wr HR2.out)
          go_wp2_with fail
          refine HF.out.mono ?_
          rintro x w4 ⟨rfl, hr4, hk4⟩
          have HX := Lib.hid (esP_err (by decide) HE2.out (kr_trans HK2.out hk4) hr4 (by rw [List.length_drop]; omega))
          clear hr4 hk4 HF c0 c1
          go_wp2
          go_ret
          exact HX.out
        | short =>
          rw [hu] at HUA
          replace HUA : Hid (Calls Tryz.prog 164 #[.pointer (some ⟨rb, 0, none⟩), .int .i64 (i : Nat)] wr fun x w' => x = .returned (.int .i64 (-2)) ∧ wr = w') := HUA
          go_wp2_with fail
          refine HUA.out.mono ?_
          rintro x wx ⟨rfl, rfl⟩
          clear HUA
          have HE2 : Hid (esc (s.drop i) = .err 2 []) := Lib.hid (by rw [HE1.out]; unfold esc1; rw [hu])
          have HF := Lib.hid (failR_any rb s i wh 2 s.length wr HR2.out)
          go_wp2_with fail
          refine HF.out.mono ?_
          rintro x w4 ⟨rfl, hr4, hk4⟩
          have HX := Lib.hid (esP_err (by decide) HE2.out (kr_trans HK2.out hk4) hr4 rfl)
          clear hr4 hk4 HF c0 c1
          go_wp2
          go_ret
          exact HX.out
        | val v =>
          rw [hu] at HUA
          replace HUA : Hid (Calls Tryz.prog 164 #[.pointer (some ⟨rb, 0, none⟩), .int .i64 (i : Nat)] wr fun x w' => x = .returned (.int .i64 (v : Int)) ∧ wr = w') := HUA
          obtain ⟨h6, hv⟩ := unit_val hu
          rw [List.length_drop] at h6
          have HU := Lib.hid hu
          clear hu
          have e2 : ((v : Int) == -2) = false := by rw [beq_eq_false_iff_ne]; omega
          have e0 : ((v : Int) < 0) = False := eq_false (by omega)
          rcases (by omega : v < 55296 ∨ (55296 ≤ v ∧ v ≤ 56319) ∨ (56320 ≤ v ∧ v ≤ 57343) ∨ 57343 < v) with h | ⟨h, h'⟩ | ⟨h, h'⟩ | h
          · have l1 : ((55296 : Int) ≤ (v : Int)) = False := eq_false (by omega)
            have l2 : ((56320 : Int) ≤ (v : Int)) = False := eq_false (by omega)
            go_wp2_with fail
            refine HUA.out.mono ?_
            rintro x wx ⟨rfl, rfl⟩
            clear HUA
            have HE2 : Hid (esc (s.drop i) = .emit (utf8 v) (s.drop (i + 6))) := Lib.hid (by rw [HE1.out]; unfold esc1; rw [HU.out]; simp only; rw [if_pos (.inl h), List.drop_drop])
            have HJ : Hid (i + 6 ≤ s.length) := Lib.hid (by omega)
            have HEN : Hid (∀ wx, Calls Tryz.prog 165 #[.int .i64 (v : Int)] wx fun x w' => ∃ v', x = .returned v' ∧ OwnY w' wx.heap.size v' (utf8 v) ∧ Below wx.heap.size wx w') := Lib.hid (fun wx => by
              have := encodedR_any v (by omega) wx
              skip
              exact this)
            have f1 := Blk.frozen HR2.out 1
            go_upto_region 30 with fail
            have HR3 : Hid (Rb (wr.setCell ⟨rb, 1, none⟩ (.int .i64 ((i : Int) + 6))) rb s (i + 6) 0 wh) := Lib.hid (by have := HR2.out.at_ (i + 6); push_cast at this; exact this)
            have HK3 : Hid (KR rb w (wr.setCell ⟨rb, 1, none⟩ (.int .i64 ((i : Int) + 6)))) := Lib.hid (kr_set HK2.out _)
            generalize wr.setCell ⟨rb, 1, none⟩ (.int .i64 ((i : Int) + 6)) = w3 at HR3 HK3 ⊢
            go_wp2_with fail
            refine (HEN.out _).mono ?_
            rintro x w4 ⟨v4, rfl, ho4, hb4⟩
            have HX := Lib.hid (esP_emit HE2.out HJ.out HK3.out HR3.out ho4 hb4)
            clear ho4 hb4 HEN c0 c1 f1
            go_wp2
            go_ret
            exact HX.out
          · have l1 : ((55296 : Int) ≤ (v : Int)) = True := eq_true (by omega)
            have l2 : ((v : Int) ≤ (56319 : Int)) = True := eq_true (by omega)
            have HE3 : Hid (esc (s.drop i) = esc2 (s.drop i) v) := Lib.hid (by rw [HE1.out]; unfold esc1; rw [HU.out]; simp only; rw [if_neg (by omega), if_neg (by omega)])
            have hdd : (s.drop i).drop 6 = s.drop (i + 6) := by rw [List.drop_drop]
            have HUB0 := Lib.hid (unitRR_any rb s 0 wh i (i + 6) wr HR2.out hs (by omega))
            have HUB : Hid (Calls Tryz.prog 164 #[.pointer (some ⟨rb, 0, none⟩), .int .i64 ((i : Int) + 6)] wr fun x w' => x = .returned (.int .i64 (unV (unit (s.drop (i + 6))))) ∧ wr = w') := Lib.hid (by have := HUB0.out; push_cast at this; exact this)
            clear HUB0
            go_wp2_with fail
            refine HUA.out.mono ?_
            rintro x wx ⟨rfl, rfl⟩
            clear HUA
            cases hx : unit (s.drop (i + 6)) with
            | bad =>
              rw [hx] at HUB
              replace HUB : Hid (Calls Tryz.prog 164 #[.pointer (some ⟨rb, 0, none⟩), .int .i64 ((i : Int) + 6)] wr fun x w' => x = .returned (.int .i64 (-1)) ∧ wr = w') := HUB
              go_wp2_with fail
              refine HUB.out.mono ?_
              rintro x wx ⟨rfl, rfl⟩
              clear HUB
              have HE2 : Hid (esc (s.drop i) = .err 4 (s.drop i)) := Lib.hid (by rw [HE3.out]; unfold esc2; rw [hdd, hx])
              have HF := Lib.hid (failR_any rb s i wh 4 i wr HR2.out)
              go_wp2_with fail
              refine HF.out.mono ?_
              rintro x w4 ⟨rfl, hr4, hk4⟩
              have HX := Lib.hid (esP_err (by decide) HE2.out (kr_trans HK2.out hk4) hr4 (by rw [List.length_drop]; omega))
              clear hr4 hk4 HF c0 c1
              go_wp2
              go_ret
              exact HX.out
            | short =>
              rw [hx] at HUB
              replace HUB : Hid (Calls Tryz.prog 164 #[.pointer (some ⟨rb, 0, none⟩), .int .i64 ((i : Int) + 6)] wr fun x w' => x = .returned (.int .i64 (-2)) ∧ wr = w') := HUB
              go_wp2_with fail
              refine HUB.out.mono ?_
              rintro x wx ⟨rfl, rfl⟩
              clear HUB
              have HE2 : Hid (esc (s.drop i) = .err 2 []) := Lib.hid (by rw [HE3.out]; unfold esc2; rw [hdd, hx])
              have HF := Lib.hid (failR_any rb s i wh 2 s.length wr HR2.out)
              go_wp2_with fail
              refine HF.out.mono ?_
              rintro x w4 ⟨rfl, hr4, hk4⟩
              have HX := Lib.hid (esP_err (by decide) HE2.out (kr_trans HK2.out hk4) hr4 rfl)
              clear hr4 hk4 HF c0 c1
              go_wp2
              go_ret
              exact HX.out
            | val y =>
              rw [hx] at HUB
              replace HUB : Hid (Calls Tryz.prog 164 #[.pointer (some ⟨rb, 0, none⟩), .int .i64 ((i : Int) + 6)] wr fun x w' => x = .returned (.int .i64 (y : Int)) ∧ wr = w') := HUB
              obtain ⟨h12, hy⟩ := unit_val hx
              rw [List.length_drop] at h12
              have HX2 := Lib.hid hx
              clear hx
              have e3 : ((y : Int) == -2) = false := by rw [beq_eq_false_iff_ne]; omega
              by_cases hyy : 56320 ≤ y ∧ y ≤ 57343
              · have l3 : ((56320 : Int) ≤ (y : Int)) = True := eq_true (by omega)
                have l4 : ((y : Int) ≤ (57343 : Int)) = True := eq_true (by omega)
                obtain ⟨z, hz⟩ : ∃ z, z = 65536 + (v - 55296) * 1024 + (y - 56320) := ⟨_, rfl⟩
                have hzz : (65536 : Int) + ((v : Int) - 55296) * 1024 + (y : Int) - 56320 = (z : Int) := by omega
                have hz1 : z < 1114112 := by omega
                have hz2 : 65536 ≤ z := by omega
                have HZ := Lib.hid hz
                clear hz
                have e4 : ((z : Int) == -2) = false := by rw [beq_eq_false_iff_ne]; omega
                have e5 : ((z : Int) < 0) = False := eq_false (by omega)
                have l6 : ((56320 : Int) ≤ (z : Int)) = True := eq_true (by omega)
                have l7 : ((z : Int) ≤ (57343 : Int)) = False := eq_false (by omega)
                go_wp2_with fail
                refine HUB.out.mono ?_
                rintro x wx ⟨rfl, rfl⟩
                clear HUB
                have HE2 : Hid (esc (s.drop i) = .emit (utf8 z) (s.drop (i + 12))) := Lib.hid (by rw [HE3.out]; unfold esc2; rw [hdd, HX2.out]; simp only; rw [if_pos hyy, List.drop_drop, HZ.out])
                have HJ : Hid (i + 12 ≤ s.length) := Lib.hid (by omega)
                have HEN : Hid (∀ wx, Calls Tryz.prog 165 #[.int .i64 (z : Int)] wx fun x w' => ∃ v', x = .returned v' ∧ OwnY w' wx.heap.size v' (utf8 z) ∧ Below wx.heap.size wx w') := Lib.hid (fun wx => by
                  have := encodedR_any z (by omega) wx
                  skip
                  exact this)
                have f1 := Blk.frozen HR2.out 1
                go_upto_region 30 with fail
                have HR3 : Hid (Rb (wr.setCell ⟨rb, 1, none⟩ (.int .i64 ((i : Int) + 12))) rb s (i + 12) 0 wh) := Lib.hid (by have := HR2.out.at_ (i + 12); push_cast at this; exact this)
                have HK3 : Hid (KR rb w (wr.setCell ⟨rb, 1, none⟩ (.int .i64 ((i : Int) + 12)))) := Lib.hid (kr_set HK2.out _)
                generalize wr.setCell ⟨rb, 1, none⟩ (.int .i64 ((i : Int) + 12)) = w3 at HR3 HK3 ⊢
                go_wp2_with fail
                refine (HEN.out _).mono ?_
                rintro x w4 ⟨v4, rfl, ho4, hb4⟩
                have HX := Lib.hid (esP_emit HE2.out HJ.out HK3.out HR3.out ho4 hb4)
                clear ho4 hb4 HEN c0 c1 f1
                go_wp2
                go_ret
                exact HX.out
              · have HE4 : Hid (esc (s.drop i) = .err 4 (s.drop i)) := Lib.hid (by rw [HE3.out]; unfold esc2; rw [hdd, HX2.out]; simp only; rw [if_neg hyy])
                rcases (by omega : y < 56320 ∨ (56320 ≤ y ∧ 57343 < y)) with hy1 | ⟨hy1, hy2⟩
                · have l3 : ((56320 : Int) ≤ (y : Int)) = False := eq_false (by omega)
                  clear hyy
                  go_wp2_with fail
                  refine HUB.out.mono ?_
                  rintro x wx ⟨rfl, rfl⟩
                  clear HUB
                  have HE2 : Hid (esc (s.drop i) = .err 4 (s.drop i)) := Lib.hid (by exact HE4.out)
                  have HF := Lib.hid (failR_any rb s i wh 4 i wr HR2.out)
                  go_wp2_with fail
                  refine HF.out.mono ?_
                  rintro x w4 ⟨rfl, hr4, hk4⟩
                  have HX := Lib.hid (esP_err (by decide) HE2.out (kr_trans HK2.out hk4) hr4 (by rw [List.length_drop]; omega))
                  clear hr4 hk4 HF c0 c1
                  go_wp2
                  go_ret
                  exact HX.out
                · have l3 : ((56320 : Int) ≤ (y : Int)) = True := eq_true (by omega)
                  have l4 : ((y : Int) ≤ (57343 : Int)) = False := eq_false (by omega)
                  clear hyy
                  go_wp2_with fail
                  refine HUB.out.mono ?_
                  rintro x wx ⟨rfl, rfl⟩
                  clear HUB
                  have HE2 : Hid (esc (s.drop i) = .err 4 (s.drop i)) := Lib.hid (by exact HE4.out)
                  have HF := Lib.hid (failR_any rb s i wh 4 i wr HR2.out)
                  go_wp2_with fail
                  refine HF.out.mono ?_
                  rintro x w4 ⟨rfl, hr4, hk4⟩
                  have HX := Lib.hid (esP_err (by decide) HE2.out (kr_trans HK2.out hk4) hr4 (by rw [List.length_drop]; omega))
                  clear hr4 hk4 HF c0 c1
                  go_wp2
                  go_ret
                  exact HX.out
          · have l1 : ((55296 : Int) ≤ (v : Int)) = True := eq_true (by omega)
            have l2 : ((v : Int) ≤ (56319 : Int)) = False := eq_false (by omega)
            have l3 : ((56320 : Int) ≤ (v : Int)) = True := eq_true (by omega)
            have l4 : ((v : Int) ≤ (57343 : Int)) = True := eq_true (by omega)
            go_wp2_with fail
            refine HUA.out.mono ?_
            rintro x wx ⟨rfl, rfl⟩
            clear HUA
            have HE2 : Hid (esc (s.drop i) = .err 4 (s.drop i)) := Lib.hid (by rw [HE1.out]; unfold esc1; rw [HU.out]; simp only; rw [if_neg (by omega), if_pos (by omega)])
            have HF := Lib.hid (failR_any rb s i wh 4 i wr HR2.out)
            go_wp2_with fail
            refine HF.out.mono ?_
            rintro x w4 ⟨rfl, hr4, hk4⟩
            have HX := Lib.hid (esP_err (by decide) HE2.out (kr_trans HK2.out hk4) hr4 (by rw [List.length_drop]; omega))
            clear hr4 hk4 HF c0 c1
            go_wp2
            go_ret
            exact HX.out
          · have l1 : ((55296 : Int) ≤ (v : Int)) = True := eq_true (by omega)
            have l2 : ((v : Int) ≤ (56319 : Int)) = False := eq_false (by omega)
            have l3 : ((56320 : Int) ≤ (v : Int)) = True := eq_true (by omega)
            have l4 : ((v : Int) ≤ (57343 : Int)) = False := eq_false (by omega)
            go_wp2_with fail
            refine HUA.out.mono ?_
            rintro x wx ⟨rfl, rfl⟩
            clear HUA
            have HE2 : Hid (esc (s.drop i) = .emit (utf8 v) (s.drop (i + 6))) := Lib.hid (by rw [HE1.out]; unfold esc1; rw [HU.out]; simp only; rw [if_pos (.inr h), List.drop_drop])
            have HJ : Hid (i + 6 ≤ s.length) := Lib.hid (by omega)
            have HEN : Hid (∀ wx, Calls Tryz.prog 165 #[.int .i64 (v : Int)] wx fun x w' => ∃ v', x = .returned v' ∧ OwnY w' wx.heap.size v' (utf8 v) ∧ Below wx.heap.size wx w') := Lib.hid (fun wx => by
              have := encodedR_any v (by omega) wx
              skip
              exact this)
            have f1 := Blk.frozen HR2.out 1
            go_upto_region 30 with fail
            have HR3 : Hid (Rb (wr.setCell ⟨rb, 1, none⟩ (.int .i64 ((i : Int) + 6))) rb s (i + 6) 0 wh) := Lib.hid (by have := HR2.out.at_ (i + 6); push_cast at this; exact this)
            have HK3 : Hid (KR rb w (wr.setCell ⟨rb, 1, none⟩ (.int .i64 ((i : Int) + 6)))) := Lib.hid (kr_set HK2.out _)
            generalize wr.setCell ⟨rb, 1, none⟩ (.int .i64 ((i : Int) + 6)) = w3 at HR3 HK3 ⊢
            go_wp2_with fail
            refine (HEN.out _).mono ?_
            rintro x w4 ⟨v4, rfl, ho4, hb4⟩
            have HX := Lib.hid (esP_emit HE2.out HJ.out HK3.out HR3.out ho4 hb4)
            clear ho4 hb4 HEN c0 c1 f1
            go_wp2
            go_ret
            exact HX.out
  · have hwr : IntKind.i64.wrap ((i : Int) + 1) = (i : Int) + 1 := IntWalk.i64_in _ ⟨by omega, by omega⟩
    have l1 : ((s.length : Int) ≤ (i : Int) + 1) = True := eq_true (by omega)
    have HE : Hid (esc (s.drop i) = .err 2 []) := Lib.hid (esc_short hlt)
    go_enter Tryz.func147, Tryz.ntmps147
    go_wp2_with fail
    go_quiet (fail)
    have HR1 : Hid (Rb (w.drewN nq) rb s i 0 wh) := Lib.hid HR.out
    have HK1 : Hid (KR rb w (w.drewN nq)) := Lib.hid (kr_drewN _ _ _)
    clear c0 c1 HR hwr
    generalize w.drewN nq = w1 at HR1 HK1 ⊢
    obtain ⟨c0, c1, _, _⟩ := HR1.out.cells
    have HF := Lib.hid (failR_any rb s i wh 2 s.length w1 HR1.out)
    go_wp2_with fail
    refine HF.out.mono ?_
    rintro x w2 ⟨rfl, hr2, hk2⟩
    have HX := Lib.hid (esP_err (by decide) HE.out (kr_trans HK1.out hk2) hr2 rfl)
    clear hr2 hk2 HF c0 c1
    go_wp2
    go_ret
    exact HX.out
-- >
end Js
end Go.Proofs.YtlfeddgpfaigkaaGreatDoor
