/-
  The walk of the document's Reader (strataref04): text.
-/
import Derived.Test.YtlfeddgpfaigkaaGreatDoorJsQf
namespace Go.Proofs.YtlfeddgpfaigkaaGreatDoor
open Go.RowKit
namespace Js
theorem wpList_rowK {ops : Array Oper} {rest : List Oper} {o : Oper} {a : Act} {Q : Exit → Act → World → Prop} (w : World) (hgd : o.guard = none) (s x : Operand)
    (ho : o.op = .call { callee := .builtin .append, args := #[s, x], argTypes := #[74, 74] })
    (B : Nat) (v : Value) (l b : List UInt8) (hown : OwnY w B v l) (hs : a.eval s = v) (hB : B ≤ w.heap.size) (B2 : Nat) (A : Option Addr) (m c : Nat) (hx : a.eval x = .slice A m c) (hr : Reads w B2 1 A m (Lib.byteCells b)) (hl : l.length + m ≤ 140737488355327)
    (h : ∀ v' w' r, r = l ++ b → OwnY w' B v' r → (∃ A k, v' = .slice A r.length k) → Ky B w w' → wpList Tryz.prog ops Q rest (a.put o.dst v') w') :
    wpList Tryz.prog ops Q (o :: rest) a w := by
  obtain ⟨i0, hi0, hz0, hz1, hz2⟩ := info_parts infoByteQ
  refine wpList_append_any _ hgd s x 74 ho B 5 i0 (.int .u8 0) 1 1 Tryz.underlying74 hi0 hz0 hz1 hz2 rfl (by decide) v l.length (Lib.byteCells l) hs hown B2 A m c (Lib.byteCells b) hx hr (by intro u hu; obtain ⟨y, _, rfl⟩ := List.mem_map.1 hu; rfl) (by unfold maxLen; omega) (by omega) hB ?_
  intro v' w' h1 h2 _
  have hm : b.length = m := by have := hr.1; simpa [Lib.byteCells] using this
  have h3 : OwnY w' B v' (l ++ b) := by
    unfold OwnY
    rw [List.length_append, byteCells_app, hm]
    exact h1
  exact h v' w' _ rfl h3 (ownY_form h3) (ky_grown hown h2 hB)
theorem kr_ky {rb : Nat} {w w1 w2 : World} (h : KR rb w w1) (k : Ky w.heap.size w1 w2) : KR rb w w2 := Kp.trans h (Kp.of_below k.1)
theorem rb_ky {rb B : Nat} {s : List UInt8} {i e wh : Nat} {w w1 : World} (h : Rb w rb s i e wh) (k : Ky B w w1) : Rb w1 rb s i e wh := ky_blk k h (by decide)
theorem ownY_kr {rb B : Nat} {w w1 : World} {v : Value} {l : List UInt8} (h : OwnY w B v l) (k : KR rb w w1) (hB : rb < B) : OwnY w1 B v l :=
  own_at h fun b hb => k.block b (own_lt h hb).2 (fun e => by have := (own_lt h hb).1; omega)
theorem esc_rest {s b r : List UInt8} {j : Nat} (h : esc (s.drop j) = .emit b r) : s.drop (s.length - r.length) = r := by
  have hr : ∃ k, r = s.drop k := by
    unfold esc at h
    split at h
    · rename_i x c t e
      have e2 : t = s.drop (j + 2) := by
        have := congrArg (List.drop 2) e
        rw [List.drop_drop] at this
        exact this.symm
      split at h
      · injection h with _ h2; exact ⟨_, h2.symm.trans e2⟩
      · unfold esc1 at h
        split at h
        · cases h
        · cases h
        · split at h
          · injection h with _ h2; exact ⟨j + 6, by rw [← h2, List.drop_drop]⟩
          · split at h
            · cases h
            · unfold esc2 at h
              split at h
              · cases h
              · cases h
              · split at h
                · injection h with _ h2; exact ⟨j + 12, by rw [← h2, List.drop_drop]⟩
                · cases h
    · cases h
  obtain ⟨k, rfl⟩ := hr
  rw [List.length_drop]
  rcases Nat.lt_or_ge k s.length with h1 | h1
  · rw [show s.length - (s.length - k) = k by omega]
  · rw [List.drop_eq_nil_of_le h1, List.drop_eq_nil_of_le (by omega)]
/-- What text leaves. -/
def TxP (rb : Nat) (s : List UInt8) (i : Nat) (w : World) (x : Ending) (w' : World) : Prop :=
  ∃ t, x = .returned (.string ⟨t.toArray⟩) ∧ KR rb w w' ∧ ((∃ j wh', j ≤ s.length ∧ txt (s.drop i) = .ok t (s.drop j) ∧ Rb w' rb s j 0 wh') ∨ (∃ no r j, t = [] ∧ 1 ≤ no ∧ j ≤ s.length ∧ txt (s.drop i) = .err no r ∧ Rb w' rb s j no (s.length - r.length)))
/-- A text that is being read. -/
def TxR (rb : Nat) (s : List UInt8) (i : Nat) (w : World) (gk : Nat) (v : Value) (wr : World) : Prop :=
  ∃ l, OwnY wr w.heap.size v l ∧ l.length ≤ s.length ∧ KR rb w wr ∧ ((∃ j wh', j ≤ s.length ∧ s.length - j + 1 < gk ∧ l.length ≤ j ∧ txt (s.drop i) = (txt (s.drop j)).pre l ∧ Rb wr rb s j 0 wh') ∨ (∃ no r j, 0 < gk ∧ 1 ≤ no ∧ j ≤ s.length ∧ txt (s.drop i) = .err no r ∧ Rb wr rb s j no (s.length - r.length)))
theorem txt_at {s : List UInt8} {i j : Nat} {l : List UInt8} (hj : j < s.length) (h : txt (s.drop i) = (txt (s.drop j)).pre l) : txt (s.drop i) = (match tstep (s.getD j 0 :: s.drop (j + 1)) with
    | .fin r => .ok [] r
    | .err no r => .err no r
    | .emit b r => (txt r).pre b : TO).pre l := by rw [h, txt_eq, drop_get hj]; rfl
-- <
set_option maxHeartbeats 6400000 in
set_option maxRecDepth 100000 in
theorem textR_any (rb : Nat) (s : List UInt8) (i wh : Nat) (w : World) (hr : Rb w rb s i 0 wh) (hs : s.length ≤ 4398046511104) (hi : i ≤ s.length) :
    Calls Tryz.prog 108 #[.pointer (some ⟨rb, 0, none⟩)] w (TxP rb s i w) := by
  have HRB : Hid (rb < w.heap.size) := Lib.hid (Blk.lt hr)
  have HS0 : Hid (TxR rb s i w (s.length + 2) (.slice none 0 0) w) := Lib.hid ⟨[], ownY_nil _ _, by simp, kr_refl _ _, .inl ⟨i, wh, hi, by omega, by simp, by rw [TO.pre_nil], hr⟩⟩
  clear hr
  go_enter Tryz.func108, Tryz.ntmps108
  go_wp2_with fail
  go_loopg [3] (s.length + 2) (fun gk v wr => TxR rb s i w gk v wr)
  case atStart => exact HS0.out
  case round =>
    clear HS0
    obtain ⟨l, ho, hl, hk, hx⟩ := hrel
    obtain ⟨A0, c0', rfl⟩ := ownY_form ho
    have HO := Lib.hid ho
    have HK := Lib.hid hk
    have HBW : Hid (w.heap.size ≤ wr.heap.size) := Lib.hid (kr_size hk)
    clear ho hk
    rcases hx with ⟨j, wh', hj, hgk, hlj, htx, hrb⟩ | ⟨no, r, j, hgk, h1, hj, htx, hrb⟩
    · have HT := Lib.hid htx
      have HR := Lib.hid hrb
      clear htx hrb
      obtain ⟨c0, c1, c2, _⟩ := HR.out.cells
      by_cases hlt : j < s.length
      · have HE := Lib.hid (endR_f rb s j 0 wh' wr HR.out hlt)
        have hidx := run_index_list Tryz.underlying9 s j hlt
        have HTX := Lib.hid (txt_at hlt HT.out)
        have HDG := Lib.hid (drop_get hlt)
        generalize s.getD j 0 = c at hidx HTX HDG
        go_wp2_with fail
        refine HE.out.mono ?_
        rintro x wx ⟨rfl, n1, rfl⟩
        have HR1 : Hid (Rb (wr.drewN n1) rb s j 0 wh') := Lib.hid HR.out
        have HK1 : Hid (KR rb w (wr.drewN n1)) := Lib.hid (Kp.drewN HK.out n1)
        have HO1 : Hid (OwnY (wr.drewN n1) w.heap.size (.slice A0 l.length c0') l) := Lib.hid HO.out
        have HBW1 : Hid (w.heap.size ≤ (wr.drewN n1).heap.size) := Lib.hid HBW.out
        clear c0 c1 c2 HR HK HO HBW HE
        generalize wr.drewN n1 = w1 at HR1 HK1 HO1 HBW1 ⊢
        obtain ⟨c0, c1, c2, _⟩ := HR1.out.cells
        go_wp2_with fail
        go_quiet (fail)
        have HR2 : Hid (Rb (w1.drewN nq) rb s j 0 wh') := Lib.hid HR1.out
        have HK2 : Hid (KR rb w (w1.drewN nq)) := Lib.hid (Kp.drewN HK1.out nq)
        have HO2 : Hid (OwnY (w1.drewN nq) w.heap.size (.slice A0 l.length c0') l) := Lib.hid HO1.out
        have HBW2 : Hid (w.heap.size ≤ (w1.drewN nq).heap.size) := Lib.hid HBW1.out
        clear c0 c1 c2 HR1 HK1 HO1 HBW1 hidx
        generalize w1.drewN nq = w2 at HR2 HK2 HO2 HBW2 ⊢
        obtain ⟨c0, c1, c2, _⟩ := HR2.out.cells
        have f1 := Blk.frozen HR2.out 1
        by_cases h34 : c = 34
        · have q1 : ((c.toNat : Int) == 34) = true := b8t h34
          have HTE : Hid (txt (s.drop i) = .ok l (s.drop (j + 1))) := Lib.hid (by rw [HTX.out, tstep_cons, if_pos h34]; simp [TO.pre])
          clear h34
          go_upto_region 11 with fail
          have HR3 : Hid (Rb (w2.setCell ⟨rb, 1, none⟩ (.int .i64 ((j : Int) + 1))) rb s (j + 1) 0 wh') := Lib.hid (by have := HR2.out.at_ (j + 1); push_cast at this; exact this)
          have HK3 : Hid (KR rb w (w2.setCell ⟨rb, 1, none⟩ (.int .i64 ((j : Int) + 1)))) := Lib.hid (kr_set HK2.out _)
          have HO3 : Hid (OwnY (w2.setCell ⟨rb, 1, none⟩ (.int .i64 ((j : Int) + 1))) w.heap.size (.slice A0 l.length c0') l) := Lib.hid (own_at HO2.out fun b hb => Below.heap_setCell _ _ _ b (by have := (own_lt HO2.out hb).1; have := HRB.out; show b ≠ rb; omega))
          clear c0 c1 c2 f1
          generalize w2.setCell ⟨rb, 1, none⟩ (.int .i64 ((j : Int) + 1)) = w3 at HR3 HK3 HO3 ⊢
          obtain ⟨A5, c5, hv5, hr5⟩ := ownY_reads HO3.out
          cases hv5
          have hcv := run_convert_reads (P := Tryz.prog) Tryz.underlying74 Tryz.underlying5 Tryz.underlying9 c0' hr5
          clear hr5
          go_wp2
          go_ret
          exact ⟨l, rfl, HK3.out, .inl ⟨j + 1, wh', by omega, HTE.out, HR3.out⟩⟩
        · have q1 : ((c.toNat : Int) == 34) = false := b8f h34
          by_cases h32 : c.toNat < 32
          · have q2 : ((c.toNat : Int) < 32) = True := eq_true (by omega)
            have HTE : Hid (txt (s.drop i) = .err 4 (s.drop j)) := Lib.hid (by rw [HTX.out, tstep_cons, if_neg h34, if_pos h32, HDG.out]; rfl)
            have HF := Lib.hid (failR_any rb s j wh' 4 j w2 HR2.out)
            clear h34 h32
            go_wp2_with fail
            refine HF.out.mono ?_
            rintro x w4 ⟨rfl, hr4, hk4⟩
            have HX : Hid (∀ gk', 0 < gk' → TxR rb s i w gk' (.slice A0 l.length c0') w4) := Lib.hid (fun gk' hg => ⟨l, ownY_kr HO2.out hk4 HRB.out, hl, kr_trans HK2.out hk4, .inr ⟨4, _, j, hg, by decide, hj, HTE.out, by rw [List.length_drop, show s.length - (s.length - j) = j by omega]; exact hr4⟩⟩)
            clear hr4 hk4 HF c0 c1 c2 f1
            go_wp2_with fail
            go_roundg (gk - 1)
            case measure => omega
            case rel => exact HX.out _ (by omega)
          · have q2 : ((c.toNat : Int) < 32) = False := eq_false (by omega)
            by_cases h92 : c = 92
            · have q3 : ((c.toNat : Int) == 92) = true := b8t h92
              have HTE : Hid (txt (s.drop i) = (match esc (s.drop j) with
                | .fin r => .ok [] r
                | .err no r => .err no r
                | .emit b r => (txt r).pre b : TO).pre l) := Lib.hid (by rw [HTX.out, tstep_cons, if_neg h34, if_neg h32, if_pos h92, HDG.out])
              have HES := Lib.hid (escapeR_any rb s j wh' w2 HR2.out hs hlt)
              clear h34 h32 h92
              go_wp2_with fail
              refine HES.out.mono ?_
              rintro x w4 ⟨v4, b, rfl, ho4, hk4, hx4⟩
              obtain ⟨A5, c5, rfl, hr5⟩ := ownY_reads ho4
              have HO4 := Lib.hid (ownY_kr HO2.out hk4 HRB.out)
              have HK4 := Lib.hid (kr_trans HK2.out hk4)
              have HBW4 : Hid (w.heap.size ≤ w4.heap.size) := Lib.hid (Nat.le_trans HBW2.out (kr_size hk4))
              have HR5 := Lib.hid hr5
              have HX4 := Lib.hid hx4
              have hbl : b.length ≤ s.length := by
                rcases hx4 with ⟨r, _, he, _⟩ | ⟨_, r, h0, _⟩
                · have := (esc_emit he).1; rw [List.length_drop] at this; omega
                · subst h0; simp
              clear ho4 hk4 hx4 hr5 HES c0 c1 c2 f1
              go_wp2_with (at_builtin; go_loud (refine wpList_rowK w4 rfl _ _ rfl w.heap.size _ l b HO4.out rfl HBW4.out _ _ _ _ rfl HR5.out (by omega) ?_; rintro _ w5 m5 hm h1 ⟨A6, c6, rfl⟩ h2; have HO5 := Lib.hid h1; have HKY := Lib.hid h2; have HM5 := Lib.hid hm; clear h1 h2 hm))
              have HX : Hid (TxR rb s i w (gk - 1) (.slice A6 m5.length c6) w5) := Lib.hid (by
                rcases HX4.out with ⟨r, wh2, he, hr4⟩ | ⟨no, r, h0, h1, he, hr4⟩
                · have hel := esc_emit he
                  rw [List.length_drop] at hel
                  refine ⟨m5, HO5.out, ?_, kr_ky HK4.out HKY.out, .inl ⟨s.length - r.length, wh2, by omega, by omega, ?_, ?_, rb_ky hr4 HKY.out⟩⟩
                  · rw [HM5.out, List.length_append]; omega
                  · rw [HM5.out, List.length_append]; omega
                  · rw [HTE.out, he, HM5.out]
                    have : s.drop (s.length - r.length) = r := esc_rest he
                    rw [this]
                    exact TO.pre_pre _ _ _
                · subst h0
                  refine ⟨m5, HO5.out, by rw [HM5.out, List.append_nil]; exact hl, kr_ky HK4.out HKY.out, .inr ⟨no, r, j, by omega, h1, hj, by rw [HTE.out, he]; rfl, rb_ky hr4 HKY.out⟩⟩)
              go_roundg (gk - 1)
              case measure => omega
              case rel => exact HX.out
            · have q3 : ((c.toNat : Int) == 92) = false := b8f h92
              have HTE : Hid (txt (s.drop i) = (txt (s.drop (j + 1))).pre (l ++ [c])) := Lib.hid (by rw [HTX.out, tstep_cons, if_neg h34, if_neg h32, if_neg h92]; exact TO.pre_pre _ _ _)
              clear h34 h32 h92
              go_upto_region 8 with (at_builtin; go_loud (refine wpList_byteK w2 rfl _ _ rfl w.heap.size _ l c HO2.out rfl rfl HBW2.out rfl (by omega) ?_; rintro _ w5 m5 hm h1 ⟨A6, c6, rfl⟩ h2; have HO5 := Lib.hid h1; have HKY := Lib.hid h2; have HM5 := Lib.hid hm; clear h1 h2 hm))
              have HR5 := Lib.hid (rb_ky HR2.out HKY.out)
              have HK5 := Lib.hid (kr_ky HK2.out HKY.out)
              clear c0 c1 c2 f1
              obtain ⟨c0, c1, c2, _⟩ := HR5.out.cells
              have f1 := Blk.frozen HR5.out 1
              go_wp2_with fail
              have HX : Hid (TxR rb s i w (gk - 1) (.slice A6 m5.length c6) (w5.setCell ⟨rb, 1, none⟩ (.int .i64 ((j : Int) + 1)))) := Lib.hid (by
                refine ⟨m5, own_at HO5.out fun b hb => Below.heap_setCell _ _ _ b (by have := (own_lt HO5.out hb).1; have := HRB.out; show b ≠ rb; omega), by rw [HM5.out, List.length_append]; simp; omega, kr_set HK5.out _, .inl ⟨j + 1, wh', by omega, by omega, by rw [HM5.out, List.length_append]; simp; omega, by rw [HM5.out]; exact HTE.out, by have := HR5.out.at_ (j + 1); push_cast at this; exact this⟩⟩)
              go_roundg (gk - 1)
              case measure => omega
              case rel => exact HX.out
      · have HE := Lib.hid (endR_t rb s j 0 wh' wr HR.out (by omega))
        have HTE : Hid (txt (s.drop i) = .err 2 []) := Lib.hid (by rw [HT.out, List.drop_eq_nil_of_le (by omega)]; rfl)
        go_wp2_with fail
        refine HE.out.mono ?_
        rintro x wx ⟨rfl, n1, rfl⟩
        have HR1 : Hid (Rb (wr.drewN n1) rb s j 0 wh') := Lib.hid HR.out
        have HK1 : Hid (KR rb w (wr.drewN n1)) := Lib.hid (Kp.drewN HK.out n1)
        clear c0 c1 c2 HR HK HO HBW HE
        generalize wr.drewN n1 = w1 at HR1 HK1 ⊢
        obtain ⟨c0, c1, c2, _⟩ := HR1.out.cells
        have HF := Lib.hid (failR_any rb s j wh' 2 j w1 HR1.out)
        go_wp2_with fail
        refine HF.out.mono ?_
        rintro x w4 ⟨rfl, hr4, hk4⟩
        have HX : Hid (TxP rb s i w (.returned (.string ⟨([] : List UInt8).toArray⟩)) w4) := Lib.hid ⟨[], rfl, kr_trans HK1.out hk4, .inr ⟨2, [], j, rfl, by decide, hj, HTE.out, by rw [List.length_nil, show s.length - 0 = j by omega]; exact hr4⟩⟩
        clear hr4 hk4 HF c0 c1 c2
        go_wp2
        go_ret
        exact HX.out
    · have HR := Lib.hid hrb
      have HX : Hid (TxP rb s i w (.returned (.string ⟨([] : List UInt8).toArray⟩)) wr) := Lib.hid ⟨[], rfl, HK.out, .inr ⟨no, r, j, rfl, h1, hj, htx, hrb⟩⟩
      obtain ⟨_, _, c2, _⟩ := hrb.cells
      have e0 : ((no : Int) == 0) = false := by rw [beq_eq_false_iff_ne]; omega
      clear htx hrb
      go_wp2
      go_ret
      exact HX.out
-- >
end Js
end Go.Proofs.YtlfeddgpfaigkaaGreatDoor
