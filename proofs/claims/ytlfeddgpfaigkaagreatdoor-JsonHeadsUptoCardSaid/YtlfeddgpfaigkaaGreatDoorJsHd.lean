/-
  The walk of the law JsonHeads at this seat's translation, for every value of at most 2^20 values and letters, every number and byte.
-/
import Derived.Test.YtlfeddgpfaigkaaGreatDoorJsBk
import Derived.Test.YtlfeddgpfaigkaaGreatDoorByt
namespace Go.Proofs.YtlfeddgpfaigkaaGreatDoor
open Go.RowKit
namespace Js
theorem norm_kind (h : Hd) (k : F) : (norm h k).1.kind = h.kind := by
  unfold norm normV
  by_cases h3 : h.kind = 3
  · rw [if_pos h3]; exact h3.symm
  rw [if_neg h3]
  by_cases h4 : h.kind = 4
  · rw [if_pos h4]; exact h4.symm
  rw [if_neg h4]
  by_cases h5 : h.kind = 5
  · rw [if_pos h5]; exact h5.symm
  rw [if_neg h5]
  by_cases h6 : h.kind = 6
  · rw [if_pos h6]; exact h6.symm
  · rw [if_neg h6]; rfl
/-- No proper beginning is read. -/
theorem parse_head {h : Hd} {k : F} (hw : wrongs 1 h k = 0) (hh : NumOk h) (hn : k.All NumOk) (h3 : h.kind ≠ 3) {p : Nat} (hp : p < (form h k).length) : ∃ no r, parse ((form h k).take p) = .err no r := by
  cases hx : parse ((form h k).take p) with
  | err no r => exact ⟨no, r, rfl⟩
  | ok h1 k1 r =>
    obtain ⟨_, _, _, q, hv, _⟩ := parse_ok hx
    exact (heads (form_rds hw hh hn) (by rw [norm_kind]; exact h3) (List.take_append_drop p _) (by
      intro e
      have := congrArg List.length e
      rw [List.length_drop, List.length_nil] at this
      omega) hv).elim
/-- With a byte behind. -/
theorem parse_behind {h : Hd} {k : F} (hw : wrongs 1 h k = 0) (hh : NumOk h) (hn : k.All NumOk) (h3 : h.kind ≠ 3) (c : UInt8) :
    (blank c = true ∧ (form h k).length < 4194304 ∧ parse (form h k ++ [c]) = .ok (norm h k).1 (norm h k).2 []) ∨ (¬ (blank c = true ∧ (form h k).length < 4194304) ∧ ∃ no r, parse (form h k ++ [c]) = .err no r) := by
  by_cases hl : (form h k).length < 4194304
  · have hv : val 1 (form h k ++ [c]) = .ok (norm h k).1 (norm h k).2 [c] := (form_rds hw hh hn).2 [c] (fun e => absurd ((norm_kind h k).symm.trans e) h3)
    have hwf := wrong_form hw
    by_cases hb : blank c = true
    · have hc : c.toNat < 128 := by
        unfold blank at hb
        simp only [Bool.or_eq_true, beq_iff_eq] at hb
        rcases hb with ((rfl | rfl) | rfl) | rfl <;> decide
      have hw1 : wrong (form h k ++ [c]) = none := by rw [wrong_app hwf]; exact wrong_one hc wrong_nil
      exact .inl ⟨hb, hl, parse_of (by rw [List.length_append]; simp; omega) hw1 hv (by unfold bl; rw [hb]; rfl)⟩
    · refine .inr ⟨fun e => hb e.1, ?_⟩
      by_cases hc : wrong (form h k ++ [c]) = none
      · exact ⟨_, _, pa_long (by rw [List.length_append]; simp; omega) hc hv (c := c) (q := []) (by unfold bl; rw [Bool.not_eq_true] at hb; rw [hb]; rfl)⟩
      · cases hr : wrong (form h k ++ [c]) with
        | none => exact absurd hr hc
        | some r => exact ⟨_, _, pa_wrong (by rw [List.length_append]; simp; omega) hr⟩
  · exact .inr ⟨fun e => hl e.2, _, _, pa_many (by rw [List.length_append]; simp; omega)⟩
theorem pick_any (n : Int) (k : Nat) (hk : 1 ≤ k) (hk2 : k ≤ 1099511627776) (w : World) :
    Calls Tryz.prog 25 #[.int .i64 n, .int .i64 k] w fun x w' => ∃ p : Nat, x = .returned (.int .i64 p) ∧ p < k ∧ w = w' := by
  have hk0 : ((k : Int) < 1) = False := eq_false (by omega)
  have hkn : ((k : Int) == 0) = false := by rw [beq_eq_false_iff_ne]; omega
  have hb1 : n.tmod (k : Int) < k := Int.tmod_lt_of_pos n (by omega)
  have hb2 : -(k : Int) < n.tmod (k : Int) := by
    have h2 := Int.tmod_lt_of_pos (-n) (show (0 : Int) < (k : Int) by omega)
    rw [Int.neg_tmod] at h2
    omega
  by_cases h2 : n.tmod (k : Int) < 0
  · obtain ⟨p, hp⟩ : ∃ p : Nat, n.tmod (k : Int) + k = p := ⟨(n.tmod (k : Int) + k).toNat, by omega⟩
    have h2' : (n.tmod (k : Int) < 0) = True := eq_true h2
    go_enter Tryz.func25, Tryz.ntmps25
    go_wp2
    go_ret
    exact ⟨p, by rw [← hp]; rfl, by omega, rfl⟩
  · obtain ⟨p, hp⟩ : ∃ p : Nat, n.tmod (k : Int) = p := ⟨(n.tmod (k : Int)).toNat, by omega⟩
    have h2' : (n.tmod (k : Int) < 0) = False := eq_false h2
    go_enter Tryz.func25, Tryz.ntmps25
    go_wp2
    go_ret
    exact ⟨p, by rw [← hp]; rfl, by omega, rfl⟩
theorem blank_is (c : UInt8) : ((c.toNat : Int) == 32 || (c.toNat : Int) == 9 || (c.toNat : Int) == 10 || (c.toNat : Int) == 13) = blank c := by
  have := all_bytes (p := fun c => ((c.toNat : Int) == 32 || (c.toNat : Int) == 9 || (c.toNat : Int) == 10 || (c.toNat : Int) == 13) == blank c) (by decide +kernel) c
  simpa using this
theorem eq_nil_iface (T : TypeId) (v : Value) (wx : World) : (binOp .eql 31 (.iface T v) .nilIface).run Tryz.prog wx = .ok (.bool false) wx := by kernel_rfl
theorem blank5 (c : UInt8) :
    (((c.toNat : Int) == 32) = true ∧ blank c = true) ∨ (((c.toNat : Int) == 32) = false ∧ ((c.toNat : Int) == 9) = true ∧ blank c = true) ∨
    (((c.toNat : Int) == 32) = false ∧ ((c.toNat : Int) == 9) = false ∧ ((c.toNat : Int) == 10) = true ∧ blank c = true) ∨
    (((c.toNat : Int) == 32) = false ∧ ((c.toNat : Int) == 9) = false ∧ ((c.toNat : Int) == 10) = false ∧ ((c.toNat : Int) == 13) = true ∧ blank c = true) ∨
    (((c.toNat : Int) == 32) = false ∧ ((c.toNat : Int) == 9) = false ∧ ((c.toNat : Int) == 10) = false ∧ ((c.toNat : Int) == 13) = false ∧ blank c = false) := by
  have h := blank_is c
  cases e1 : ((c.toNat : Int) == 32) <;> cases e2 : ((c.toNat : Int) == 9) <;> cases e3 : ((c.toNat : Int) == 10) <;> cases e4 : ((c.toNat : Int) == 13) <;> rw [e1, e2, e3, e4] at h <;> simp at h <;> simp [← h]
-- <
set_option maxHeartbeats 4000000 in
set_option maxRecDepth 100000 in
theorem jsonHeads_any (h : Hd) (k : F) (iv kv : Value) (n : Int) (c : UInt8) (w : World) (hm : (F.cons h k .nil).mass ≤ 1048576) (hn : NumOk h) (hkn : k.All NumOk) (htv : TV encJ w (· < w.heap.size) h k (jcells h iv kv)) (hst : St w) :
    Calls Tryz.prog 7 #[.agg #[.int .i64 h.kind, .int .i64 h.num, .string ⟨h.text.toArray⟩, iv, kv], .int .i64 n, .int .u8 c.toNat] w fun x w' => x = .returned (.bool true) ∧ Below w.heap.size w w' := by
  obtain ⟨A1, c1, A2, c2, us, rfl, rfl, _⟩ := tv_parts htv
  have hfit := F.fit_mass (B := 1048576) (by decide) (.cons h k .nil) hm
  have HOK : Hid (Okh h ∧ k.All Okh) := Lib.hid ⟨⟨hfit.1, hn⟩, All_and hfit.2.1 hkn⟩
  have HNN := Lib.hid (And.intro hn hkn)
  have HFB : Hid ((form h k).length ≤ 1099511627776) := Lib.hid (by have := form_mass hn hkn; omega)
  obtain ⟨wz, hwz⟩ : ∃ wz, wz = w.alloc (.cells #[.int .i64 h.kind, .int .i64 h.num, .string ⟨h.text.toArray⟩, .slice A1 k.len c1, .slice A2 h.keys.length c2] 25) := ⟨_, rfl⟩
  have HBA : Hid (Blk wz w.heap.size 25 #[.int .i64 h.kind, .int .i64 h.num, .string ⟨h.text.toArray⟩, .slice A1 k.len c1, .slice A2 h.keys.length c2]) := Lib.hid (by rw [hwz]; exact Blk.new _ _ _)
  have HZ : Hid (Below w.heap.size w wz ∧ w.heap.size < wz.heap.size) := Lib.hid (by rw [hwz]; exact ⟨(Below.refl _ _).alloc (Nat.le_refl _) _, by simp⟩)
  have HTVX : Hid (∀ wx, Below w.heap.size w wx → TV encJ wx (· < w.heap.size) h k (jcells h (.slice A1 k.len c1) (.slice A2 h.keys.length c2))) := Lib.hid (fun wx hb => htv.kept fun p hp => hb.cell hp)
  have HST := Lib.hid hst
  have HG := Lib.hid (great_any h k _ _ (· < w.heap.size) wz hm (HTVX.out wz HZ.out.1) (fun b hb => by have := HZ.out.2; omega))
  have hnn := neq_nil
  clear hfit hn hkn htv hst hm
  go_enter Tryz.func7, Tryz.ntmps7
  go_wp2_with fail
  rw [← hwz]
  clear hwz
  refine HG.out.mono ?_
  rintro x w1 ⟨b, rfl, hb1⟩
  have HB1 := Lib.hid (HBA.out.below hb1 HBA.out.lt)
  have HW1 : Hid (Below w.heap.size w w1) := Lib.hid (HZ.out.1.trans (hb1.mono HZ.out.1.size))
  clear hb1 HG
  have d0 := HB1.out.cell 0
  have d1 := HB1.out.cell 1
  have d2 := HB1.out.cell 2
  have d3 := HB1.out.cell 3
  have d4 := HB1.out.cell 4
  cases b
  · have HPR := Lib.hid (print_any h k _ _ (· < w.heap.size) w1 HOK.out.1 HOK.out.2 (HTVX.out w1 HW1.out) (fun b hb => by have := HW1.out.size; omega) (HST.out.below HW1.out) (fun _ => HFB.out))
    go_wp2_with fail
    refine HPR.out.mono ?_
    rintro x w2 ⟨hb2, hx⟩
    have HB2 := Lib.hid (HB1.out.below hb2 HB1.out.lt)
    have HW2 : Hid (Below w.heap.size w w2) := Lib.hid (HW1.out.trans (hb2.mono HW1.out.size))
    clear hb2 HPR d0 d1 d2 d3 d4 HB1
    have d0 := HB2.out.cell 0
    rcases hx with ⟨h0, rfl⟩ | ⟨h0, rfl⟩
    · have HWR : Hid (wrongs 1 h k = 0) := Lib.hid (by
        unfold printed at h0
        by_cases e : wrongs 1 h k = 0
        · exact e
        · rw [if_pos e] at h0; exact h0)
      have HFL : Hid ((form h k).length ≤ 4194304) := Lib.hid (by
        unfold printed at h0
        rw [if_neg (by rw [HWR.out]; simp)] at h0
        by_cases hl : 4194304 < (form h k).length
        · rw [if_pos hl] at h0; cases h0
        · omega)
      clear h0
      by_cases h3 : h.kind = 3
      · have q3 : (h.kind == 3) = true := by rw [beq_iff_eq]; exact h3
        have HWK := Lib.hid (works_any w2 (HST.out.below HW2.out))
        clear h3
        go_wp2_with fail
        refine HWK.out.mono ?_
        rintro x w3 ⟨rfl, hb3⟩
        have HW3 : Hid (Below w.heap.size w w3) := Lib.hid (HW2.out.trans (hb3.mono HW2.out.size))
        clear hb3 HWK
        go_wp2
        go_ret
        exact ⟨rfl, HW3.out⟩
      · have q3 : (h.kind == 3) = false := by rw [beq_eq_false_iff_ne]; exact h3
        have HHD : Hid (∀ p, p < (form h k).length → ∃ no r, parse ((form h k).take p) = .err no r) := Lib.hid (fun p hp => parse_head HWR.out HNN.out.1 HNN.out.2 h3 hp)
        have HBH := Lib.hid (parse_behind HWR.out HNN.out.1 HNN.out.2 h3 c)
        have HLP : Hid (1 ≤ (form h k).length) := Lib.hid (by
          obtain ⟨c0, r0, e, _⟩ := formH_beg h (forms k)
          show 1 ≤ (formH h (forms k)).length
          rw [e]; simp)
        clear h3
        generalize form h k = t at HFL HFB HHD HBH HLP
        have hlp := HLP.out
        have hfl := HFL.out
        have HPK := Lib.hid (pick_any n t.length hlp (by omega) w2)
        go_wp2_with fail
        refine HPK.out.mono ?_
        rintro x w3 ⟨p, rfl, hp, rfl⟩
        have hsl := fun wx => run_slice_to_list Tryz.underlying9 t .i64 (p : Int) p rfl (by omega) wx
        obtain ⟨no, r, hpe⟩ := HHD.out p hp
        have HPA := Lib.hid hpe
        have HP2 := Lib.hid (parse_any (t.take p) w2 (HST.out.below HW2.out))
        clear hpe
        generalize t.take p = tp at hsl HPA HP2
        go_wp2_with fail
        refine HP2.out.mono ?_
        rintro x w4 hx
        unfold PaPost at hx
        rw [HPA.out] at hx
        obtain ⟨a, _, rfl, hb4⟩ := hx
        have HW4 : Hid (Below w.heap.size w w4) := Lib.hid (HW2.out.trans (hb4.mono HW2.out.size))
        clear hb4 HP2 HPK d0
        unfold zeroJ faultV
        obtain ⟨w5, hw5⟩ : ∃ w5, w5 = w4.alloc (.cells #[.int .i64 0, .int .i64 0, .string ByteArray.empty, .slice none 0 0, .slice none 0 0] 25) := ⟨_, rfl⟩
        have hb45 : Below w4.heap.size w4 w5 := by rw [hw5]; exact (Below.refl _ _).alloc (Nat.le_refl _) _
        have HW5 : Hid (Below w.heap.size w w5) := Lib.hid (HW4.out.trans (hb45.mono HW4.out.size))
        clear hb45
        go_upto_region 7 with fail
        rw [← hw5]
        clear hw5
        obtain ⟨w6, hw6⟩ : ∃ w6, w6 = w5.alloc (.cells #[.int .u8 (c.toNat : Int)] 5) := ⟨_, rfl⟩
        have hcv := run_convert_reads (P := Tryz.prog) Tryz.underlying74 Tryz.underlying5 Tryz.underlying9 1 (l := [c]) (by
          have e : Lib.byteCells [c] = [.int .u8 (c.toNat : Int)] := by simp [Lib.byteCells]
          rw [e]
          exact Reads.of_block (n := 1) (size := 1) (heap_alloc_new w5 (.cells #[.int .u8 (c.toNat : Int)] 5)) rfl)
        have hb56 : Below w5.heap.size w5 w6 := by rw [hw6]; exact (Below.refl _ _).alloc (Nat.le_refl _) _
        have HW6 : Hid (Below w.heap.size w w6) := Lib.hid (HW5.out.trans (hb56.mono HW5.out.size))
        have hadd : (⟨t.toArray⟩ : ByteArray) ++ ⟨#[c]⟩ = ⟨(t ++ [c]).toArray⟩ := by apply ByteArray.ext; simp
        have HP3 := Lib.hid (parse_any (t ++ [c]) w6 (HST.out.below HW6.out))
        clear hb56
        go_wp2_with fail
        rw [← hw6]
        clear hw6
        refine HP3.out.mono ?_
        rintro x w7 hx
        unfold PaPost at hx
        clear HP3 hcv hadd
        have hnq := eq_nil_iface
        rcases HBH.out with ⟨hbl, hll, hpe⟩ | ⟨hbl, no2, r2, hpe⟩
        · rw [hpe] at hx
          obtain ⟨iv, kv, bs, rfl, hot, _, hb7⟩ := hx
          obtain ⟨⟨A3, c3, rfl⟩, A4, c4, rfl⟩ := ot_form hot
          have HW7 : Hid (Below w.heap.size w w7) := Lib.hid (HW6.out.trans (hb7.mono HW6.out.size))
          clear hot hb7 hpe
          generalize (norm h k).1 = h' at HBH ⊢
          generalize (norm h k).2 = k' at HBH ⊢
          have l1 : ((t.length : Int) < 4194304) = True := eq_true (by omega)
          obtain ⟨w8, hw8⟩ : ∃ w8, w8 = w7.alloc (.cells #[.int .i64 h'.kind, .int .i64 h'.num, .string ⟨h'.text.toArray⟩, .slice A3 k'.len c3, .slice A4 h'.keys.length c4] 25) := ⟨_, rfl⟩
          have HW8 : Hid (Below w.heap.size w w8) := Lib.hid (by rw [hw8]; exact HW7.out.alloc (by have := HW7.out.size; omega) _)
          go_upto_region 8 with fail
          rw [← hw8]
          clear hw8
          have HWK := Lib.hid (works_any w8 (HST.out.below HW8.out))
          rcases blank5 c with ⟨q1, hb⟩ | ⟨q1, q2, hb⟩ | ⟨q1, q2, q4, hb⟩ | ⟨q1, q2, q4, q5, hb⟩ | ⟨q1, q2, q4, q5, hb⟩
          · go_wp2_with fail
            refine HWK.out.mono ?_
            rintro x w9 ⟨rfl, hb9⟩
            have HW9 : Hid (Below w.heap.size w w9) := Lib.hid (HW8.out.trans (hb9.mono HW8.out.size))
            clear hb9 HWK
            go_wp2
            go_ret
            exact ⟨rfl, HW9.out⟩
          · go_wp2_with fail
            refine HWK.out.mono ?_
            rintro x w9 ⟨rfl, hb9⟩
            have HW9 : Hid (Below w.heap.size w w9) := Lib.hid (HW8.out.trans (hb9.mono HW8.out.size))
            clear hb9 HWK
            go_wp2
            go_ret
            exact ⟨rfl, HW9.out⟩
          · go_wp2_with fail
            refine HWK.out.mono ?_
            rintro x w9 ⟨rfl, hb9⟩
            have HW9 : Hid (Below w.heap.size w w9) := Lib.hid (HW8.out.trans (hb9.mono HW8.out.size))
            clear hb9 HWK
            go_wp2
            go_ret
            exact ⟨rfl, HW9.out⟩
          · go_wp2_with fail
            refine HWK.out.mono ?_
            rintro x w9 ⟨rfl, hb9⟩
            have HW9 : Hid (Below w.heap.size w w9) := Lib.hid (HW8.out.trans (hb9.mono HW8.out.size))
            clear hb9 HWK
            go_wp2
            go_ret
            exact ⟨rfl, HW9.out⟩
          · rw [hb] at hbl; cases hbl
        · rw [hpe] at hx
          obtain ⟨a2, _, rfl, hb7⟩ := hx
          have HW7 : Hid (Below w.heap.size w w7) := Lib.hid (HW6.out.trans (hb7.mono HW6.out.size))
          clear hb7 hpe
          unfold zeroJ faultV
          obtain ⟨w8, hw8⟩ : ∃ w8, w8 = w7.alloc (.cells #[.int .i64 0, .int .i64 0, .string ByteArray.empty, .slice none 0 0, .slice none 0 0] 25) := ⟨_, rfl⟩
          have HW8 : Hid (Below w.heap.size w w8) := Lib.hid (by rw [hw8]; exact HW7.out.alloc (by have := HW7.out.size; omega) _)
          go_upto_region 8 with fail
          rw [← hw8]
          clear hw8
          have HWK := Lib.hid (works_any w8 (HST.out.below HW8.out))
          rcases blank5 c with ⟨q1, hb⟩ | ⟨q1, q2, hb⟩ | ⟨q1, q2, q4, hb⟩ | ⟨q1, q2, q4, q5, hb⟩ | ⟨q1, q2, q4, q5, hb⟩
          · have l1 : ((t.length : Int) < 4194304) = False := eq_false (fun e => hbl ⟨hb, by omega⟩)
            go_wp2_with fail
            refine HWK.out.mono ?_
            rintro x w9 ⟨rfl, hb9⟩
            have HW9 : Hid (Below w.heap.size w w9) := Lib.hid (HW8.out.trans (hb9.mono HW8.out.size))
            clear hb9 HWK
            go_wp2
            go_ret
            exact ⟨rfl, HW9.out⟩
          · have l1 : ((t.length : Int) < 4194304) = False := eq_false (fun e => hbl ⟨hb, by omega⟩)
            go_wp2_with fail
            refine HWK.out.mono ?_
            rintro x w9 ⟨rfl, hb9⟩
            have HW9 : Hid (Below w.heap.size w w9) := Lib.hid (HW8.out.trans (hb9.mono HW8.out.size))
            clear hb9 HWK
            go_wp2
            go_ret
            exact ⟨rfl, HW9.out⟩
          · have l1 : ((t.length : Int) < 4194304) = False := eq_false (fun e => hbl ⟨hb, by omega⟩)
            go_wp2_with fail
            refine HWK.out.mono ?_
            rintro x w9 ⟨rfl, hb9⟩
            have HW9 : Hid (Below w.heap.size w w9) := Lib.hid (HW8.out.trans (hb9.mono HW8.out.size))
            clear hb9 HWK
            go_wp2
            go_ret
            exact ⟨rfl, HW9.out⟩
          · have l1 : ((t.length : Int) < 4194304) = False := eq_false (fun e => hbl ⟨hb, by omega⟩)
            go_wp2_with fail
            refine HWK.out.mono ?_
            rintro x w9 ⟨rfl, hb9⟩
            have HW9 : Hid (Below w.heap.size w w9) := Lib.hid (HW8.out.trans (hb9.mono HW8.out.size))
            clear hb9 HWK
            go_wp2
            go_ret
            exact ⟨rfl, HW9.out⟩
          · go_wp2_with fail
            refine HWK.out.mono ?_
            rintro x w9 ⟨rfl, hb9⟩
            have HW9 : Hid (Below w.heap.size w w9) := Lib.hid (HW8.out.trans (hb9.mono HW8.out.size))
            clear hb9 HWK
            go_wp2
            go_ret
            exact ⟨rfl, HW9.out⟩
    · have HWK := Lib.hid (works_any w2 (HST.out.below HW2.out))
      unfold errnoV
      clear h0
      go_wp2_with fail
      refine HWK.out.mono ?_
      rintro x w3 ⟨rfl, hb3⟩
      have HW3 : Hid (Below w.heap.size w w3) := Lib.hid (HW2.out.trans (hb3.mono HW2.out.size))
      clear hb3 HWK
      go_wp2
      go_ret
      exact ⟨rfl, HW3.out⟩
  · go_wp2
    go_ret
    exact ⟨rfl, HW1.out⟩
-- >
end Js
end Go.Proofs.YtlfeddgpfaigkaaGreatDoor
