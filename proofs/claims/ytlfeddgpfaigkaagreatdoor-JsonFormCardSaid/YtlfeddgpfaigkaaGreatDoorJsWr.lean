/-
  The walk of package json's write at this seat's translation: a node's form behind what a builder holds.
-/
import Derived.Test.YtlfeddgpfaigkaaGreatDoorJsWp
namespace Go.Proofs.YtlfeddgpfaigkaaGreatDoor
open Go.RowKit
namespace Js
def WrC (n : Nat) : Prop := ∀ (d : Nat) (h : Hd) (k : F) (u : Value) (S : Nat → Prop) (b : Nat) (l : List UInt8) (w : World), k.sz ≤ n → trimH h = h → trimK h k = k → wrongs d h k = 0 → Okh h → k.All Okh → TV (encN false) w S h k [u] → (∀ x, S x → x < b) → 9 ≤ b → Bd b l w → St w →
  l.length + (form h k).length ≤ 1099511627776 → Calls Tryz.prog 37 #[.pointer (some ⟨b, 0, none⟩), u] w fun x w' => x = .returned (.tuple #[]) ∧ Bd b (l ++ form h k) w' ∧ KeepB b w w'
theorem at_u {us : List Value} {i : Nat} {u : Value} (h : us[i]? = some u) : (us.drop (i * 1)).take 1 = [u] := by
  rw [Nat.mul_one]
  have hlt2 : i < us.length := by
    rcases Nat.lt_or_ge i us.length with h1 | h1
    · exact h1
    · rw [List.getElem?_eq_none h1] at h; cases h
  rw [List.drop_eq_getElem_cons hlt2]
  rw [List.getElem?_eq_getElem hlt2] at h
  injection h with h
  simp [h]
theorem ta_number_plain (v : Value) (w : World) : (Instr.typeAssert (.iface 153 v) 87 152 true).run Tryz.prog w = .ok (.tuple #[.int .i64 0, .bool false]) w := by kernel_rfl
theorem ta_text_plain (v : Value) (w : World) : (Instr.typeAssert (.iface 154 v) 87 152 true).run Tryz.prog w = .ok (.tuple #[.int .i64 0, .bool false]) w := by kernel_rfl
theorem ta_text_number (v : Value) (w : World) : (Instr.typeAssert (.iface 154 v) 87 153 true).run Tryz.prog w = .ok (.tuple #[.int .i64 0, .bool false]) w := by kernel_rfl
theorem ta_list_plain (v : Value) (w : World) : (Instr.typeAssert (.iface 158 v) 87 152 true).run Tryz.prog w = .ok (.tuple #[.int .i64 0, .bool false]) w := by kernel_rfl
theorem ta_list_number (v : Value) (w : World) : (Instr.typeAssert (.iface 158 v) 87 153 true).run Tryz.prog w = .ok (.tuple #[.int .i64 0, .bool false]) w := by kernel_rfl
theorem ta_list_text (v : Value) (w : World) : (Instr.typeAssert (.iface 158 v) 87 154 true).run Tryz.prog w = .ok (.tuple #[.string .empty, .bool false]) w := by kernel_rfl
theorem ta_object_plain (v : Value) (w : World) : (Instr.typeAssert (.iface 161 v) 87 152 true).run Tryz.prog w = .ok (.tuple #[.int .i64 0, .bool false]) w := by kernel_rfl
theorem ta_object_number (v : Value) (w : World) : (Instr.typeAssert (.iface 161 v) 87 153 true).run Tryz.prog w = .ok (.tuple #[.int .i64 0, .bool false]) w := by kernel_rfl
theorem ta_object_text (v : Value) (w : World) : (Instr.typeAssert (.iface 161 v) 87 154 true).run Tryz.prog w = .ok (.tuple #[.string .empty, .bool false]) w := by kernel_rfl
theorem ta_object_list (v : Value) (w : World) : (Instr.typeAssert (.iface 161 v) 87 158 true).run Tryz.prog w = .ok (.tuple #[.slice none 0 0, .bool false]) w := by kernel_rfl
theorem ta_plain (v : Value) (w : World) : (Instr.typeAssert (.iface 152 v) 87 152 true).run Tryz.prog w = .ok (.tuple #[v, .bool true]) w := by kernel_rfl
theorem ta_number (v : Value) (w : World) : (Instr.typeAssert (.iface 153 v) 87 153 true).run Tryz.prog w = .ok (.tuple #[v, .bool true]) w := by kernel_rfl
theorem ta_text (v : Value) (w : World) : (Instr.typeAssert (.iface 154 v) 87 154 true).run Tryz.prog w = .ok (.tuple #[v, .bool true]) w := by kernel_rfl
theorem ta_list (v : Value) (w : World) : (Instr.typeAssert (.iface 158 v) 87 158 true).run Tryz.prog w = .ok (.tuple #[v, .bool true]) w := by kernel_rfl
theorem ta_object (v : Value) (w : World) : (Instr.typeAssert (.iface 161 v) 87 161 true).run Tryz.prog w = .ok (.tuple #[v, .bool true]) w := by kernel_rfl
theorem len_le_sumL : ∀ l : List (List UInt8), (∀ x ∈ l, 1 ≤ x.length) → l.length ≤ sumL l
  | [], _ => Nat.zero_le _
  | x :: r, h => by
    have h1 := len_le_sumL r fun y hy => h y (List.mem_cons_of_mem _ hy)
    have h2 := h x (List.mem_cons_self ..)
    rw [sumL_cons, List.length_cons]
    omega
/-- What lies beside the builder while an object is written. -/
def WM (g bm L : Nat) (ks : List (List UInt8)) (cs : Array Value) (B : Nat) (v : Value) (xs : List Value) (w : World) : Prop := Idx w bm L ks ∧ Blk w g 161 cs ∧ w.ownsRow B 9 1 v L xs
theorem WM.keep {g bm L b B : Nat} {ks : List (List UInt8)} {cs : Array Value} {v : Value} {xs : List Value} {w w' : World} (h : WM g bm L ks cs B v xs w) (hk : KeepB b w w') (h1 : bm ≠ b) (h2 : g ≠ b) (h3 : v.ownBlock ≠ some b) : WM g bm L ks cs B v xs w' :=
  ⟨h.1.keep hk h1, blk_keep h.2.1 hk (by decide) h2, own_keep h.2.2 hk (by decide) h3⟩
theorem not_mem_take {l : List (List UInt8)} (hn : l.Nodup) {j : Nat} (hj : j < l.length) : l.getD j [] ∉ l.take j := by
  intro h
  have e : l = l.take j ++ l.getD j [] :: l.drop (j + 1) := by
    have h1 := List.take_append_drop j l
    rw [List.drop_eq_getElem_cons hj] at h1
    rw [List.getD, List.getElem?_eq_getElem hj]
    exact h1.symm
  rw [e, List.nodup_append] at hn
  exact hn.2.2 _ h _ (List.mem_cons_self ..) rfl
-- <
set_option maxHeartbeats 16000000 in
set_option maxRecDepth 100000 in
theorem wr_step (n : Nat) (hW : ∀ m, m < n → WrC m) : WrC n := by
  intro d h k u S b l w hk ht1 ht2 hw hok hak htv hS hnb hb hst hlen
  have HW := Lib.hid hW
  have HK := Lib.hid hk
  have HAK := Lib.hid hak
  have HS := Lib.hid hS
  have HB := Lib.hid hb
  have HST := Lib.hid hst
  have HOK := Lib.hid hok
  have hbw : b < w.heap.size := hb.lt
  obtain ⟨e0, e1⟩ := wrongs_zero hw
  obtain ⟨_, ekl, ekh, ekl6, _, ek6⟩ := own_zero e0
  clear hW hk hak hS hb hst hok hw
  rcases node_kinds htv ht1 ht2 with ⟨z, rfl, rfl, rfl, z3, z4, z5, z6⟩ | ⟨z, rfl, rfl, rfl⟩ | ⟨t, rfl, rfl, rfl⟩ | ⟨A, c, us, rfl, rfl, htk, hkl, r1, r2⟩ | ⟨A, c, us, A', c', ks, rfl, rfl, htk, hkl, hksl, r1, r2, r3⟩
  · simp only [plainH] at ekl ekh
    have hz : z = 0 ∨ z = 1 ∨ z = 2 := by omega
    clear ht1 ht2 htv e0 e1 ekl ekh ekl6 ek6 z3 z4 z5 z6
    rcases hz with rfl | rfl | rfl
    all_goals
      have hL : l.length + 5 ≤ 140737488355328 := by omega
      have q_me := ta_plain
      go_enter Tryz.func37, Tryz.ntmps37
      go_wp2_with fail
      refine Calls.mono (writeString_b b l _ _ (Bd.step HB.out ((Below.refl _ _).alloc (Nat.le_refl _) _)) ?hs) ?_
      case hs => exact Nat.le_trans (Nat.add_le_add_left (show ByteArray.size _ ≤ 5 by decide) _) hL
      rintro x w1 ⟨rfl, hB1, hk1⟩
      have HB1 := Lib.hid hB1
      have HK1 := Lib.hid ((keep_alloc (KeepB.refl b w) (Nat.le_of_lt hbw) _).trans hk1)
      clear hB1 hk1
      go_wp2
      go_end0
      exact ⟨rfl, HB1.out, HK1.out⟩
  · have HF := Lib.hid (format_any z HOK.out.2.1 HOK.out.2.2 w HST.out)
    have HL : Hid (l.length + (decI z).length ≤ 140737488355328) := Lib.hid (by
      have : (form ⟨3, z, [], []⟩ .nil).length = (decI z).length := rfl
      omega)
    clear ht1 ht2 htv e0 e1 ekl ekh ekl6 ek6
    have q_me := ta_number
    have q_plain := ta_number_plain
    go_enter Tryz.func37, Tryz.ntmps37
    go_wp2_with fail
    refine HF.out.mono ?_
    rintro x w1 ⟨rfl, hb1⟩
    have HK0 := Lib.hid (keep_step (KeepB.refl b w) hb1 (Nat.le_refl _) (Nat.le_of_lt hbw))
    have HB0 := Lib.hid (Bd.step HB.out hb1)
    clear hb1
    go_wp2_with fail
    refine (writeString_b b l _ _ HB0.out (by simp only [ByteArray.size, List.size_toArray]; exact HL.out)).mono ?_
    rintro x w2 ⟨rfl, hB1, hk1⟩
    have HB1 := Lib.hid hB1
    have HK1 := Lib.hid (HK0.out.trans hk1)
    clear hB1 hk1
    go_wp2
    go_end0
    exact ⟨rfl, HB1.out, HK1.out⟩
  · have HQ := Lib.hid (quote_any b l t w HB.out (by have := HOK.out.1.1; simp only at this; omega))
    clear ht1 ht2 htv e0 e1 ekl ekh ekl6 ek6
    have q_me := ta_text
    have q_plain := ta_text_plain
    have q_number := ta_text_number
    go_enter Tryz.func37, Tryz.ntmps37
    go_wp2_with fail
    refine HQ.out.mono ?_
    rintro x w1 ⟨rfl, hB1, hk1⟩
    have HB1 := Lib.hid hB1
    have HK1 := Lib.hid hk1
    clear hB1 hk1 HQ
    go_wp2
    go_end0
    exact ⟨rfl, HB1.out, HK1.out⟩
  · have e5 := e1 (show (5 : Int) ≤ 5 by decide)
    have HE := Lib.hid e5
    have HR := Lib.hid (r1.reads HS.out)
    have HTR := Lib.hid r2
    have HTK : Hid (trim k = k) := Lib.hid htk
    have HFM : Hid (form (plainH 5) k = 91 :: (commas (forms k) ++ [93])) := Lib.hid rfl
    have HLEN : Hid (l.length + (commas (forms k)).length + 2 ≤ 1099511627776) := Lib.hid (by
      have := hlen
      rw [HFM.out] at this
      simp at this
      omega)
    rw [HFM.out]
    obtain ⟨L, hL⟩ : ∃ L, L = k.len := ⟨_, rfl⟩
    have HL := Lib.hid hL
    rw [← hL] at HR hkl ⊢
    clear ht1 ht2 htv e0 e1 ekl ekh ekl6 ek6 r1 r2 htk hlen e5 hL
    have q_me := ta_list
    have q_plain := ta_list_plain
    have q_number := ta_list_number
    have q_text := ta_list_text
    go_enter Tryz.func37, Tryz.ntmps37
    go_wp2_with fail
    refine (writeByte_b b l 91 _ HB.out (by have := HLEN.out; omega)).mono ?_
    rintro x w1 ⟨rfl, hB1, hk1⟩
    have HB1 := Lib.hid hB1
    have HK1 := Lib.hid hk1
    clear hB1 hk1 HB
    go_wp2_with fail
    go_loopw [46] (fun i wr => ∃ j : Nat, j ≤ L ∧ i = .int .i64 j ∧ Hid (Bd b (l ++ 91 :: commas ((forms k).take j)) wr) ∧ Hid (KeepB b w wr)) (fun i _ => L - (intOf i).toNat)
    case atStart => exact ⟨0, by omega, rfl, Lib.hid (by simpa [commas] using HB1.out), HK1⟩
    case round =>
      clear HB1 HK1
      obtain ⟨j, hj, rfl, HBJ, HKJ⟩ := hrel
      by_cases hlt : j < L
      · obtain ⟨ad, u, rfl, _, hu, hc⟩ := (HR.out.below HKJ.out.below).at_ hlt
        obtain ⟨h0, kk, he, hsz, htv⟩ := HTR.out.at_ (i := j) (by have := HL.out; omega)
        obtain ⟨ht1, ht2⟩ := trim_at HTK.out he
        have htv1 : TV (encN false) w S h0 kk [u] := at_u hu ▸ htv
        obtain ⟨hok0, hak0⟩ := All_at HAK.out he
        obtain ⟨T0, y0, rfl⟩ := htv1.iface
        have HTV := Lib.hid (htv1.kept (w' := wr) fun p hp => HKJ.out.below.cell (HS.out _ hp))
        have HC : Hid (∀ (l' : List UInt8) (wx : World), KeepB b wr wx → Bd b l' wx → l'.length + (form h0 kk).length ≤ 1099511627776 → Calls Tryz.prog 37 #[.pointer (some ⟨b, 0, none⟩), .iface T0 y0] wx fun x w' => x = .returned (.tuple #[]) ∧ Bd b (l' ++ form h0 kk) w' ∧ KeepB b wx w') :=
          Lib.hid fun l' wx hkx hbx hlx => HW.out kk.sz (by have := HK.out; omega) (d + 1) h0 kk _ S b l' wx (Nat.le_refl _) ht1 ht2 (wrongsF_at HE.out he) hok0 hak0 (HTV.out.kept fun p hp => hkx.below.cell (HS.out _ hp)) HS.out hnb hbx (HST.out.keep (HKJ.out.trans hkx) hnb) hlx
        have HTF : Hid (commas ((forms k).take (j + 1)) = if j = 0 then form h0 kk else commas ((forms k).take j) ++ 44 :: form h0 kk) := Lib.hid (commas_take (forms_at he))
        have HCL : Hid ((commas ((forms k).take (j + 1))).length ≤ (commas (forms k)).length) := Lib.hid (commas_take_le _ _)
        clear htv htv1 ht1 ht2 hu he hsz hok0 hak0
        by_cases h0' : j = 0
        · have hpos : (0 < (j : Int)) = False := eq_false (by omega)
          have hc0 : wr.cell? ad = some (.iface T0 y0) := by
            have h1 := hc
            subst h0'
            simpa [Addr.add] using h1
          have HB2 := Lib.hid (HC.out _ wr (KeepB.refl _ _) HBJ.out (by
            have h1 := HCL.out
            rw [HTF.out, if_pos h0'] at h1
            have := HLEN.out
            subst h0'
            simp [commas]; omega))
          go_wp2_with fail
          refine HB2.out.mono ?_
          rintro x w2 ⟨rfl, hB2, hk2⟩
          have HB3 : Hid (Bd b (l ++ 91 :: commas ((forms k).take (j + 1))) w2) := Lib.hid (by rw [HTF.out, if_pos h0']; subst h0'; simpa [commas] using hB2)
          have HK3 := Lib.hid (HKJ.out.trans hk2)
          clear hB2 hk2 HB2
          go_wp2
          go_roundw
          case rel => exact ⟨j + 1, by omega, by go_num, HB3, HK3⟩
          case measure => simp [intOf]; omega
        · have hpos : (0 < (j : Int)) = True := eq_true (by omega)
          have hl1 : l.length + (commas ((forms k).take j)).length + 2 + (form h0 kk).length ≤ 1099511627776 := by
            have h1 := HCL.out
            rw [HTF.out, if_neg h0', List.length_append, List.length_cons] at h1
            have := HLEN.out
            omega
          have HW1 := Lib.hid (writeByte_b b _ 44 wr HBJ.out (by simp; omega))
          go_wp2_with fail
          refine HW1.out.mono ?_
          rintro x w2 ⟨rfl, hB2, hk2⟩
          have HB2 := Lib.hid (HC.out _ w2 hk2 hB2 (by simp; omega))
          have HKK := Lib.hid hk2
          clear hB2 hk2 HW1
          go_wp2_with fail
          refine HB2.out.mono ?_
          rintro x w3 ⟨rfl, hB3, hk3⟩
          have HB3 : Hid (Bd b (l ++ 91 :: commas ((forms k).take (j + 1))) w3) := Lib.hid (by rw [HTF.out, if_neg h0']; simpa using hB3)
          have HK3 := Lib.hid (HKJ.out.trans (HKK.out.trans hk3))
          clear hB3 hk3 HB2
          go_wp2
          go_roundw
          case rel => exact ⟨j + 1, by omega, by go_num, HB3, HK3⟩
          case measure => simp [intOf]; omega
      · have hjL : j = L := by omega
        subst hjL
        have HB1 : Hid (Bd b (l ++ 91 :: commas (forms k)) wr) := Lib.hid (by
          have h1 := HBJ.out
          rwa [List.take_of_length_le (by rw [forms_len, HL.out]; exact Nat.le_refl _)] at h1)
        have HW1 := Lib.hid (writeByte_b b _ 93 wr HB1.out (by have := HLEN.out; simp; omega))
        go_wp2_with fail
        refine HW1.out.mono ?_
        rintro x w2 ⟨rfl, hB2, hk2⟩
        have HB3 : Hid (Bd b (l ++ 91 :: (commas (forms k) ++ [93])) w2) := Lib.hid (by simpa using hB2)
        have HK3 := Lib.hid (HKJ.out.trans hk2)
        clear hB2 hk2
        go_wp2
        go_end0
        exact ⟨rfl, HB3.out, HK3.out⟩
  · have e6 := e1 (show (5 : Int) ≤ 6 by decide)
    have hnd : ks.Nodup := nodup_of_dupL (ek6 rfl).2
    have hlk : ks.length = k.len := ekl6 rfl
    have HE := Lib.hid e6
    have HND := Lib.hid hnd
    have HR := Lib.hid (r1.reads HS.out)
    have HTR := Lib.hid r2
    have HRK := Lib.hid (r3.reads HS.out)
    have HTK : Hid (trim k = k) := Lib.hid htk
    obtain ⟨P, hP⟩ : ∃ P, P = sortK (ks.zip (forms k)) := ⟨_, rfl⟩
    have HFM : Hid (form ⟨6, 0, [], ks⟩ k = 123 :: (commas (P.map member) ++ [125])) := Lib.hid (by rw [hP]; rfl)
    have HPL : Hid (P.length = ks.length) := Lib.hid (by rw [hP, (sortK_perm _).length_eq, List.length_zip, forms_len, hlk, Nat.min_self])
    have HPA : Hid (∀ (i : Nat) (x y : List UInt8), P[i]? = some (x, y) → ∃ j, ks[j]? = some x ∧ (forms k)[j]? = some y ∧ j < ks.length) := Lib.hid (fun i x y h => sortK_at (by rw [← hP]; exact h))
    have HSO : Hid (∀ ss : List (List UInt8), ss.Perm ks → ss.mergeSort (fun x y => decide (x ≤ y)) = P.map Prod.fst) := Lib.hid (fun ss h => by rw [hP]; exact sort_keys hnd (by rw [forms_len]; exact hlk) h)
    have HLEN : Hid (l.length + (commas (P.map member)).length + 2 ≤ 1099511627776) := Lib.hid (by
      have := hlen
      rw [HFM.out] at this
      simp at this
      omega)
    rw [HFM.out]
    have HKX : Hid (∀ x ∈ ks, x.length ≤ 4398046511104) := Lib.hid HOK.out.1.2
    obtain ⟨L, hL⟩ : ∃ L, L = ks.length := ⟨_, rfl⟩
    have HL := Lib.hid hL
    have HLK : Hid (L = k.len) := Lib.hid (hL.trans hlk)
    have HLB : Hid (L ≤ 1099511627776) := Lib.hid (by
      have h1 := HLEN.out
      rw [commas_len, List.length_map, HPL.out, ← hL] at h1
      have h2 := len_le_sumL (P.map member) (fun x hx => by
        obtain ⟨p, _, rfl⟩ := List.mem_map.1 hx
        simp [member]; omega)
      rw [List.length_map, HPL.out, ← hL] at h2
      omega)
    rw [← hL] at HRK hksl ⊢
    rw [← HLK.out] at HR hkl ⊢
    clear ht1 ht2 htv e0 e1 ekl ekh ekl6 ek6 r1 r2 r3 htk hlen e6 hL hnd hlk hP
    have hmm := @run_makeMap Tryz.prog
    have q_me := ta_object
    have q_plain := ta_object_plain
    have q_number := ta_object_number
    have q_text := ta_object_text
    have q_list := ta_object_list
    have hok1 : w.heap.size ≠ b := by omega
    obtain ⟨wz, hwz⟩ : ∃ wz, wz = w.alloc (.cells #[.slice A' L c', .slice A L c] 161) := ⟨_, rfl⟩
    have HO : Hid (Blk wz w.heap.size 161 #[.slice A' L c', .slice A L c]) := Lib.hid (by rw [hwz]; exact Blk.new _ _ _)
    have HKZ : Hid (KeepB b w wz) := Lib.hid (by rw [hwz]; exact keep_alloc (KeepB.refl b w) (Nat.le_of_lt hbw) _)
    have HBZ : Hid (Bd b l wz) := Lib.hid (by rw [hwz]; exact Bd.step HB.out ((Below.refl _ _).alloc (Nat.le_refl _) _))
    go_enter Tryz.func37, Tryz.ntmps37
    go_wp2_with fail
    rw [← hwz]
    clear hwz
    refine (writeByte_b b l 123 wz HBZ.out (by have := HLEN.out; omega)).mono ?_
    rintro x w1 ⟨rfl, hB1, hk1⟩
    have HO1 := Lib.hid (blk_keep HO.out hk1 (by decide) hok1)
    have HB1 := Lib.hid hB1
    have HK1 := Lib.hid (HKZ.out.trans hk1)
    have HGM : Hid (w.heap.size < w1.heap.size ∧ b < w1.heap.size) := Lib.hid ⟨HO1.out.lt, hB1.lt⟩
    clear hB1 hk1 HO HKZ HBZ HB
    have c0 := (HO1.out.alloc (.map #[] 0)).cell 0
    have c0' := (HO1.out.alloc (.map #[] 0)).frozen 0
    go_wp2_with fail
    go_loopw [70] (fun i wr => ∃ j : Nat, j ≤ L ∧ i = .int .i64 j ∧ Hid (Idx wr w1.heap.size j (ks.take j)) ∧ Hid (Bd b (l ++ [123]) wr) ∧ Hid (KeepB b w wr) ∧ Hid (Blk wr w.heap.size 161 #[.slice A' L c', .slice A L c])) (fun i _ => L - (intOf i).toNat)
    case atStart => exact ⟨0, by omega, rfl, Lib.hid (Idx.made _), Lib.hid (Bd.step HB1.out ((Below.refl _ _).alloc (Nat.le_refl _) _)), Lib.hid (keep_alloc HK1.out (Nat.le_of_lt HGM.out.2) _), Lib.hid (HO1.out.alloc _)⟩
    case round =>
      clear HB1 HK1 HO1 c0 c0'
      obtain ⟨j, hj, rfl, HI, HBJ, HKJ, HOJ⟩ := hrel
      by_cases hlt : j < L
      · obtain ⟨ad, u, rfl, _, hu, hc⟩ := (HRK.out.below HKJ.out.below).at_ hlt
        have hlt2 : j < ks.length := by have := HL.out; omega
        have hxu := tx_get hu hlt2
        subst hxu
        have HX : Hid (ks.take (j + 1) = ks.take j ++ [ks.getD j []]) := Lib.hid (by rw [List.take_succ_eq_append_getElem hlt2]; simp [List.getD, List.getElem?_eq_getElem hlt2])
        have HXN : Hid (ks.getD j [] ∉ ks.take j) := Lib.hid (not_mem_take HND.out hlt2)
        have HXL : Hid ((ks.getD j []).length ≤ 4398046511104) := Lib.hid (HKX.out _ (by simp [List.getD, List.getElem?_eq_getElem hlt2]))
        have HTL : Hid ((ks.take j).length = j) := Lib.hid (by rw [List.length_take]; omega)
        generalize ks.getD j [] = x at hc hu HX HXN HXL
        have hjb : j ≤ 1099511627776 := by have := HLB.out; omega
        clear hu
        go_wp2_with (at_mapUpdate; refine wpList_idx rfl _ _ _ rfl rfl HI.out Tryz.underlying167 hjb x HXN.out (by rw [HTL.out]; exact hjb) rfl (by rw [HTL.out]; rfl) (by have := HXL.out; omega) ?_; intro w7 hs7 hg7)
        go_roundw
        case rel => exact ⟨j + 1, by omega, by go_num, Lib.hid (by rw [HX.out]; exact hs7), Lib.hid (bd_map HBJ.out HI.out hg7), Lib.hid (keep_grown HKJ.out hg7 (Nat.le_of_lt HGM.out.1) (Nat.le_of_lt HGM.out.2) (by have := HBJ.out.lt; omega)), Lib.hid (blk_map HOJ.out HI.out hg7)⟩
        case measure => simp [intOf]; omega
      · have hjL : j = L := by omega
        subst hjL
        have HI1 : Hid (Idx wr w1.heap.size j ks) := Lib.hid (by
          have h1 := HI.out
          have e : ks.take j = ks := by rw [HL.out]; exact List.take_length
          rw [e] at h1
          exact h1)
        have HSRT := Lib.hid (sorted_any HI1.out HND.out (by rw [← HL.out]; exact HLB.out))
        clear HI
        go_wp2_with fail
        refine (keys_any w1.heap.size wr).mono ?_
        rintro x w2 ⟨rfl, rfl⟩
        go_wp2_with fail
        refine HSRT.out.mono ?_
        rintro x w3 ⟨v, ss, rfl, hperm, hrow, hb3⟩
        rw [HSO.out ss hperm, hperm.length_eq, ← HL.out] at hrow
        have hbw3 : Below wr.heap.size wr w3 := ((Below.refl _ wr).alloc (Nat.le_refl _) _).trans (hb3.mono (by omega))
        have HK3 := Lib.hid (keep_step HKJ.out hbw3 (keep_size HKJ.out) (Nat.le_of_lt HBJ.out.lt))
        have HB3 := Lib.hid (Bd.step HBJ.out hbw3)
        have HVB : Hid (v.ownBlock ≠ some b) := Lib.hid (fun e => by have := (own_lt hrow e).1; have := HBJ.out.lt; omega)
        have HM3 : Hid (WM w.heap.size w1.heap.size j ks #[.slice A' j c', .slice A j c] (wr.heap.size + 1) v (tx (P.map Prod.fst)) w3) := Lib.hid ⟨HI1.out.block (hbw3.block _ HI1.out.lt), HOJ.out.below hbw3 HOJ.out.lt, hrow⟩
        obtain ⟨A2, c2, rfl, _⟩ := own_readsN hrow
        have hbm : w1.heap.size ≠ b := by have := HGM.out.2; omega
        have HPJ : Hid (P.length = j) := Lib.hid (HPL.out.trans HL.out.symm)
        generalize wr.heap.size + 1 = B3 at HM3
        clear hrow hb3 hbw3 HKJ HBJ HOJ HSRT HI1 hperm
        obtain ⟨wq, hwq⟩ : ∃ wq, wq = wr := ⟨_, rfl⟩
        subst hwq
        go_wp2_with fail
        go_loopw [83] (fun i wr => ∃ q : Nat, q ≤ j ∧ i = .int .i64 q ∧ Hid (Bd b (l ++ 123 :: commas ((P.map member).take q)) wr) ∧ Hid (KeepB b w wr) ∧ Hid (WM w.heap.size w1.heap.size j ks #[.slice A' j c', .slice A j c] B3 (.slice A2 j c2) (tx (P.map Prod.fst)) wr)) (fun i _ => j - (intOf i).toNat)
        case atStart => exact ⟨0, by omega, rfl, Lib.hid (by simpa [commas] using HB3.out), HK3, HM3⟩
        case round =>
          clear HB3 HK3 HM3
          obtain ⟨q, hq, rfl, HBQ, HKQ, HMQ⟩ := hrel
          by_cases hlt : q < j
          · obtain ⟨p, hp⟩ : ∃ p, P[q]? = some p := ⟨P[q]'(by rw [HPJ.out]; exact hlt), List.getElem?_eq_getElem _⟩
            obtain ⟨x, y⟩ := p
            obtain ⟨q2, hk1, hk2, hq2⟩ := HPA.out q x y hp
            have hq2j : q2 < j := by have := HL.out; omega
            obtain ⟨h0, kk, he, hsz, htv⟩ := HTR.out.at_ (i := q2) (by have := HLK.out; omega)
            have hy : y = form h0 kk := by
              have h1 := forms_at he
              rw [hk2] at h1
              exact Option.some.inj h1
            subst hy
            obtain ⟨ht1, ht2⟩ := trim_at HTK.out he
            obtain ⟨hok0, hak0⟩ := All_at HAK.out he
            have HTF : Hid (commas ((P.map member).take (q + 1)) = if q = 0 then member (x, form h0 kk) else commas ((P.map member).take q) ++ 44 :: member (x, form h0 kk)) := Lib.hid (commas_take (by rw [List.getElem?_map, hp]; rfl))
            have HCL : Hid ((commas ((P.map member).take (q + 1))).length ≤ (commas (P.map member)).length) := Lib.hid (commas_take_le _ _)
            have HXL : Hid (x.length ≤ 4398046511104) := Lib.hid (HKX.out x (List.mem_of_getElem? hk1))
            have HKI := Lib.hid hk1
            obtain ⟨ad2, u2, e2, _, hu2, hc2⟩ := (Reads.of_own HMQ.out.2.2).at_ hlt
            have hxu := tx_get hu2 (by rw [List.length_map, HPJ.out]; exact hlt)
            have hgx : (P.map Prod.fst).getD q [] = x := by simp [List.getD, hp]
            rw [hgx] at hxu
            subst hxu
            obtain ⟨ad3, u3, e3, _, hu3, hc3⟩ := (HR.out.below HKQ.out.below).at_ hq2j
            have htv1 : TV (encN false) w S h0 kk [u3] := at_u hu3 ▸ htv
            obtain ⟨T0, y0, rfl⟩ := htv1.iface
            subst e2 e3
            have HTV := Lib.hid (htv1.kept (w' := wr) fun p hp => HKQ.out.below.cell (HS.out _ hp))
            have HC : Hid (∀ (l' : List UInt8) (wx : World), KeepB b wr wx → Bd b l' wx → l'.length + (form h0 kk).length ≤ 1099511627776 → Calls Tryz.prog 37 #[.pointer (some ⟨b, 0, none⟩), .iface T0 y0] wx fun x w' => x = .returned (.tuple #[]) ∧ Bd b (l' ++ form h0 kk) w' ∧ KeepB b wx w') :=
              Lib.hid fun l' wx hkx hbx hlx => HW.out kk.sz (by have := HK.out; omega) (d + 1) h0 kk _ S b l' wx (Nat.le_refl _) ht1 ht2 (wrongsF_at HE.out he) hok0 hak0 (HTV.out.kept fun p hp => hkx.below.cell (HS.out _ hp)) HS.out hnb hbx (HST.out.keep (HKQ.out.trans hkx) hnb) hlx
            have HC3 := Lib.hid (show ∀ wx, KeepB b wr wx → wx.cell? (ad3.add q2) = some (.iface T0 y0) from fun wx hkx => by
              obtain ⟨ad', e', hb', _⟩ := (HR.out.below HKQ.out.below).2 (by omega)
              injection e' with e'
              subst e'
              exact (hkx.below.cell (by rw [block_of_add]; exact hb')).trans hc3)
            clear htv htv1 ht1 ht2 he hsz hok0 hak0 hu2 hu3 hk1 hk2 hgx hp hc3
            generalize form h0 kk = y at HC HTF
            have hmem : (member (x, y)).length = (quoted x).length + 1 + y.length := by simp [member]; omega
            have hql := quoted_len x
            have HCUT : Hid (∀ l0 : List UInt8, l0.length ≤ l.length + 1 + (commas ((P.map member).take q)).length + 1 → (q = 0 → l0.length ≤ l.length + 1) → l0.length + ((quoted x).length + 1 + y.length) ≤ 1099511627776) := Lib.hid (fun l0 h1 h2 => by
              have h3 := HCL.out
              have h4 := HLEN.out
              rw [HTF.out] at h3
              by_cases e : q = 0
              · rw [if_pos e] at h3; have := h2 e; omega
              · rw [if_neg e, List.length_append, List.length_cons] at h3; omega)
            by_cases h0' : q = 0
            · have hpos : (0 < (q : Int)) = False := eq_false (by omega)
              have hc20 : wr.cell? ad2 = some (.string ⟨x.toArray⟩) := by
                have h1 := hc2
                subst h0'
                simpa [Addr.add] using h1
              have HQ1 := Lib.hid (quote_any b _ x wr HBQ.out (by
                have := HLEN.out
                have := HXL.out
                subst h0'
                simp [commas]; omega))
              go_wp2_with fail
              refine HQ1.out.mono ?_
              rintro z w2 ⟨rfl, hB2, hk2⟩
              have HB2 : Hid (Bd b (l ++ 123 :: quoted x) w2) := Lib.hid (by subst h0'; simpa [commas] using hB2)
              have HK2 := Lib.hid hk2
              clear hB2 hk2 HQ1
              have HQ2 := Lib.hid (writeByte_b b _ 58 w2 HB2.out (by
                have := HCUT.out l (by omega) (fun _ => by omega)
                simp; omega))
              go_wp2_with fail
              refine HQ2.out.mono ?_
              rintro z w3 ⟨rfl, hB3, hk3⟩
              have HB3 := Lib.hid hB3
              have HK3 := Lib.hid (HK2.out.trans hk3)
              clear hB3 hk3 HQ2
              have HM3 := Lib.hid (HMQ.out.keep HK3.out hbm hok1 HVB.out)
              have c1 := HM3.out.2.1.cell 1
              have f1 := HM3.out.2.1.frozen 1
              have hlk := HM3.out.1.look Tryz.underlying167 HKI.out (by have := HXL.out; omega)
              have hc3 := HC3.out w3 HK3.out
              have HQ3 := Lib.hid (HC.out _ w3 HK3.out HB3.out (by
                have := HCUT.out (l ++ [123]) (by simp; omega) (fun _ => by simp)
                simp at this ⊢; omega))
              go_wp2_with fail
              refine HQ3.out.mono ?_
              rintro z w4 ⟨rfl, hB4, hk4⟩
              have HB4 : Hid (Bd b (l ++ 123 :: commas ((P.map member).take (q + 1))) w4) := Lib.hid (by rw [HTF.out, if_pos h0']; simpa [member] using hB4)
              have HK4 := Lib.hid (HKQ.out.trans (HK3.out.trans hk4))
              have HM4 := Lib.hid (HM3.out.keep hk4 hbm hok1 HVB.out)
              clear hB4 hk4 c1 f1 hlk hc3
              go_wp2
              go_roundw
              case rel => exact ⟨q + 1, by omega, by go_num, HB4, HK4, HM4⟩
              case measure => simp [intOf]; omega
            · have hpos : (0 < (q : Int)) = True := eq_true (by omega)
              have HQ0 := Lib.hid (writeByte_b b _ 44 wr HBQ.out (by
                have := HCUT.out (l ++ 123 :: commas ((P.map member).take q)) (by simp; omega) (fun e => absurd e h0')
                simp at this ⊢; omega))
              go_wp2_with fail
              refine HQ0.out.mono ?_
              rintro z w1' ⟨rfl, hB1', hk1'⟩
              have HB1' : Hid (Bd b (l ++ 123 :: commas ((P.map member).take q) ++ [44]) w1') := Lib.hid hB1'
              have HK1' := Lib.hid hk1'
              have hlen0 : (l ++ 123 :: commas ((P.map member).take q) ++ [44]).length = l.length + 1 + (commas ((P.map member).take q)).length + 1 := by simp; omega
              have HBE : Hid (∀ wx, Bd b ((l ++ 123 :: commas ((P.map member).take q) ++ [44]) ++ quoted x ++ [58] ++ y) wx → Bd b (l ++ 123 :: commas ((P.map member).take (q + 1))) wx) := Lib.hid (fun wx h => by rw [HTF.out, if_neg h0']; simpa [member] using h)
              generalize l ++ 123 :: commas ((P.map member).take q) ++ [44] = l1 at HB1' hlen0 HBE
              clear hB1' hk1' HQ0
              have HQ1 := Lib.hid (quote_any b l1 x w1' HB1'.out (by
                have := HLEN.out
                have := HXL.out
                have := HCUT.out l1 (by omega) (fun e => absurd e h0')
                omega))
              go_wp2_with fail
              refine HQ1.out.mono ?_
              rintro z w2 ⟨rfl, hB2, hk2⟩
              have HB2 := Lib.hid hB2
              have HK2 := Lib.hid (HK1'.out.trans hk2)
              clear hB2 hk2 HQ1
              have HQ2 := Lib.hid (writeByte_b b _ 58 w2 HB2.out (by
                have := HCUT.out l1 (by omega) (fun e => absurd e h0')
                simp; omega))
              go_wp2_with fail
              refine HQ2.out.mono ?_
              rintro z w3 ⟨rfl, hB3, hk3⟩
              have HB3 := Lib.hid hB3
              have HK3 := Lib.hid (HK2.out.trans hk3)
              clear hB3 hk3 HQ2
              have HM3 := Lib.hid (HMQ.out.keep HK3.out hbm hok1 HVB.out)
              have c1 := HM3.out.2.1.cell 1
              have f1 := HM3.out.2.1.frozen 1
              have hlk := HM3.out.1.look Tryz.underlying167 HKI.out (by have := HXL.out; omega)
              have hc3 := HC3.out w3 HK3.out
              have HQ3 := Lib.hid (HC.out _ w3 HK3.out HB3.out (by
                have := HCUT.out l1 (by omega) (fun e => absurd e h0')
                simp; omega))
              go_wp2_with fail
              refine HQ3.out.mono ?_
              rintro z w4 ⟨rfl, hB4, hk4⟩
              have HB4 := Lib.hid (HBE.out _ hB4)
              have HK4 := Lib.hid (HKQ.out.trans (HK3.out.trans hk4))
              have HM4 := Lib.hid (HM3.out.keep hk4 hbm hok1 HVB.out)
              clear hB4 hk4 c1 f1 hlk hc3
              go_wp2
              go_roundw
              case rel => exact ⟨q + 1, by omega, by go_num, HB4, HK4, HM4⟩
              case measure => simp [intOf]; omega
          · have hqj : q = j := by omega
            subst hqj
            have HB1 : Hid (Bd b (l ++ 123 :: commas (P.map member)) wr) := Lib.hid (by
              have h1 := HBQ.out
              rwa [List.take_of_length_le (by rw [List.length_map, HPJ.out]; exact Nat.le_refl _)] at h1)
            have HW1 := Lib.hid (writeByte_b b _ 125 wr HB1.out (by have := HLEN.out; simp; omega))
            go_wp2_with fail
            refine HW1.out.mono ?_
            rintro x w2 ⟨rfl, hB2, hk2⟩
            have HB4 : Hid (Bd b (l ++ 123 :: (commas (P.map member) ++ [125])) w2) := Lib.hid (by simpa using hB2)
            have HK4 := Lib.hid (HKQ.out.trans hk2)
            clear hB2 hk2
            go_wp2
            go_end0
            exact ⟨rfl, HB4.out, HK4.out⟩
-- >
theorem wr_any (n : Nat) : WrC n := by
  induction n using Nat.strongRecOn with
  | ind n ih => exact wr_step n ih
end Js
end Go.Proofs.YtlfeddgpfaigkaaGreatDoor
