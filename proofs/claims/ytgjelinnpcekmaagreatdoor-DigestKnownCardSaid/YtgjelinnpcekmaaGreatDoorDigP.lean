/-
  The walk of stratalaw03.DigestParted at this seat's translation.
-/
import Derived.Test.YtgjelinnpcekmaaGreatDoorWks
import Derived.Test.YtgjelinnpcekmaaGreatDoorLaw
namespace Go.Proofs.YtgjelinnpcekmaaGreatDoor
open Go.RowKit Sha Plain

theorem flat_len (l : List (List UInt8)) : l.flatten.length = total l := by
  induction l with
  | nil => rfl
  | cons p l ih => simp [total] at *
theorem total_take (l : List (List UInt8)) (k : Nat) : total (l.take k) ≤ total l := by
  have h : total l = total (l.take k) + total (l.drop k) := by
    conv => lhs; rw [← List.take_append_drop k l]
    rw [total_append]
  omega
theorem flat_succ (l : List (List UInt8)) (k : Nat) (hk : k < l.length) : (l.take (k + 1)).flatten = (l.take k).flatten ++ l.getD k [] := by
  rw [List.take_succ_eq_append_getElem hk, List.flatten_append]
  simp [List.getD, List.getElem?_eq_getElem hk]
theorem eq_dig {i5 : TypeInfo} (hi5 : Tryz.prog.info? 5 = some i5) (z : Int) (s : List UInt8) (w : World) : (binOp .eql 25 (digV z s) (digV z s)).run Tryz.prog w = .ok (.bool true) w := by
  have := run_eql_bytes (P := Tryz.prog) Tryz.underlying25 Tryz.underlying5 Bld.cellsByte hi5 (Sha.digest z s) (Sha.digest z s) (Sha.digest_length _ _) (Sha.digest_length _ _) w
  rw [decide_eq_true rfl] at this
  exact this
theorem info5 : ∃ i5, Tryz.prog.info? 5 = some i5 := by
  cases h : Tryz.prog.info? 5 with
  | none => have := u8One; rw [h] at this; cases this
  | some i => exact ⟨i, rfl⟩
theorem add_txt (s t : List UInt8) (h : s.length + t.length ≤ 140737488355328) (w : World) : (Op.stringOp .add ⟨s.toArray⟩ ⟨t.toArray⟩).run Tryz.prog w = .ok (.string ⟨(s ++ t).toArray⟩) w := by
  rw [run_string_add_sum w _ _ (by simp only [ByteArray.size, List.size_toArray]; omega), ByteArray.mk_append_mk]
/-- Sum of a hash that was given a text. -/
theorem hsum_text (g : Nat) (z : Int) (s : List UInt8) (w : World) (h : HshS w g ((width z : Nat) : Int) (init.bytes s)) (hk : KTab w) (hs : s.length < 144115188075855872) :
    Calls Tryz.prog 28 #[.pointer (some ⟨g, 0, none⟩)] w (DSumPost w z s) := by
  refine (hsum_any g (width z) _ w h hk hk.lt (width_le z).2 (by rw [HS.bytes_n]; simp [init]; omega)).mono ?_
  rintro e w' ⟨rfl, hb⟩
  rw [HS.sum_text]
  exact ⟨rfl, hb⟩
set_option maxHeartbeats 8000000 in
set_option maxRecDepth 100000 in
theorem digestParted_any (z : Int) (A : Option Addr) (n c : Nat) (l : List (List UInt8)) (w : World) (hr : Reads w w.heap.size 1 A n (tx l)) (hn : n ≤ 140737488355328) (hl : total l ≤ 1048576) (hk : KTab w) (ht : Tab10 w) :
    Calls Tryz.prog 13 #[.int .i64 z, .slice A n c] w fun e w' => e = .returned (.bool true) ∧ Below w.heap.size w w' := by
  have hll : l.length = n := by have := hr.1; rw [tx_length] at this; omega
  have sl := small_texts (show total l ≤ 1048576 by omega)
  have F1 := few_any A n c w.heap.size l w hr (by omega) (fun p hp => by have := sl p hp; omega)
  rw [decide_eq_true hl] at F1
  obtain ⟨i5, hi5⟩ := info5
  have HE := Lib.hid (eq_dig hi5)
  have HF1 := Lib.hid F1
  have HR := Lib.hid hr
  have HK := Lib.hid hk
  have HT := Lib.hid ht
  have HLL := Lib.hid hll
  have HL := Lib.hid hl
  clear hr hk ht hll sl F1 hi5 hl
  go_enter Tryz.func13, Tryz.ntmps13
  go_wp2_with fail
  refine HF1.out.mono ?_
  rintro e w' ⟨rfl, rfl⟩
  clear HF1
  go_wp2_with fail
  refine (new_any z w).mono ?_
  rintro e w1 ⟨rfl, hx1, hb1⟩
  have HX1 := Lib.hid hx1
  have HB1 := Lib.hid hb1
  clear hx1 hb1
  go_wp2_with fail
  refine (new_any z w1).mono ?_
  rintro e w2 ⟨rfl, hx2, hb2⟩
  have HX2 : Hid (HshS w2 w1.heap.size ((width z : Nat) : Int) (init.bytes (l.take 0).flatten)) := Lib.hid hx2
  have HY2 : Hid (HshS w2 w.heap.size ((width z : Nat) : Int) (init.bytes (l.take 0).flatten)) := Lib.hid (HX1.out.below hb2 HX1.out.lt)
  have HB2 := Lib.hid (HB1.out.trans (hb2.mono HB1.out.size))
  have HLT : Hid (w.heap.size < w1.heap.size) := Lib.hid HX1.out.lt
  clear hx2 hb2 HX1 HB1
  generalize w1.heap.size = g2 at HX2 HLT
  go_wp2_with fail
  go_loopw [7, 8] (fun s i wr => ∃ k : Nat, k ≤ n ∧ i = .int .i64 k ∧ s = .string ⟨((l.take k).flatten).toArray⟩ ∧ Hid (HshS wr g2 ((width z : Nat) : Int) (init.bytes (l.take k).flatten)) ∧ Hid (HshS wr w.heap.size ((width z : Nat) : Int) (init.bytes (l.take k).flatten)) ∧ Hid (Below w.heap.size w wr)) (fun _ i _ => n - (intOf i).toNat)
  case atStart => exact ⟨0, by omega, rfl, rfl, HX2, HY2, HB2⟩
  case round =>
    clear HX2 HY2 HB2
    obtain ⟨k, hk, rfl, rfl, HX, HY, HB⟩ := hrel
    by_cases hlt : k < n
    · obtain ⟨ad, u, rfl, hab, hu, _⟩ := HR.out.at_ hlt
      obtain rfl := tx_get hu (by have := HLL.out; omega)
      have HC : Hid (∀ w', Below w.heap.size w w' → w'.cell? (ad.add k) = some (.string ⟨(l.getD k []).toArray⟩)) := Lib.hid (fun w' hb => by
        obtain ⟨ad', h1, _, h3⟩ := (HR.out.below hb).2 (by omega)
        injection h1 with h1
        rw [h1]; exact h3 k _ hu)
      have HFS := Lib.hid (flat_succ l k (by have := HLL.out; omega))
      have hfl : (l.take k).flatten.length + (l.getD k []).length ≤ 1048576 := by
        have h1 := congrArg List.length HFS.out
        rw [flat_len, List.length_append] at h1
        have h2 := total_take_le l (k + 1)
        have := HL.out
        omega
      have hadd := add_txt (l.take k).flatten (l.getD k []) (by omega)
      rw [← HFS.out] at hadd
      have c0 := HC.out wr HB.out
      generalize l.getD k [] = p at hadd c0 HC HFS hfl
      have hsk : (l.take k).flatten.length ≤ 1048576 := by omega
      have hpk : p.length ≤ 1048576 := by omega
      obtain ⟨S0, hS0⟩ : ∃ S0, S0 = (l.take k).flatten := ⟨_, rfl⟩
      obtain ⟨S1, hS1⟩ : ∃ S1, S1 = (l.take (k + 1)).flatten := ⟨_, rfl⟩
      rw [← hS0] at HX HY hadd hsk
      rw [← hS1] at hadd
      have HS1 := Lib.hid hS1
      have HBY : Hid ((init.bytes S0).bytes p = init.bytes S1) := Lib.hid (by rw [hS1, HFS.out, hS0, HS.bytes_append])
      rw [← hS0]
      clear hS0 hS1 hu hfl
      go_upto_region 12 with fail
      clear c0 hadd
      have c0 := HC.out wr HB.out
      go_wp2_with fail
      refine (write_any w.heap.size _ _ p wr HY.out (HK.out.below HB.out) (HK.out.below HB.out).lt (by have := HK.out.lt; omega) (by rw [HS.bytes_n]; simp [init]; omega)).mono ?_
      rintro e w3 ⟨rfl, hx3, hg3⟩
      rw [HBY.out] at hx3
      have HY3 := Lib.hid hx3
      have HB3 := Lib.hid (HB.out.grown hg3 HB.out.size (by intro k hk; injection hk with hk; omega))
      have HX3 := Lib.hid (HX.out.grown hg3 (by intro h; injection h with h; have := HLT.out; omega))
      clear hx3 hg3 c0 HY HX HB
      have c0 := HC.out w3 HB3.out
      go_wp2_with fail
      refine (write_any g2 _ _ p w3 HX3.out (HK.out.below HB3.out) (HK.out.below HB3.out).lt (by have := HK.out.lt; have := HLT.out; omega) (by rw [HS.bytes_n]; simp [init]; omega)).mono ?_
      rintro e w4 ⟨rfl, hx4, hg4⟩
      rw [HBY.out] at hx4
      have HX4 := Lib.hid hx4
      have HB4 := Lib.hid (HB3.out.grown hg4 HB3.out.size (by intro k hk; injection hk with hk; have := HLT.out; omega))
      have HY4 := Lib.hid (HY3.out.grown hg4 (by intro h; injection h with h; have := HLT.out; omega))
      clear hx4 hg4 c0 HY3 HX3 HB3
      go_wp2_with fail
      refine (hsum_any g2 (width z) _ w4 HX4.out (HK.out.below HB4.out) (HK.out.below HB4.out).lt (width_le z).2 (by rw [← HBY.out, HS.bytes_n, HS.bytes_n]; simp [init]; omega)).mono ?_
      rintro e w5 ⟨rfl, hb5⟩
      have HX5 := Lib.hid (HX4.out.below hb5 HX4.out.lt)
      have HY5 := Lib.hid (HY4.out.below hb5 HY4.out.lt)
      have HB5 := Lib.hid (HB4.out.trans (hb5.mono HB4.out.size))
      clear hb5 HX4 HY4 HB4
      go_wp2
      go_roundw
      case rel => exact ⟨k + 1, by omega, by go_num, by rw [HS1.out], by rw [← HS1.out]; exact HX5, by rw [← HS1.out]; exact HY5, HB5⟩
      case measure => simp [intOf]; omega
    · have hkn : k = n := by omega
      have HFL : Hid ((l.take k).flatten.length ≤ 1048576) := Lib.hid (by have h1 := flat_len (l.take k); have := total_take_le l k; have := HL.out; omega)
      generalize (l.take k).flatten = S at HX HY HFL
      have hsl := HFL.out
      have hss := add_txt S S (by omega)
      go_wp2_with fail
      refine (write_any g2 _ _ S wr HX.out (HK.out.below HB.out) (HK.out.below HB.out).lt (by have := HK.out.lt; have := HLT.out; omega) (by rw [HS.bytes_n]; simp [init]; omega)).mono ?_
      rintro e w3 ⟨rfl, hx3, hg3⟩
      rw [← HS.bytes_append] at hx3
      have HX3 := Lib.hid hx3
      have HB3 := Lib.hid (HB.out.grown hg3 HB.out.size (by intro k hk; injection hk with hk; have := HLT.out; omega))
      have HY3 := Lib.hid (HY.out.grown hg3 (by intro h; injection h with h; have := HLT.out; omega))
      clear hx3 hg3 HX HY HB
      go_wp2_with fail
      refine (write_any g2 _ _ [] w3 HX3.out (HK.out.below HB3.out) (HK.out.below HB3.out).lt (by have := HK.out.lt; have := HLT.out; omega) (by rw [HS.bytes_n]; simp [init]; omega)).mono ?_
      rintro e w4 ⟨rfl, hx4, hg4⟩
      rw [← HS.bytes_append, List.append_nil] at hx4
      have HX4 := Lib.hid hx4
      have HB4 := Lib.hid (HB3.out.grown hg4 HB3.out.size (by intro k hk; injection hk with hk; have := HLT.out; omega))
      have HY4 := Lib.hid (HY3.out.grown hg4 (by intro h; injection h with h; have := HLT.out; omega))
      clear hx4 hg4 HX3 HY3 HB3
      go_wp2_with fail
      refine (hsum_text w.heap.size z S w4 HY4.out (HK.out.below HB4.out) (by omega)).mono ?_
      rintro e w5 ⟨rfl, hb5⟩
      have HX5 := Lib.hid (HX4.out.below hb5 HX4.out.lt)
      have HB5 := Lib.hid (HB4.out.trans (hb5.mono HB4.out.size))
      clear hb5 HX4 HY4 HB4
      go_wp2_with fail
      refine (dsum_any z S w5 (HK.out.below HB5.out) (HK.out.below HB5.out).lt (by omega)).mono ?_
      rintro e w6 ⟨rfl, hb6⟩
      have HX6 := Lib.hid (HX5.out.below hb6 HX5.out.lt)
      have HB6 := Lib.hid (HB5.out.trans (hb6.mono HB5.out.size))
      clear hb6 HX5 HB5
      have hq1 := HE.out z S
      have hq2 := HE.out z (S ++ S)
      unfold digV at hq1 hq2 ⊢
      generalize ((Sha.digest z S).map U8).toArray = D1 at hq1
      generalize hD2 : ((Sha.digest z (S ++ S)).map U8).toArray = D2 at hq2
      have HD2 : Hid (digV z (S ++ S) = .agg D2) := Lib.hid (by unfold digV; rw [hD2])
      clear hD2
      go_wp2_with fail
      refine (hsum_text g2 z (S ++ S) w6 HX6.out (HK.out.below HB6.out) (by rw [List.length_append]; omega)).mono ?_
      rintro e w7 ⟨rfl, hb7⟩
      have HB7 := Lib.hid (HB6.out.trans (hb7.mono HB6.out.size))
      clear hb7 HX6 HB6
      rw [HD2.out]
      go_wp2_with fail
      refine (dsum_any z (S ++ S) w7 (HK.out.below HB7.out) (HK.out.below HB7.out).lt (by rw [List.length_append]; omega)).mono ?_
      rintro e w8 ⟨rfl, hb8⟩
      have HB8 := Lib.hid (HB7.out.trans (hb8.mono HB7.out.size))
      clear hb8 HB7
      rw [HD2.out]
      go_wp2_with fail
      refine (works_any w8 (HK.out.below HB8.out) (HT.out.below HB8.out HT.out.lt)).mono ?_
      rintro e w9 ⟨rfl, hb9⟩
      have HB9 := Lib.hid (HB8.out.trans (hb9.mono HB8.out.size))
      clear hb9 HB8
      go_wp2
      go_ret
      exact ⟨rfl, HB9.out⟩
end Go.Proofs.YtgjelinnpcekmaaGreatDoor
