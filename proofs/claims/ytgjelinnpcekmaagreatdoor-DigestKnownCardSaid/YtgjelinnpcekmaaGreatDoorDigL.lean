/-
  The walk of stratalaw03.DigestPlaces at this seat's translation.
-/
import Derived.Test.YtgjelinnpcekmaaGreatDoorDigP
import Derived.Test.YtgjelinnpcekmaaGreatDoorJE
namespace Go.Proofs.YtgjelinnpcekmaaGreatDoor
open Go.RowKit Sha Plain Err

theorem pieces_cmp : ∀ (ps l : List (List UInt8)) (u v : List UInt8), pieces ps ++ u = pieces l ++ v → (∃ l', l = ps ++ l' ∧ u = pieces l' ++ v) ∨ (∃ l', ps = l ++ l' ∧ v = pieces l' ++ u)
  | [], l, u, v, h => .inl ⟨l, rfl, by simpa [pieces] using h⟩
  | p :: ps, [], u, v, h => .inr ⟨p :: ps, rfl, by simpa [pieces] using h.symm⟩
  | p :: ps, q :: l, u, v, h => by
    rw [pieces_cons, pieces_cons, List.append_assoc, List.append_assoc] at h
    obtain ⟨rfl, h2⟩ := enc_inj h
    rcases pieces_cmp ps l u v h2 with ⟨l', rfl, h3⟩ | ⟨l', rfl, h3⟩
    · exact .inl ⟨l', rfl, h3⟩
    · exact .inr ⟨l', rfl, h3⟩
theorem total_le_pieces (l : List (List UInt8)) : total l ≤ (pieces l).length := by
  induction l with
  | nil => simp [total]
  | cons p r ih =>
    rw [pieces_cons, List.length_append]
    unfold enc
    simp only [List.length_append, List.length_cons, total, List.map_cons, List.sum_cons] at *
    omega
/-- What begins with a laid piece is right there. -/
theorem good_first {u v : List UInt8} {l : List (List UInt8)} {j : Nat} (h : u = pieces l ++ v) (hl : l ≠ []) (hs : u.length ≤ 16777216) (hj : DigRun u j) : Good1 u j := by
  cases l with
  | nil => exact absurd rfl hl
  | cons p r =>
    rw [pieces_cons, List.append_assoc] at h
    have hp : p.length < 10 ^ 10 := by
      have := congrArg List.length h
      unfold enc at this
      simp only [List.length_append, List.length_cons] at this
      omega
    exact (enc_good h (dec_len 9 _ hp) j hj).2
/-- Behind laid pieces the fault is told where it stands. -/
theorem fault_behind {s : List UInt8} {k j : Nat} {l : List (List UInt8)} (hk : k < s.length) (hj : DigRun (s.drop k) j) (hn : ¬ Good1 (s.drop k) j) (hs : s.length ≤ 1048576) (hl : (pieces l).length ≤ 12582912)
    {ps : List (List UInt8)} {k2 j2 : Nat} (hc : CutTo (pieces l ++ s.drop k) ps k2) (hj2 : DigRun ((pieces l ++ s.drop k).drop k2) j2) (hn2 : ¬ Good1 ((pieces l ++ s.drop k).drop k2) j2) : k2 = (pieces l).length := by
  rcases pieces_cmp l ps _ _ hc.split with ⟨l', hl', h3⟩ | ⟨l', hl', h3⟩
  · by_cases hne : l' = []
    · subst hne
      rw [hc.len, hl', List.append_nil]
    · exact absurd (good_first h3 hne (by rw [List.length_drop]; omega) hj) hn
  · by_cases hne : l' = []
    · subst hne
      rw [hc.len, hl', List.append_nil]
    · exact absurd (good_first h3 hne (by rw [List.length_drop, List.length_append, List.length_drop]; omega) hj2) hn2
theorem no_good_end {s : List UInt8} {k j : Nat} {l ps : List (List UInt8)} (hk : k < s.length) (hj : DigRun (s.drop k) j) (hn : ¬ Good1 (s.drop k) j) (hs : s.length ≤ 1048576) (h : pieces l ++ s.drop k = pieces ps) : False := by
  obtain ⟨l', rfl, h2⟩ := pieces_split l ps _ h.symm
  have hne : l' ≠ [] := by
    rintro rfl
    have := congrArg List.length h2
    rw [pieces_nil, List.length_drop, List.length_nil] at this
    omega
  exact hn (good_first (v := []) (by rw [List.append_nil]; exact h2) hne (by rw [List.length_drop]; omega) hj)
theorem eql_nil (T : TypeId) (v : Value) (wx : World) : (binOp .eql 46 (.iface T v) .nilIface).run Tryz.prog wx = .ok (.bool false) wx := eql_nil_iface T v wx
set_option maxHeartbeats 8000000 in
set_option maxRecDepth 100000 in
theorem digestPlaces_any (s : List UInt8) (A : Option Addr) (n c : Nat) (l : List (List UInt8)) (w : World) (hr : Reads w w.heap.size 1 A n (tx l)) (hs : s.length ≤ 1048576) (hl : total l + l.length ≤ 1048576) (hk : KTab w) (ht : Tab10 w) (hg : ErrTab w) :
    Calls Tryz.prog 19 #[.string ⟨s.toArray⟩, .slice A n c] w fun e w' => e = .returned (.bool true) ∧ Below w.heap.size w w' := by
  have hll : l.length = n := by have := hr.1; rw [tx_length] at this; omega
  have sl := small_texts (show total l ≤ 1048576 by omega)
  have hpl := pieces_le l (fun p hp => by have := sl p hp; omega)
  have F1 := few_any A n c w.heap.size l w hr (by omega) (fun p hp => by have := sl p hp; omega)
  rw [decide_eq_true (show total l ≤ 1048576 by omega)] at F1
  have HF1 := Lib.hid F1
  have HR := Lib.hid hr
  have HK := Lib.hid hk
  have HT := Lib.hid ht
  have HG := Lib.hid hg
  have HPL : Hid ((pieces l).length ≤ 12582912) := Lib.hid (by omega)
  clear hr hk ht hg hll sl F1 hpl
  go_enter Tryz.func19, Tryz.ntmps19
  go_wp2_with fail
  refine HF1.out.mono ?_
  rintro e w' ⟨rfl, rfl⟩
  clear HF1
  have hs2 : (s.length : Int) > 1048576 ↔ False := by simp; omega
  go_wp2_with fail
  refine (Cut_any s (by omega) w).mono ?_
  rintro e w1 (⟨ps, v, rfl, he, ho, hb⟩ | ⟨ps, k, j, rfl, hc, hkl, hj, hn, hb⟩)
  · have HB := Lib.hid hb
    clear ho he hb
    go_wp2_with fail
    refine (works_any w1 (HK.out.below HB.out) (HT.out.below HB.out HT.out.lt)).mono ?_
    rintro e w9 ⟨rfl, hb9⟩
    have HB9 := Lib.hid (HB.out.trans (hb9.mono HB.out.size))
    clear hb9 HB
    go_wp2
    go_ret
    exact ⟨rfl, HB9.out⟩
  · have HC := Lib.hid hc
    have HJ := Lib.hid hj
    have HN := Lib.hid hn
    have HB1 := Lib.hid hb
    clear hc hj hn hb
    have hnil := fun wx => eql_nil 87 (.agg #[.int .i64 4, .int .i64 0, .int .i64 (k : Nat)]) wx
    go_wp2_with fail
    refine (place_fault 4 0 k (by omega) (by omega) w1 (errTab_below HG.out HB1.out (errTab_lt HG.out))).mono ?_
    rintro e w2 ⟨rfl, hb2⟩
    have HB2 := Lib.hid (HB1.out.trans (hb2.mono HB1.out.size))
    clear hb2 HB1
    have hsl1 : ∀ wx : World, (Instr.slice 9 (.string ⟨s.toArray⟩) none (some (.int .i64 (k : Int))) none).run Tryz.prog wx = .ok (.string ⟨(s.take k).toArray⟩) wx := by
      intro wx
      rw [run_slice_string_to_if wx _ _ _ _ Tryz.underlying9, if_pos ⟨by omega, by simp only [ByteArray.size, List.size_toArray]; omega⟩]
      congr 2
      apply ByteArray.ext
      simp [ByteArray.data_extract, List.extract]
    have hsl2 : ∀ wx : World, (Instr.slice 9 (.string ⟨s.toArray⟩) (some (.int .i64 (k : Int))) none none).run Tryz.prog wx = .ok (.string ⟨(s.drop k).toArray⟩) wx := by
      intro wx
      rw [run_slice_string_from_if wx _ _ _ _ Tryz.underlying9, if_pos ⟨by omega, by simp only [ByteArray.size, List.size_toArray]; omega⟩]
      congr 2
      apply ByteArray.ext
      simp [ByteArray.data_extract, List.extract, ByteArray.size]
      exact List.take_of_length_le (by simp)
    have hpk : (pieces ps).length = k := HC.out.len.symm
    have htk : s.take k = pieces ps := by
      have h := HC.out.split
      have h2 := congrArg (List.take k) h
      rw [h2, List.take_left' hpk]
    have hps : total ps + ps.length ≤ 4194304 := by
      have h1 := total_le_pieces ps
      have h2 := length_le_pieces ps
      omega
    rw [htk] at hsl1
    have HCP := Lib.hid (Cut_pieces ps hps)
    clear hpk htk hps
    go_wp2_with fail
    refine (HCP.out w2).mono ?_
    rintro e w3 ⟨A3, c3, rfl, _, hb3⟩
    have HB3 := Lib.hid (HB2.out.trans (hb3.mono HB2.out.size))
    clear hb3 HB2 HCP
    go_wp2_with fail
    refine (Pieces_any A n c l w3 ((HR.out.below HB3.out).more HB3.out.size) (by have := HPL.out; omega) (HT.out.below HB3.out HT.out.lt)).mono ?_
    rintro e w4 ⟨rfl, hb4⟩
    have HB4 := Lib.hid (HB3.out.trans (hb4.mono HB3.out.size))
    clear hb4 HB3
    have hadd := add_txt (pieces l) (s.drop k) (by rw [List.length_drop]; have := HPL.out; omega)
    have HXL : Hid ((pieces l ++ s.drop k).length ≤ 8796093022208) := Lib.hid (by rw [List.length_append, List.length_drop]; have := HPL.out; omega)
    go_wp2_with fail
    refine (Cut_any (pieces l ++ s.drop k) HXL.out w4).mono ?_
    rintro e w5 (⟨ps2, v2, rfl, he2, ho2, hb5⟩ | ⟨ps2, k2, j2, rfl, hc2, hk2, hj2, hn2, hb5⟩)
    · exact (no_good_end hkl HJ.out HN.out hs he2).elim
    · have hk2l : k2 = (pieces l).length := fault_behind hkl HJ.out HN.out hs HPL.out hc2 hj2 hn2
      have HB5 := Lib.hid (HB4.out.trans (hb5.mono HB4.out.size))
      subst hk2l
      clear hb5 HB4 hc2 hk2 hj2 hn2
      go_wp2_with fail
      refine (at_fault 4 0 _ (by omega) (by omega) w5 (errTab_below HG.out HB5.out (errTab_lt HG.out))).mono ?_
      rintro e w6 ⟨rfl, hb6⟩
      have HB6 := Lib.hid (HB5.out.trans (hb6.mono HB5.out.size))
      clear hb6 HB5
      go_wp2
      go_ret
      exact ⟨rfl, HB6.out⟩
end Go.Proofs.YtgjelinnpcekmaaGreatDoor
