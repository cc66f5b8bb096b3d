/-
  The walks of strataref03.piece and strataref03.Cut at this seat's translation.
-/
import Derived.Test.YtgjelinnpcekmaaGreatDoorLayR
namespace Go.Proofs.YtgjelinnpcekmaaGreatDoor
open Go.RowKit Plain
set_option linter.unusedSimpArgs false

/-- A text that begins with no piece (of at most ten digits). -/
def NoPiece (s : List UInt8) : Prop := ∀ p r, (dec p.length).length ≤ 10 → s ≠ enc p ++ r
theorem enc_shape {s p r : List UInt8} (h : s = enc p ++ r) : s = dec p.length ++ 58 :: (p ++ r) := by rw [h]; simp [enc]
theorem enc_run {s p r : List UInt8} (h : s = enc p ++ r) {i : Nat} (hd : ∀ t, 0 ≤ t → t < i → isD (s.getD t 0) = true) : i ≤ (dec p.length).length := by
  have hs := enc_shape h
  rcases Nat.lt_or_ge (dec p.length).length i with h1 | h1
  · exfalso
    have := hd _ (by omega) h1
    rw [hs] at this
    simp [List.getD, isD] at this
  · exact h1
theorem enc_stop {s p r : List UInt8} (h : s = enc p ++ r) {i : Nat} (hd : ∀ t, 0 ≤ t → t < i → isD (s.getD t 0) = true) (hs : isD (s.getD i 0) = false) :
    i = (dec p.length).length ∧ s.getD i 0 = 58 ∧ s.take i = dec p.length := by
  have h1 := enc_run h hd
  have hsh := enc_shape h
  rcases Nat.lt_or_ge i (dec p.length).length with h2 | h2
  · exfalso
    have e : s.getD i 0 = (dec p.length).getD i 0 := by rw [hsh]; simp [List.getD, List.getElem?_append_left h2]
    rw [e] at hs
    have : isD ((dec p.length).getD i 0) = true := dec_digits p.length _ (by simp [List.getD, List.getElem?_eq_getElem h2])
    rw [this] at hs; cases hs
  · have hi : i = (dec p.length).length := by omega
    refine ⟨hi, ?_, ?_⟩
    · rw [hi, hsh]; simp [List.getD]
    · rw [hi, hsh]; simp
theorem noPiece_dig {s : List UInt8} {i : Nat} (hd : ∀ t, 0 ≤ t → t < i → isD (s.getD t 0) = true) (h : s.length = i ∨ 10 < i) : NoPiece s := by
  intro p r hp he
  have h1 := enc_run he hd
  have hl := congrArg List.length (enc_shape he)
  simp only [List.length_append, List.length_cons] at hl
  omega
theorem noPiece_bad {s : List UInt8} {i : Nat} (hd : ∀ t, 0 ≤ t → t < i → isD (s.getD t 0) = true) (hs : isD (s.getD i 0) = false) (h : s.getD i 0 ≠ 58) : NoPiece s :=
  fun _ _ _ he => h (enc_stop he hd hs).2.1
theorem noPiece_num {s : List UInt8} {i : Nat} (hd : ∀ t, 0 ≤ t → t < i → isD (s.getD t 0) = true) (hs : isD (s.getD i 0) = false) (h : i = 0 ∨ dec (numAt s 0 i) ≠ s.take i ∨ s.length - i - 1 < numAt s 0 i) : NoPiece s := by
  intro p r hp he
  obtain ⟨h1, h2, h3⟩ := enc_stop he hd hs
  have hn : numAt s 0 i = p.length := by unfold numAt; rw [List.drop_zero, Nat.sub_zero, h3, decVal_dec]
  have hl := congrArg List.length (enc_shape he)
  simp only [List.length_append, List.length_cons] at hl
  rcases h with h | h | h
  · have := dec_ne_nil p.length; exact this (List.length_eq_zero_iff.1 (by omega))
  · rw [hn, h3] at h; exact h rfl
  · omega
theorem piece_found {s : List UInt8} {i : Nat} (hi : i < s.length) (hc : s.getD i 0 = 58) (hn : dec (numAt s 0 i) = s.take i) (hl : numAt s 0 i ≤ s.length - i - 1) :
    ∃ r, s = enc ((s.drop (i + 1)).take (numAt s 0 i)) ++ r ∧ i + 1 + numAt s 0 i = (enc ((s.drop (i + 1)).take (numAt s 0 i))).length := by
  have hpl : ((s.drop (i + 1)).take (numAt s 0 i)).length = numAt s 0 i := by rw [List.length_take, List.length_drop]; omega
  refine ⟨(s.drop (i + 1)).drop (numAt s 0 i), ?_, ?_⟩
  · unfold enc
    rw [hpl, hn, List.append_assoc, List.cons_append, List.take_append_drop]
    have hj : s.drop i = 58 :: s.drop (i + 1) := by
      rw [List.drop_eq_getElem_cons hi]
      congr 1
      simpa [List.getD, List.getElem?_eq_getElem hi] using hc
    rw [← hj, List.take_append_drop]
  · unfold enc
    rw [List.length_append, List.length_cons, hpl, hn, List.length_take]; omega
/-- What is told of the piece with which a text begins. -/
def PieceIs (s t : List UInt8) (n : Nat) : Prop := (∃ r, s = enc t ++ r ∧ n = (enc t).length) ∨ (t = [] ∧ n = 0 ∧ NoPiece s)
def PiecePost (s : List UInt8) (w : World) (e : Ending) (w' : World) : Prop :=
  ∃ t n m, e = .returned (.tuple #[.string ⟨t.toArray⟩, .int .i64 (n : Nat)]) ∧ PieceIs s t n ∧ w' = w.drewN m
theorem piecePost_none {s : List UInt8} {w w' : World} {m : Nat} (h : NoPiece s) (hw : w' = w.drewN m) : PiecePost s w (.returned (.tuple #[.string ⟨#[]⟩, .int .i64 0])) w' := ⟨[], 0, m, rfl, .inr ⟨rfl, rfl, h⟩, hw⟩
set_option maxHeartbeats 4000000 in
set_option maxRecDepth 100000 in
theorem piece_any (s : List UInt8) (hs : s.length ≤ 1099511627776) (w : World) :
    Calls Tryz.prog 57 #[.string ⟨s.toArray⟩] w (PiecePost s w) := by
  have HNB := Lib.hid (fun n (hn : n ≤ 140737488355000) w => Number_any n hn w)
  go_enter Tryz.func57, Tryz.ntmps57
  go_wp2_with fail
  go_loopw [4, 5] (fun n a wr => ∃ i : Nat, a = .int .i64 i ∧ n = .int .i64 (numAt s 0 i) ∧ i ≤ s.length ∧ i ≤ 11 ∧ numAt s 0 i < 100000000000 ∧ Hid (∀ t, 0 ≤ t → t < i → isD (s.getD t 0) = true) ∧ wr = w) (fun _ a _ => s.length - (intOf a).toNat)
  case atStart => exact ⟨0, rfl, by rw [numAt_self]; rfl, by omega, by omega, by rw [numAt_self]; omega, Lib.hid (fun t h1 h2 => by omega), rfl⟩
  case round =>
    obtain ⟨i, rfl, rfl, hil, hi11, hnum, HR, rfl⟩ := hrel
    by_cases h1 : i < s.length
    · by_cases h2 : (i : Int) ≤ 10
      · have hidx := run_index_list Tryz.underlying9 s i h1
        by_cases h3 : s.getD i 0 = 58
        · have hst : isD (s.getD i 0) = false := by rw [h3]; decide
          have HNP := Lib.hid (fun h => noPiece_num HR.out hst h)
          have HF := Lib.hid (piece_found h1 h3)
          have h3n : (s.getD i 0).toNat = 58 := by rw [h3]; rfl
          rw [h3n] at hidx
          have hsl1 : ∀ wx : World, (Instr.slice 9 (.string ⟨s.toArray⟩) none (some (.int .i64 (i : Int))) none).run Tryz.prog wx = .ok (.string ⟨(s.take i).toArray⟩) wx := by
            intro wx
            rw [run_slice_string_to_if wx _ _ _ _ Tryz.underlying9, if_pos ⟨by omega, by simp only [ByteArray.size, List.size_toArray]; omega⟩]
            congr 2
            apply ByteArray.ext
            simp [ByteArray.data_extract, List.extract]
          have hsl : numAt s 0 i ≤ s.length - i - 1 → ∀ wx, (Instr.slice 9 (.string ⟨s.toArray⟩) (some (.int .i64 ((i : Int) + 1))) (some (.int .i64 ((i : Int) + 1 + (numAt s 0 i : Nat)))) none).run Tryz.prog wx = .ok (.string ⟨((s.drop (i + 1)).take (numAt s 0 i)).toArray⟩) wx := fun hle wx => by
            have := run_slice_list Tryz.underlying9 s .i64 .i64 ((i : Int) + 1) ((i : Int) + 1 + (numAt s 0 i : Nat)) (i + 1) (i + 1 + numAt s 0 i) (by omega) (by omega) (by omega) (by omega) wx
            rwa [show i + 1 + numAt s 0 i - (i + 1) = numAt s 0 i by omega] at this
          have HD := Lib.hid (HNB.out (numAt s 0 i) (by omega))
          have ne := fun wx => neq_texts (dec (numAt s 0 i)) (s.take i) wx
          clear hst h3 h3n
          by_cases h4 : (i : Int) = 0
          · have HN := Lib.hid (HNP.out (.inl (by omega)))
            clear HNP HF hsl hsl1 HD ne
            have hi0 : i = 0 := by omega
            subst hi0
            have hidx0 : ∀ wx, (Instr.index 9 (.string ⟨s.toArray⟩) (.int .i64 0)).run Tryz.prog wx = .ok (.int .u8 58) wx := hidx
            clear hidx
            go_wp2_with fail
            go_quiet (fail)
            go_wp2
            go_ret2
            exact piecePost_none HN.out rfl
          · generalize (s.drop (i + 1)).take (numAt s 0 i) = p at HF hsl
            generalize s.take i = q at hsl1 ne HF HNP
            generalize dec (numAt s 0 i) = d at HD ne HF HNP
            have h4b : ((i : Int) == 0) = false := by simpa using h4
            by_cases h5 : d = q
            · subst h5
              rw [decide_eq_false (by simp)] at ne
              by_cases h6 : numAt s 0 i ≤ s.length - i - 1
              · have HF2 := Lib.hid (HF.out rfl h6)
                have hsl2 := hsl h6
                clear hsl HNP HF
                have h7 : ¬ ((numAt s 0 i : Nat) : Int) > (s.length : Int) - i - 1 := by omega
                have h7b : decide ((s.length : Int) - i - 1 < ((numAt s 0 i : Nat) : Int)) = false := by simpa using h7
                go_wp2_with fail
                go_quiet (exact Calls.quiet_of ((HD.out _).mono (by rintro e w' ⟨rfl, rfl⟩; exact ⟨rfl, 0, rfl⟩)))
                go_wp2
                go_ret2
                refine ⟨p, i + 1 + numAt s 0 i, _, ?_, .inl HF2.out, rfl⟩
                show Ending.returned (.tuple #[.string ⟨p.toArray⟩, .int .i64 ((i : Int) + 1 + (numAt s 0 i : Nat))]) = _
                rw [show ((i : Int) + 1 + (numAt s 0 i : Nat)) = ((i + 1 + numAt s 0 i : Nat) : Int) by omega]
              · have HN := Lib.hid (HNP.out (.inr (.inr (by omega))))
                clear hsl HNP HF
                have h7 : ((numAt s 0 i : Nat) : Int) > (s.length : Int) - i - 1 := by omega
                have h7b : decide ((s.length : Int) - i - 1 < ((numAt s 0 i : Nat) : Int)) = true := by simpa using h7
                go_wp2_with fail
                go_quiet (exact Calls.quiet_of ((HD.out _).mono (by rintro e w' ⟨rfl, rfl⟩; exact ⟨rfl, 0, rfl⟩)))
                go_wp2
                go_ret2
                exact piecePost_none HN.out rfl
            · have HN := Lib.hid (HNP.out (.inr (.inl h5)))
              rw [decide_eq_true (by simpa using h5)] at ne
              have h5b : (d == q) = false := by simpa using h5
              clear hsl HNP HF
              go_wp2_with fail
              go_quiet (exact Calls.quiet_of ((HD.out _).mono (by rintro e w' ⟨rfl, rfl⟩; exact ⟨rfl, 0, rfl⟩)))
              go_wp2
              go_ret2
              exact piecePost_none HN.out rfl
        · by_cases h4 : isD (s.getD i 0) = true
          · have HR1 : Hid (∀ t, 0 ≤ t → t < i + 1 → isD (s.getD t 0) = true) := Lib.hid (fun t h5 h6 => by
              by_cases he : t = i
              · rw [he]; exact h4
              · exact HR.out t h5 (by omega))
            obtain ⟨h4a, h4b⟩ := (isD_iff _).1 h4
            have hsucc := numAt_succ (s := s) (k := 0) (Nat.zero_le i) h1
            have hlt' : numAt s 0 (i + 1) < 100000000000 := by
              have h := decVal_lt ((s.drop 0).take (i + 1 - 0)) (by
                intro c hc
                rw [List.drop_zero, Nat.sub_zero] at hc
                obtain ⟨t, ht, rfl⟩ := List.getElem_of_mem hc
                have ht' : t < i + 1 ∧ t < s.length := by rw [List.length_take] at ht; omega
                have := HR1.out t (by omega) (by omega)
                rw [List.getElem_take]
                simpa [List.getD, List.getElem?_eq_getElem (show t < s.length by omega)] using this)
              rw [List.length_take, List.drop_zero] at h
              exact Nat.lt_of_lt_of_le h (Nat.le_trans (Nat.pow_le_pow_right (by omega) (show min (i + 1 - 0) s.length ≤ 11 by omega)) (by decide))
            have h3n : ¬ (s.getD i 0).toNat = 58 := by omega
            clear h4
            generalize s.getD i 0 = c at hidx hsucc h3n h4a h4b
            have HS := Lib.hid hsucc
            rw [hsucc] at hlt'
            clear hsucc h3
            go_wp2
            go_roundw
            case rel => exact ⟨i + 1, by go_num, by rw [HS.out]; go_num, by omega, by omega, by rw [HS.out]; omega, HR1, trivial⟩
            case measure => simp [intOf]; omega
          · have HN := Lib.hid (noPiece_bad HR.out (by simpa using h4) h3)
            have h4c : ¬ (48 ≤ (s.getD i 0).toNat ∧ (s.getD i 0).toNat ≤ 57) := fun h => h4 ((isD_iff _).2 h)
            have h3n : ¬ (s.getD i 0).toNat = 58 := fun h => h3 (UInt8.toNat_inj.1 (by rw [h]; rfl))
            clear h3 h4
            generalize s.getD i 0 = c at hidx h4c h3n
            by_cases h5 : 48 ≤ c.toNat
            · have h6 : ¬ c.toNat ≤ 57 := fun h => h4c ⟨h5, h⟩
              go_wp2
              go_ret2
              exact piecePost_none (m := 0) HN.out rfl
            · go_wp2
              go_ret2
              exact piecePost_none (m := 0) HN.out rfl
      · have HN : Hid (NoPiece s) := Lib.hid (noPiece_dig HR.out (.inr (by omega)))
        go_wp2
        go_ret2
        exact piecePost_none (m := 0) HN.out rfl
    · have HN : Hid (NoPiece s) := Lib.hid (noPiece_dig HR.out (.inl (by omega)))
      go_wp2
      go_ret2
      exact piecePost_none (m := 0) HN.out rfl
theorem drop_slice {s : List UInt8} {k : Nat} (hk : k ≤ s.length) (wx : World) : (Instr.slice 9 (.string ⟨s.toArray⟩) (some (.int .i64 (k : Int))) none none).run Tryz.prog wx = .ok (.string ⟨(s.drop k).toArray⟩) wx := by
  rw [run_slice_string_from_if wx _ _ _ _ Tryz.underlying9, if_pos ⟨by omega, by simp only [ByteArray.size, List.size_toArray]; omega⟩]
  congr 2
  apply ByteArray.ext
  simp [ByteArray.data_extract, List.extract, ByteArray.size]
  exact List.take_of_length_le (by simp)
/-- What the reference's Cut leaves. -/
def RefCutPost (s : List UInt8) (w : World) (e : Ending) (w' : World) : Prop :=
  (∃ ps v, e = .returned (.tuple #[v, .int .i64 0, .int .i64 0]) ∧ s = pieces ps ∧ w'.ownsRow w.heap.size 9 1 v ps.length (tx ps) ∧ Below w.heap.size w w') ∨
  (∃ ps k, e = .returned (.tuple #[.slice none 0 0, .int .i64 4, .int .i64 (k : Nat)]) ∧ CutTo s ps k ∧ k < s.length ∧ NoPiece (s.drop k) ∧ Below w.heap.size w w')
theorem cutTo_step {s t r : List UInt8} {ps : List (List UInt8)} {k : Nat} (h : CutTo s ps k) (he : s.drop k = enc t ++ r) : CutTo s (ps ++ [t]) (k + (enc t).length) := by
  constructor
  · rw [pieces_append, show pieces [t] = enc t by simp [pieces], List.append_assoc, ← List.drop_drop, he]
    simp only [List.drop_left]
    rw [← he]
    exact h.split
  · rw [pieces_append, List.length_append, show pieces [t] = enc t by simp [pieces], ← h.len]
set_option maxHeartbeats 4000000 in
set_option maxRecDepth 100000 in
theorem RefCut_any (s : List UInt8) (hs : s.length ≤ 1099511627776) (w : World) :
    Calls Tryz.prog 37 #[.string ⟨s.toArray⟩] w (RefCutPost s w) := by
  obtain ⟨i0, hi0, hz0, hz1, hz2⟩ := info_parts infoString
  go_enter Tryz.func37, Tryz.ntmps37
  go_wp2_with fail
  go_loopw [5, 6] (fun v a wr => ∃ (ps : List (List UInt8)) (k : Nat), a = .int .i64 k ∧ k ≤ s.length ∧ Hid (CutTo s ps k) ∧ Hid (wr.ownsRow w.heap.size 9 1 v ps.length (tx ps)) ∧ Hid (Below w.heap.size w wr)) (fun _ a _ => s.length - (intOf a).toNat)
  case atStart => exact ⟨[], 0, rfl, by omega, Lib.hid (CutTo.start s), Lib.hid (World.ownsRow_nil _ _ _ _), Lib.hid (Below.refl _ _)⟩
  case round =>
    obtain ⟨ps, k, rfl, hk, HC, HO, HW⟩ := hrel
    by_cases hlt : k < s.length
    · have hsl := drop_slice hk
      have hdl : (s.drop k).length ≤ 1099511627776 := by rw [List.length_drop]; omega
      have hps : ps.length ≤ k := by rw [HC.out.len]; exact length_le_pieces ps
      go_wp2_with fail
      refine (piece_any (s.drop k) hdl wr).mono ?_
      rintro e w1 ⟨t, n, m, rfl, hp, rfl⟩
      have HB1 := Lib.hid (below_drewN HW.out m)
      have HO1 : Hid ((wr.drewN m).ownsRow w.heap.size 9 1 _ ps.length (tx ps)) := Lib.hid (own_kept HO.out (below_drewN (Below.refl _ _) m))
      rcases hp with ⟨r, he, rfl⟩ | ⟨rfl, rfl, hn⟩
      · have HC2 := Lib.hid (cutTo_step HC.out he)
        have hle : k + (enc t).length ≤ s.length := HC2.out.le
        have hpos : 0 < (enc t).length := List.length_pos_iff.2 (enc_ne_nil t)
        clear he HC
        generalize (enc t).length = n at hle hpos HC2
        clear HO HW hsl
        generalize wr.drewN m = w1 at HB1 HO1
        have hn0 : ¬ (n : Int) = 0 := by omega
        go_wp2_with (at_builtin; refine wpList_append_own _ rfl _ _ 29 rfl w.heap.size 9 i0 (.string ByteArray.empty) 1 16 Tryz.underlying29 hi0 hz0 hz1 hz2 rfl (by decide) _ _ _ rfl (HO1.out.alloc _) ⟨w1.heap.size, 0, none⟩ 1 1 [.string ⟨t.toArray⟩] rfl rfl (cell_one_new _ _ _) (by intro x hx; simp at hx; subst hx; rfl) (by unfold maxLen; omega) (by omega) (by have := HB1.out.size; simp; omega) ?_; intro v1 w2 hown1 hgrow1 hnil1)
        have hB2 : Hid (Below w.heap.size w w2) := Lib.hid (Below.grown (HB1.out.alloc HB1.out.size _) hgrow1 (by have := HB1.out.size; simp; omega) (fun j hj => (HO1.out.lt j hj).1))
        clear hgrow1 hnil1
        go_wp2
        go_roundw
        case rel => exact ⟨ps ++ [t], k + n, by go_num, by omega, HC2, Lib.hid (by simpa [tx] using hown1), hB2⟩
        case measure => simp [intOf]; omega
      · have HN := Lib.hid hn
        clear hn
        go_wp2
        go_ret3
        exact .inr ⟨ps, k, rfl, HC.out, hlt, HN.out, HB1.out⟩
    · go_wp2
      go_ret3
      exact .inl ⟨ps, _, rfl, HC.out.done (by omega), HO.out, HW.out⟩
end Go.Proofs.YtgjelinnpcekmaaGreatDoor
