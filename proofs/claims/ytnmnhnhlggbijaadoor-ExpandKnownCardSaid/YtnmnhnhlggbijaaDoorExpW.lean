/-
  The walks of the small functions of package expand at this seat's translation: escapes, name, HasPrefix, IndexByte.
-/
import Derived.Test.YtnmnhnhlggbijaaDoorExpM
import Derived.Test.YtnmnhnhlggbijaaDoorKit
import Derived.Test.YtnmnhnhlggbijaaDoorLays
import Derived.Shelf.Small.Strs
import Derived.WalkSmall
import Derived.Deep.QuietTactic
import Derived.BigQuiet
import Derived.IntWalk
import Derived.RegionTactic
namespace Go.Proofs.YtnmnhnhlggbijaaDoor
open Go.RowKit
namespace Exp
open T

theorem b8 (c d : UInt8) : ((c.toNat : Int) == (d.toNat : Int)) = decide (c = d) := by
  rw [Bool.eq_iff_iff, beq_iff_eq, decide_eq_true_iff]
  constructor
  · intro h; exact UInt8.toNat_inj.1 (by omega)
  · rintro rfl; rfl
theorem b8t {c d : UInt8} (h : c = d) : ((c.toNat : Int) == (d.toNat : Int)) = true := by rw [b8, decide_eq_true h]
theorem b8f {c d : UInt8} (h : c ≠ d) : ((c.toNat : Int) == (d.toNat : Int)) = false := by rw [b8, decide_eq_false h]
theorem n8t {c d : UInt8} (h : c = d) : ((c.toNat : Int) != (d.toNat : Int)) = false := by rw [bne, b8t h]; rfl
theorem n8f {c d : UInt8} (h : c ≠ d) : ((c.toNat : Int) != (d.toNat : Int)) = true := by rw [bne, b8f h]; rfl

/-- The reader: a text, a place in it, the escape. -/
def rcells (s : List UInt8) (p : Nat) (e : UInt8) : Array Value := #[.string ⟨s.toArray⟩, .int .i64 p, .int .u8 e.toNat]
abbrev Rdr (w : World) (rb : Nat) (s : List UInt8) (p : Nat) (e : UInt8) : Prop := Blk w rb 57 (rcells s p e)
section
variable {w : World} {rb p : Nat} {s : List UInt8} {e : UInt8}
theorem Rdr.c0 (h : Rdr w rb s p e) : w.cell? ⟨rb, 0, none⟩ = some (.string ⟨s.toArray⟩) := Blk.cell h 0
theorem Rdr.c1 (h : Rdr w rb s p e) : w.cell? ⟨rb, 1, none⟩ = some (.int .i64 p) := Blk.cell h 1
theorem Rdr.c2 (h : Rdr w rb s p e) : w.cell? ⟨rb, 2, none⟩ = some (.int .u8 e.toNat) := Blk.cell h 2
theorem Rdr.go (h : Rdr w rb s p e) (q : Nat) : Rdr (w.setCell ⟨rb, 1, none⟩ (.int .i64 q)) rb s q e := by
  have := h.set_ 1 (.int .i64 q)
  exact this
end
theorem esc1_q {e c : UInt8} : esc1 e .quoted c = (decide (c = 34) || decide (c = 36) || decide (c = e)) := rfl
theorem esc1_d {e c : UInt8} : esc1 e .doc c = (decide (c = 36) || decide (c = e)) := rfl

theorem escapes_any (k : K) (s : List UInt8) (p rb : Nat) (e c : UInt8) (w : World) (h : Rdr w rb s p e) :
    Calls Tryd.prog 49 #[.pointer (some ⟨rb, 0, none⟩), .int .i64 k.num, .int .u8 c.toNat] w fun x w' => x = .returned (.bool (esc1 e k c)) ∧ w = w' := by
  have c2 := h.c2
  have q1 : ((c.toNat : Int) == 34) = decide (c = 34) := b8 c 34
  have q2 : ((c.toNat : Int) == 36) = decide (c = 36) := b8 c 36
  have q3 : ((c.toNat : Int) == (e.toNat : Int)) = decide (c = e) := b8 c e
  clear h
  cases k
  · simp only [K.num]
    go_enter Tryd.func49, Tryd.ntmps49
    go_wp2
    go_ret
    exact ⟨rfl, rfl⟩
  · simp only [K.num]
    go_enter Tryd.func49, Tryd.ntmps49
    go_wp2
    go_ret
    exact ⟨rfl, rfl⟩
  · simp only [K.num]
    rw [esc1_q]
    by_cases h1 : c = 34
    · rw [decide_eq_true h1] at q1 ⊢
      have H := Lib.hid h1
      clear h1 q2 q3
      go_enter Tryd.func49, Tryd.ntmps49
      go_wp2
      go_ret
      exact ⟨rfl, rfl⟩
    · rw [decide_eq_false h1] at q1 ⊢
      clear h1
      by_cases h2 : c = 36
      · rw [decide_eq_true h2] at q2 ⊢
        clear h2 q3
        go_enter Tryd.func49, Tryd.ntmps49
        go_wp2
        go_ret
        exact ⟨rfl, rfl⟩
      · rw [decide_eq_false h2] at q2 ⊢
        clear h2
        generalize decide (c = e) = z at q3 ⊢
        go_enter Tryd.func49, Tryd.ntmps49
        go_wp2
        go_ret
        exact ⟨rfl, rfl⟩
  · simp only [K.num]
    rw [esc1_d]
    by_cases h2 : c = 36
    · rw [decide_eq_true h2] at q2 ⊢
      clear h2 q3
      go_enter Tryd.func49, Tryd.ntmps49
      go_wp2
      go_ret
      exact ⟨rfl, rfl⟩
    · rw [decide_eq_false h2] at q2 ⊢
      clear h2
      generalize decide (c = e) = z at q3 ⊢
      go_enter Tryd.func49, Tryd.ntmps49
      go_wp2
      go_ret
      exact ⟨rfl, rfl⟩

theorem letter_is (c : UInt8) : letter c = decide ((97 ≤ c.toNat ∧ c.toNat ≤ 122) ∨ (65 ≤ c.toNat ∧ c.toNat ≤ 90) ∨ c.toNat = 95) := by
  unfold letter
  rw [Bool.eq_iff_iff]
  simp [UInt8.le_iff_toNat_le, ← UInt8.toNat_inj, or_assoc]
theorem digit_is (c : UInt8) : digit c = decide (48 ≤ c.toNat ∧ c.toNat ≤ 57) := by
  unfold digit
  rw [Bool.eq_iff_iff]
  simp [UInt8.le_iff_toNat_le]
/-- Does this byte stand in a name, k bytes of which were taken? -/
def inName (k : Nat) (c : UInt8) : Bool := letter c || (decide (k > 0) && digit c)
theorem inName_t {k : Nat} {c : UInt8} (h : (97 ≤ (c.toNat : Int) ∧ (c.toNat : Int) ≤ 122) ∨ (65 ≤ (c.toNat : Int) ∧ (c.toNat : Int) ≤ 90) ∨ (c.toNat : Int) = 95 ∨ (0 < k ∧ 48 ≤ (c.toNat : Int) ∧ (c.toNat : Int) ≤ 57)) : inName k c = true := by
  unfold inName
  rw [letter_is, digit_is]
  simp only [Bool.or_eq_true, Bool.and_eq_true, decide_eq_true_iff]
  omega
theorem inName_f {k : Nat} {c : UInt8} (h1 : ¬ (97 ≤ (c.toNat : Int) ∧ (c.toNat : Int) ≤ 122)) (h2 : ¬ (65 ≤ (c.toNat : Int) ∧ (c.toNat : Int) ≤ 90)) (h3 : (c.toNat : Int) ≠ 95) (h4 : ¬ (0 < k ∧ 48 ≤ (c.toNat : Int) ∧ (c.toNat : Int) ≤ 57)) : inName k c = false := by
  unfold inName
  rw [letter_is, digit_is, Bool.eq_false_iff]
  simp only [ne_eq, Bool.or_eq_true, Bool.and_eq_true, decide_eq_true_iff]
  omega
theorem nl_at {s : List UInt8} {j i : Nat} (h : i < s.length) : nl j (s.drop i) = if inName j (s.getD i 0) then nl (j + 1) (s.drop (i + 1)) + 1 else 0 := by
  rw [drop_at h, nl]
  rfl
theorem nl_over {s : List UInt8} {j i : Nat} (h : s.length ≤ i) : nl j (s.drop i) = 0 := by rw [List.drop_eq_nil_of_le h]; rfl

/-- What name answers: the longest name from the reader's place on. -/
def NamePost (s : List UInt8) (p : Nat) (w : World) (x : Ending) (w' : World) : Prop := ∃ m, x = .returned (.string ⟨(name (s.drop p)).toArray⟩) ∧ w' = w.drewN m
set_option maxHeartbeats 4000000 in
theorem name_any (s : List UInt8) (hs : s.length ≤ 4398046511104) (p rb : Nat) (hp : p ≤ s.length) (e : UInt8) (w : World) (h : Rdr w rb s p e) :
    Calls Tryd.prog 63 #[.pointer (some ⟨rb, 0, none⟩)] w (NamePost s p w) := by
  have c0 := h.c0
  have c1 := h.c1
  clear h
  go_enter Tryd.func63, Tryd.ntmps63
  go_wp2_with fail
  go_loop [3] (fun v => ∃ i : Nat, p ≤ i ∧ i ≤ s.length ∧ v = .int .i64 i ∧ Hid (nl 0 (s.drop p) = (i - p) + nl (i - p) (s.drop i))) (fun v => s.length - (intOf v).toNat)
  case atStart => exact ⟨p, by omega, hp, rfl, Lib.hid (by simp)⟩
  case round =>
    obtain ⟨i, hpi, hi, rfl, HN⟩ := hrel
    have HE : Hid (nl (i - p) (s.drop i) = 0 → ∀ m, NamePost s p w (.returned (.string ⟨(cut s p i).toArray⟩)) (w.drewN m)) := Lib.hid (fun h0 m => by
      have h1 := HN.out
      refine ⟨m, ?_, rfl⟩
      rw [show name (s.drop p) = cut s p i by unfold name cut; rw [h1, h0]; congr 1])
    have hsl := fun wx => run_slice_list Tryd.underlying9 s .i64 .i64 (p : Int) (i : Int) p i rfl rfl (by omega) (by omega) wx
    rw [show (s.drop p).take (i - p) = cut s p i from rfl] at hsl
    by_cases hlt : i < s.length
    · have hidx := run_index_list Tryd.underlying9 s i hlt
      have HS := Lib.hid (nl_at (j := i - p) hlt)
      generalize s.getD i 0 = c at hidx HS
      have HT : Hid (inName (i - p) c = true → nl 0 (s.drop p) = (i + 1 - p) + nl (i + 1 - p) (s.drop (i + 1))) := Lib.hid (fun h => by
        have h1 := HN.out; rw [HS.out, if_pos h] at h1; rw [show i + 1 - p = i - p + 1 by omega]; omega)
      have HF : Hid (inName (i - p) c = false → nl (i - p) (s.drop i) = 0) := Lib.hid (fun h => by rw [HS.out, h]; rfl)
      generalize cut s p i = u at hsl HE
      clear HN HS
      have q2 : ((i : Int) == (p : Int)) = decide (i = p) := by rw [Bool.eq_iff_iff]; simp; omega
      have q1 : ((c.toNat : Int) != 95) = decide ((c.toNat : Int) ≠ 95) := by rw [Bool.eq_iff_iff]; simp
      go_wp2_with fail
      all_goals first
        | (go_quiet (fail)
           go_wp2
           go_ret
           exact HE.out (HF.out (inName_f (by omega) (by omega) (by omega) (by omega))) _)
        | (go_round
           case rel => exact ⟨i + 1, by omega, by omega, by go_num, Lib.hid (HT.out (inName_t (by omega)))⟩
           case measure => simp [intOf]; omega)
    · have h0 := Lib.hid (nl_over (j := i - p) (show s.length ≤ i by omega))
      generalize cut s p i = u at hsl HE
      go_wp2_with fail
      go_quiet (fail)
      go_wp2
      go_ret
      exact HE.out h0.out _
theorem run_slice_to_list {P : Program} {t : TypeId} (ht : P.underlying t = some .string) (T : List UInt8) (kh : IntKind) (j : Int) (b : Nat) (hj : j = b) (hb : b ≤ T.length) (w : World) :
    (Instr.slice t (.string ⟨T.toArray⟩) none (some (.int kh j)) none).run P w = .ok (.string ⟨(T.take b).toArray⟩) w := by
  subst hj
  rw [run_slice_string_h _ _ _ ht _ _ (by omega) (by simp only [ByteArray.size, List.size_toArray]; omega)]
  congr 2
  apply ByteArray.ext
  simp [ByteArray.data_extract, List.extract]
theorem run_slice_from_list {P : Program} {t : TypeId} (ht : P.underlying t = some .string) (T : List UInt8) (kh : IntKind) (i : Int) (a : Nat) (hi : i = a) (ha : a ≤ T.length) (w : World) :
    (Instr.slice t (.string ⟨T.toArray⟩) (some (.int kh i)) none none).run P w = .ok (.string ⟨(T.drop a).toArray⟩) w := by
  subst hi
  rw [run_slice_string_l _ _ _ ht _ _ (by omega) (by simp only [ByteArray.size, List.size_toArray]; omega)]
  congr 2
  apply ByteArray.ext
  simp [ByteArray.data_extract, List.extract, ByteArray.size]
  exact List.take_of_length_le (by simp)
theorem prefix_any (s q : List UInt8) (w : World) :
    Calls Tryd.prog 64 #[.string ⟨s.toArray⟩, .string ⟨q.toArray⟩] w fun x w' => x = .returned (.bool (s.take q.length == q)) ∧ w = w' := by
  rcases Nat.lt_or_ge s.length q.length with hq | hq
  rotate_left 1
  · have hsl := fun wx => run_slice_to_list Tryd.underlying9 s .i64 (q.length : Int) q.length rfl hq wx
    generalize s.take q.length = u at hsl
    go_enter Tryd.func64, Tryd.ntmps64
    go_wp2
    go_ret
    exact ⟨rfl, rfl⟩
  · have h0 : (s.take q.length == q) = false := by rw [beq_eq_false_iff_ne]; intro h; have := congrArg List.length h; rw [List.length_take] at this; omega
    rw [h0]
    go_enter Tryd.func64, Tryd.ntmps64
    go_wp2
    go_ret
    exact ⟨rfl, rfl⟩
theorem q39_index (s : List UInt8) : Lib.indexByte s 39 = if q39 s = s.length then -1 else (q39 s : Int) := by
  induction s with
  | nil => rfl
  | cons c r ih =>
    unfold Lib.indexByte q39
    by_cases h : c = 39
    · simp [h]
    · rw [if_neg (by simpa using h), if_neg h, ih, List.length_cons]
      by_cases h2 : q39 r = r.length
      · rw [if_pos h2, if_pos (show q39 r + 1 = r.length + 1 by omega)]; rfl
      · rw [if_neg h2, if_neg (show ¬ q39 r + 1 = r.length + 1 by omega), if_neg (by rw [beq_iff_eq]; omega)]; omega
theorem index_any (s : List UInt8) (w : World) : Calls Tryd.prog 51 #[.string ⟨s.toArray⟩, .int .u8 39] w fun x w' => x = .returned (.int .i64 (if q39 s = s.length then -1 else (q39 s : Int))) ∧ w = w' := by
  refine (Any.strings_IndexByte lays137 ⟨s.toArray⟩ 39 w).mono fun e w' ⟨h, hw⟩ => ⟨?_, hw.symm⟩
  rw [h, ← q39_index]
  rfl
end Exp
end Go.Proofs.YtnmnhnhlggbijaaDoor
