/-
  The walks of the document's within, char, wrong: a text's first wrong byte.
-/
import Derived.Test.YtlfeddgpfaigkaaGreatDoorJsQu
import Derived.Test.YtlfeddgpfaigkaaGreatDoorSmt
import Derived.Test.YtlfeddgpfaigkaaGreatDoorJsWp
namespace Go.Proofs.YtlfeddgpfaigkaaGreatDoor
open Go.RowKit
namespace Js
def clsN (c : UInt8) : Nat := if 194 ≤ c.toNat ∧ c.toNat ≤ 223 then 2 else if 224 ≤ c.toNat ∧ c.toNat ≤ 239 then 3 else if 240 ≤ c.toNat ∧ c.toNat ≤ 244 then 4 else 0
def clsLo (c : UInt8) : Nat := if c.toNat = 224 then 160 else if c.toNat = 240 then 144 else 128
def clsHi (c : UInt8) : Nat := if c.toNat = 237 then 159 else if c.toNat = 244 then 143 else 191
def clsB (c : UInt8) (b1 b2 b3 q1 q2 q3 q4 : Bool) (n lo hi : Nat) : Bool :=
  (decide (194 ≤ c.toNat ∧ c.toNat ≤ 223) == b1) && ((decide (224 ≤ c.toNat ∧ c.toNat ≤ 239) == b2) && ((decide (240 ≤ c.toNat ∧ c.toNat ≤ 244) == b3) && ((((c.toNat : Int) == 224) == q1) && ((((c.toNat : Int) == 237) == q2) && ((((c.toNat : Int) == 240) == q3) && ((((c.toNat : Int) == 244) == q4) && (clsN c == n && (clsLo c == lo && clsHi c == hi))))))))
theorem clsB_is {c : UInt8} {b1 b2 b3 q1 q2 q3 q4 : Bool} {n lo hi : Nat} (h : clsB c b1 b2 b3 q1 q2 q3 q4 n lo hi = true) :
    decide (194 ≤ c.toNat ∧ c.toNat ≤ 223) = b1 ∧ decide (224 ≤ c.toNat ∧ c.toNat ≤ 239) = b2 ∧ decide (240 ≤ c.toNat ∧ c.toNat ≤ 244) = b3 ∧ ((c.toNat : Int) == 224) = q1 ∧ ((c.toNat : Int) == 237) = q2 ∧ ((c.toNat : Int) == 240) = q3 ∧ ((c.toNat : Int) == 244) = q4 ∧ clsN c = n ∧ clsLo c = lo ∧ clsHi c = hi := by
  unfold clsB at h
  rw [Bool.and_eq_true, Bool.and_eq_true, Bool.and_eq_true, Bool.and_eq_true, Bool.and_eq_true, Bool.and_eq_true, Bool.and_eq_true, Bool.and_eq_true, Bool.and_eq_true] at h
  obtain ⟨h1, h2, h3, h4, h5, h6, h7, h8, h9, h10⟩ := h
  exact ⟨eq_of_beq h1, eq_of_beq h2, eq_of_beq h3, eq_of_beq h4, eq_of_beq h5, eq_of_beq h6, eq_of_beq h7, eq_of_beq h8, eq_of_beq h9, eq_of_beq h10⟩
theorem cls8 (c : UInt8) : c.toNat < 128 ∨ clsB c true false false false false false false 2 128 191 = true ∨ clsB c false true false true false false false 3 160 191 = true ∨ clsB c false true false false true false false 3 128 159 = true ∨ clsB c false true false false false false false 3 128 191 = true ∨ clsB c false false true false false true false 4 144 191 = true ∨ clsB c false false true false false false true 4 128 143 = true ∨ clsB c false false true false false false false 4 128 191 = true ∨ clsB c false false false false false false false 0 128 191 = true := by
  have := all_bytes (p := fun c => decide (c.toNat < 128 ∨ clsB c true false false false false false false 2 128 191 = true ∨ clsB c false true false true false false false 3 160 191 = true ∨ clsB c false true false false true false false 3 128 159 = true ∨ clsB c false true false false false false false 3 128 191 = true ∨ clsB c false false true false false true false 4 144 191 = true ∨ clsB c false false true false false false true 4 128 143 = true ∨ clsB c false false true false false false false 4 128 191 = true ∨ clsB c false false false false false false false 0 128 191 = true)) (by decide +kernel) c
  exact of_decide_eq_true this
/-- What the first character is, by its class. -/
def charG (c : UInt8) (r : List UInt8) : Nat :=
  if clsN c = 0 ∨ r.length + 1 < clsN c ∨ ¬ (clsLo c ≤ (r.getD 0 0).toNat ∧ (r.getD 0 0).toNat ≤ clsHi c) then 0
  else if (2 < clsN c → cont (r.getD 1 0) = true) ∧ (3 < clsN c → cont (r.getD 2 0) = true) then clsN c else 0
theorem char_cls {c : UInt8} (h : ¬ c.toNat < 128) (r : List UInt8) : char (c :: r) = charG c r := by
  unfold char charG clsN clsLo clsHi
  dsimp only
  rw [if_neg h]
  by_cases h2 : 194 ≤ c.toNat ∧ c.toNat ≤ 223
  · have e1 : c.toNat ≠ 224 := by omega
    have e2 : c.toNat ≠ 240 := by omega
    have e3 : c.toNat ≠ 237 := by omega
    have e4 : c.toNat ≠ 244 := by omega
    cases r with
    | nil => simp [h2, e1, e2, e3, e4]
    | cons x r => by_cases hx : 128 ≤ x.toNat ∧ x.toNat ≤ 191 <;> simp [h2, e1, e2, e3, e4, cont, hx]
  · by_cases h3 : 224 ≤ c.toNat ∧ c.toNat ≤ 239
    · have e2 : c.toNat ≠ 240 := by omega
      have e4 : c.toNat ≠ 244 := by omega
      rw [if_neg h2, if_pos h3, if_neg h2, if_pos h3, if_neg e2, if_neg e4]
      rcases r with _ | ⟨x, _ | ⟨y, r⟩⟩
      · simp
      · simp
      · simp only [List.length_cons, List.getD_cons_zero, List.getD_cons_succ]
        generalize (if c.toNat = 224 then 160 else 128) = lo
        generalize (if c.toNat = 237 then 159 else 191) = hi
        by_cases h5 : lo ≤ x.toNat ∧ x.toNat ≤ hi
        · have n1 : ¬ (3 = 0 ∨ r.length + 1 + 1 + 1 < 3 ∨ ¬(lo ≤ x.toNat ∧ x.toNat ≤ hi)) := by
            rintro (e | e | e)
            · omega
            · omega
            · exact e h5
          rw [if_neg n1]
          by_cases h6 : cont y = true
          · rw [if_pos ⟨h5.1, h5.2, h6⟩, if_pos ⟨fun _ => h6, fun e => absurd e (by decide)⟩]
          · rw [if_neg (fun e => h6 e.2.2), if_neg (fun e => h6 (e.1 (by decide)))]
        · rw [if_neg (fun e => h5 ⟨e.1, e.2.1⟩), if_pos (.inr (.inr h5))]
    · by_cases h4 : 240 ≤ c.toNat ∧ c.toNat ≤ 244
      · have e1 : c.toNat ≠ 224 := by omega
        have e3 : c.toNat ≠ 237 := by omega
        rw [if_neg h2, if_neg h3, if_pos h4, if_neg h2, if_neg h3, if_pos h4, if_neg e1, if_neg e3]
        rcases r with _ | ⟨x, _ | ⟨y, _ | ⟨z, r⟩⟩⟩
        · simp
        · simp
        · simp
        · simp only [List.length_cons, List.getD_cons_zero, List.getD_cons_succ]
          generalize (if c.toNat = 240 then 144 else 128) = lo
          generalize (if c.toNat = 244 then 143 else 191) = hi
          by_cases h5 : lo ≤ x.toNat ∧ x.toNat ≤ hi
          · have n1 : ¬ (4 = 0 ∨ r.length + 1 + 1 + 1 + 1 < 4 ∨ ¬(lo ≤ x.toNat ∧ x.toNat ≤ hi)) := by
              rintro (e | e | e)
              · omega
              · omega
              · exact e h5
            rw [if_neg n1]
            by_cases h6 : cont y = true
            · by_cases h7 : cont z = true
              · rw [if_pos ⟨h5.1, h5.2, h6, h7⟩, if_pos ⟨fun _ => h6, fun _ => h7⟩]
              · rw [if_neg (fun e => h7 e.2.2.2), if_neg (fun e => h7 (e.2 (by decide)))]
            · rw [if_neg (fun e => h6 e.2.2.1), if_neg (fun e => h6 (e.1 (by decide)))]
          · rw [if_neg (fun e => h5 ⟨e.1, e.2.1⟩), if_pos (.inr (.inr h5))]
      · rw [if_neg h2, if_neg h3, if_neg h4, if_neg h2, if_neg h3, if_neg h4]; simp
set_option maxHeartbeats 800000 in
theorem within_any (a lo hi : Int) (w : World) : Calls Tryz.prog 145 #[.int .u8 a, .int .u8 lo, .int .u8 hi] w fun x w' => x = .returned (.bool (decide (lo ≤ a ∧ a ≤ hi))) ∧ w = w' := by
  by_cases h1 : lo ≤ a
  · have q1 : (lo ≤ a) = True := eq_true h1
    by_cases h2 : a ≤ hi
    · have q2 : (a ≤ hi) = True := eq_true h2
      have HR : Hid (decide (lo ≤ a ∧ a ≤ hi) = true) := Lib.hid (decide_eq_true ⟨h1, h2⟩)
      generalize decide (lo ≤ a ∧ a ≤ hi) = r at HR ⊢
      clear h1 h2
      go_enter Tryz.func145, Tryz.ntmps145
      go_wp2
      go_ret
      exact ⟨by rw [HR.out]; rfl, rfl⟩
    · have q2 : (a ≤ hi) = False := eq_false h2
      have HR : Hid (decide (lo ≤ a ∧ a ≤ hi) = false) := Lib.hid (decide_eq_false (fun h => h2 h.2))
      generalize decide (lo ≤ a ∧ a ≤ hi) = r at HR ⊢
      clear h1 h2
      go_enter Tryz.func145, Tryz.ntmps145
      go_wp2
      go_ret
      exact ⟨by rw [HR.out]; rfl, rfl⟩
  · have q1 : (lo ≤ a) = False := eq_false h1
    have HR : Hid (decide (lo ≤ a ∧ a ≤ hi) = false) := Lib.hid (decide_eq_false (fun h => h1 h.1))
    generalize decide (lo ≤ a ∧ a ≤ hi) = r at HR ⊢
    clear h1
    go_enter Tryz.func145, Tryz.ntmps145
    go_wp2
    go_ret
    exact ⟨by rw [HR.out]; rfl, rfl⟩
theorem within_is {c : UInt8} {lo hi : Nat} {b : Bool} (h : decide (lo ≤ c.toNat ∧ c.toNat ≤ hi) = b) (w : World) : Calls Tryz.prog 145 #[.int .u8 (c.toNat : Int), .int .u8 (lo : Int), .int .u8 (hi : Int)] w fun x w' => x = .returned (.bool b) ∧ w = w' := by
  refine (within_any _ _ _ w).mono ?_
  rintro x w' ⟨rfl, rfl⟩
  refine ⟨?_, rfl⟩
  rw [← h]
  congr 3
  exact propext ⟨fun e => ⟨by omega, by omega⟩, fun e => ⟨by omega, by omega⟩⟩
end Js
end Go.Proofs.YtlfeddgpfaigkaaGreatDoor
namespace Go.Proofs.YtlfeddgpfaigkaaGreatDoor
open Go.RowKit
namespace Js
theorem getD_drop1 (s : List UInt8) (i k : Nat) : (s.drop (i + 1)).getD k 0 = s.getD (i + 1 + k) 0 := by simp [List.getD, List.getElem?_drop]
/-- The character that begins at i, its first byte being none of itself. -/
theorem char_at {s : List UInt8} {i : Nat} (hi : i < s.length) (h : ¬ (s.getD i 0).toNat < 128) {n lo hi' : Nat} (hn : clsN (s.getD i 0) = n) (hlo : clsLo (s.getD i 0) = lo) (hhi : clsHi (s.getD i 0) = hi') :
    char (s.drop i) = if n = 0 ∨ s.length < i + n ∨ ¬ (lo ≤ (s.getD (i + 1) 0).toNat ∧ (s.getD (i + 1) 0).toNat ≤ hi') then 0
      else if (2 < n → cont (s.getD (i + 2) 0) = true) ∧ (3 < n → cont (s.getD (i + 3) 0) = true) then n else 0 := by
  have e : s.drop i = s.getD i 0 :: s.drop (i + 1) := by
    rw [List.drop_eq_getElem_cons hi]
    simp [List.getD, List.getElem?_eq_getElem hi]
  rw [e, char_cls h]
  unfold charG
  rw [hn, hlo, hhi, getD_drop1, getD_drop1, getD_drop1, List.length_drop]
  have : (s.length - (i + 1) + 1 < n) = (s.length < i + n) := propext ⟨fun _ => by omega, fun _ => by omega⟩
  simp only [this]
theorem char_zero {s : List UInt8} {i : Nat} (hi : i < s.length) (h : (s.getD i 0).toNat < 128) : char (s.drop i) = 1 := by
  have e : s.drop i = s.getD i 0 :: s.drop (i + 1) := by
    rw [List.drop_eq_getElem_cons hi]
    simp [List.getD, List.getElem?_eq_getElem hi]
  rw [e, char_ascii h]
theorem contw (x : UInt8) {b : Bool} (h : cont x = b) : decide (128 ≤ x.toNat ∧ x.toNat ≤ 191) = b := h
set_option maxHeartbeats 8000000 in
set_option maxRecDepth 100000 in
theorem charR_any (s : List UInt8) (i : Nat) (w : World) (hi : i < s.length) (hs : s.length ≤ 140737488355328) :
    Calls Tryz.prog 105 #[.string ⟨s.toArray⟩, .int .i64 i] w fun x w' => x = .returned (.int .i64 (char (s.drop i) : Nat)) ∧ w = w' := by
  have hidx := run_index_list Tryz.underlying9 s i hi
  have HZ := Lib.hid (char_zero hi)
  have HC : Hid (∀ (n lo hi' : Nat), ¬ (s.getD i 0).toNat < 128 → clsN (s.getD i 0) = n → clsLo (s.getD i 0) = lo → clsHi (s.getD i 0) = hi' → _) := Lib.hid (fun n lo hi' h h1 h2 h3 => char_at hi h h1 h2 h3)
  generalize s.getD i 0 = c at hidx HZ HC
  generalize char (s.drop i) = r at HZ HC ⊢
  by_cases h128 : c.toNat < 128
  · have l1 : ((c.toNat : Int) < 128) = True := eq_true (by omega)
    have HR := Lib.hid (HZ.out h128)
    clear HC HZ h128
    go_enter Tryz.func105, Tryz.ntmps105
    go_wp2
    go_ret
    exact ⟨by rw [HR.out]; rfl, rfl⟩
  · have l1 : ((c.toNat : Int) < 128) = False := eq_false (by omega)
    rcases (cls8 c).resolve_left h128 with h | h | h | h | h | h | h | h
    · obtain ⟨e1, e2, e3, q1, q2, q3, q4, hn, hlo, hhi⟩ := clsB_is h
      have HR := Lib.hid (HC.out 2 128 191 h128 hn hlo hhi)
      have HW1 := Lib.hid (fun wx => within_is e1 wx)
      have HW2 := Lib.hid (fun wx => within_is e2 wx)
      have HW3 := Lib.hid (fun wx => within_is e3 wx)
      clear HC HZ h h128 hn hlo hhi e1 e2 e3
      by_cases hfit : s.length < i + 2
      · have HQ : Hid (r = 0) := Lib.hid (by rw [HR.out, if_pos (.inr (.inl hfit))])
        have l2 : ((s.length : Int) < (i : Int) + 2) = True := eq_true (by omega)
        clear HR
        go_enter Tryz.func105, Tryz.ntmps105
        go_wp2_with fail
        refine (HW1.out _).mono ?_
        rintro x wy ⟨rfl, rfl⟩
        go_wp2
        go_ret
        exact ⟨by rw [HQ.out]; rfl, rfl⟩
      · have l2 : ((s.length : Int) < (i : Int) + 2) = False := eq_false (by omega)
        have hidx1 := run_index_list Tryz.underlying9 s (i + 1) (by omega)
        push_cast at hidx1
        have HX : Hid (¬ (s.length < i + 2)) := Lib.hid hfit
        generalize s.getD (i + 1) 0 = x1 at hidx1 HR
        by_cases hx : 128 ≤ x1.toNat ∧ x1.toNat ≤ 191
        · have HW4 := Lib.hid (fun wx => within_is (lo := 128) (hi := 191) (decide_eq_true hx) wx)
          have HQ : Hid (r = if (2 < 2 → cont (s.getD (i + 2) 0) = true) ∧ (3 < 2 → cont (s.getD (i + 3) 0) = true) then 2 else 0) := Lib.hid (by
            rw [HR.out, if_neg]
            rintro (e | e | e)
            · exact absurd e (by decide)
            · exact HX.out e
            · exact e hx)
          clear HR hx
          go_enter Tryz.func105, Tryz.ntmps105
          go_wp2_with fail
          refine (HW1.out _).mono ?_
          rintro x wy ⟨rfl, rfl⟩
          go_wp2_with fail
          refine (HW4.out _).mono ?_
          rintro x wy ⟨rfl, rfl⟩
          go_wp2_with fail
          go_loopw [9] (fun kv wr => ∃ j : Nat, 2 ≤ j ∧ j ≤ 2 ∧ kv = .int .i64 j ∧ Hid (∀ q, 2 ≤ q → q < j → cont (s.getD (i + q) 0) = true) ∧ wr = w) (fun kv _ => 2 - (intOf kv).toNat)
          case atStart => exact ⟨2, by omega, by omega, rfl, Lib.hid (fun q h1 h2 => absurd h2 (by omega)), rfl⟩
          case round =>
            clear HW1 HW2 HW3 HW4
            obtain ⟨j, hj2, hjn, rfl, HA, hwr⟩ := hrel
            subst hwr
            by_cases hlt : j < 2
            · exact absurd hlt (by omega)
            · have HF : Hid (r = 2) := Lib.hid (by
                rw [HQ.out, if_pos ⟨fun e => HA.out 2 (by omega) (by omega), fun e => HA.out 3 (by omega) (by omega)⟩])
              go_wp2_with fail
              go_ret
              exact ⟨by rw [HF.out]; rfl, rfl⟩
        · have HW4 := Lib.hid (fun wx => within_is (lo := 128) (hi := 191) (decide_eq_false hx) wx)
          have HQ : Hid (r = 0) := Lib.hid (by rw [HR.out, if_pos (.inr (.inr hx))])
          clear HR hx
          go_enter Tryz.func105, Tryz.ntmps105
          go_wp2_with fail
          refine (HW1.out _).mono ?_
          rintro x wy ⟨rfl, rfl⟩
          go_wp2_with fail
          refine (HW4.out _).mono ?_
          rintro x wy ⟨rfl, rfl⟩
          go_wp2
          go_ret
          exact ⟨by rw [HQ.out]; rfl, rfl⟩
    · obtain ⟨e1, e2, e3, q1, q2, q3, q4, hn, hlo, hhi⟩ := clsB_is h
      have HR := Lib.hid (HC.out 3 160 191 h128 hn hlo hhi)
      have HW1 := Lib.hid (fun wx => within_is e1 wx)
      have HW2 := Lib.hid (fun wx => within_is e2 wx)
      have HW3 := Lib.hid (fun wx => within_is e3 wx)
      clear HC HZ h h128 hn hlo hhi e1 e2 e3
      by_cases hfit : s.length < i + 3
      · have HQ : Hid (r = 0) := Lib.hid (by rw [HR.out, if_pos (.inr (.inl hfit))])
        have l2 : ((s.length : Int) < (i : Int) + 3) = True := eq_true (by omega)
        clear HR
        go_enter Tryz.func105, Tryz.ntmps105
        go_wp2_with fail
        refine (HW1.out _).mono ?_
        rintro x wy ⟨rfl, rfl⟩
        go_wp2_with fail
        refine (HW2.out _).mono ?_
        rintro x wy ⟨rfl, rfl⟩
        go_wp2
        go_ret
        exact ⟨by rw [HQ.out]; rfl, rfl⟩
      · have l2 : ((s.length : Int) < (i : Int) + 3) = False := eq_false (by omega)
        have hidx1 := run_index_list Tryz.underlying9 s (i + 1) (by omega)
        push_cast at hidx1
        have HX : Hid (¬ (s.length < i + 3)) := Lib.hid hfit
        generalize s.getD (i + 1) 0 = x1 at hidx1 HR
        by_cases hx : 160 ≤ x1.toNat ∧ x1.toNat ≤ 191
        · have HW4 := Lib.hid (fun wx => within_is (lo := 160) (hi := 191) (decide_eq_true hx) wx)
          have HQ : Hid (r = if (2 < 3 → cont (s.getD (i + 2) 0) = true) ∧ (3 < 3 → cont (s.getD (i + 3) 0) = true) then 3 else 0) := Lib.hid (by
            rw [HR.out, if_neg]
            rintro (e | e | e)
            · exact absurd e (by decide)
            · exact HX.out e
            · exact e hx)
          clear HR hx
          go_enter Tryz.func105, Tryz.ntmps105
          go_wp2_with fail
          refine (HW1.out _).mono ?_
          rintro x wy ⟨rfl, rfl⟩
          go_wp2_with fail
          refine (HW2.out _).mono ?_
          rintro x wy ⟨rfl, rfl⟩
          go_wp2_with fail
          refine (HW4.out _).mono ?_
          rintro x wy ⟨rfl, rfl⟩
          go_wp2_with fail
          go_loopw [9] (fun kv wr => ∃ j : Nat, 2 ≤ j ∧ j ≤ 3 ∧ kv = .int .i64 j ∧ Hid (∀ q, 2 ≤ q → q < j → cont (s.getD (i + q) 0) = true) ∧ wr = w) (fun kv _ => 3 - (intOf kv).toNat)
          case atStart => exact ⟨2, by omega, by omega, rfl, Lib.hid (fun q h1 h2 => absurd h2 (by omega)), rfl⟩
          case round =>
            clear HW1 HW2 HW3 HW4
            obtain ⟨j, hj2, hjn, rfl, HA, hwr⟩ := hrel
            subst hwr
            by_cases hlt : j < 3
            · have hidx2 := run_index_list Tryz.underlying9 s (i + j) (by omega)
              push_cast at hidx2
              by_cases hc : cont (s.getD (i + j) 0) = true
              · have HW5 := Lib.hid (fun wx => within_is (contw _ hc) wx)
                have H1 : Hid (∀ q, 2 ≤ q → q < j + 1 → cont (s.getD (i + q) 0) = true) := Lib.hid (fun q h1 h2 => by
                  rcases Nat.lt_or_ge q j with h | h
                  · exact HA.out q h1 h
                  · obtain rfl : q = j := by omega
                    exact hc)
                clear hc
                generalize s.getD (i + j) 0 = x2 at hidx2 HW5
                go_wp2_with fail
                refine (HW5.out _).mono ?_
                rintro x wy ⟨rfl, rfl⟩
                go_wp2_with fail
                go_roundw
                case rel => exact ⟨j + 1, by omega, by omega, by go_num, H1, trivial⟩
                case measure => simp [intOf]; omega
              · have HW5 := Lib.hid (fun wx => within_is (contw _ (Bool.eq_false_iff.2 hc)) wx)
                have HF : Hid (r = 0) := Lib.hid (by
                  rw [HQ.out, if_neg]
                  rintro ⟨g1, g2⟩
                  rcases (show j = 2 ∨ j = 3 by omega) with rfl | rfl
                  · exact hc (g1 (by omega))
                  · exact hc (g2 (by omega)))
                clear hc
                generalize s.getD (i + j) 0 = x2 at hidx2 HW5
                go_wp2_with fail
                refine (HW5.out _).mono ?_
                rintro x wy ⟨rfl, rfl⟩
                go_wp2_with fail
                go_ret
                exact ⟨by rw [HF.out]; rfl, rfl⟩
            · have HF : Hid (r = 3) := Lib.hid (by
                rw [HQ.out, if_pos ⟨fun e => HA.out 2 (by omega) (by omega), fun e => HA.out 3 (by omega) (by omega)⟩])
              go_wp2_with fail
              go_ret
              exact ⟨by rw [HF.out]; rfl, rfl⟩
        · have HW4 := Lib.hid (fun wx => within_is (lo := 160) (hi := 191) (decide_eq_false hx) wx)
          have HQ : Hid (r = 0) := Lib.hid (by rw [HR.out, if_pos (.inr (.inr hx))])
          clear HR hx
          go_enter Tryz.func105, Tryz.ntmps105
          go_wp2_with fail
          refine (HW1.out _).mono ?_
          rintro x wy ⟨rfl, rfl⟩
          go_wp2_with fail
          refine (HW2.out _).mono ?_
          rintro x wy ⟨rfl, rfl⟩
          go_wp2_with fail
          refine (HW4.out _).mono ?_
          rintro x wy ⟨rfl, rfl⟩
          go_wp2
          go_ret
          exact ⟨by rw [HQ.out]; rfl, rfl⟩
    · obtain ⟨e1, e2, e3, q1, q2, q3, q4, hn, hlo, hhi⟩ := clsB_is h
      have HR := Lib.hid (HC.out 3 128 159 h128 hn hlo hhi)
      have HW1 := Lib.hid (fun wx => within_is e1 wx)
      have HW2 := Lib.hid (fun wx => within_is e2 wx)
      have HW3 := Lib.hid (fun wx => within_is e3 wx)
      clear HC HZ h h128 hn hlo hhi e1 e2 e3
      by_cases hfit : s.length < i + 3
      · have HQ : Hid (r = 0) := Lib.hid (by rw [HR.out, if_pos (.inr (.inl hfit))])
        have l2 : ((s.length : Int) < (i : Int) + 3) = True := eq_true (by omega)
        clear HR
        go_enter Tryz.func105, Tryz.ntmps105
        go_wp2_with fail
        refine (HW1.out _).mono ?_
        rintro x wy ⟨rfl, rfl⟩
        go_wp2_with fail
        refine (HW2.out _).mono ?_
        rintro x wy ⟨rfl, rfl⟩
        go_wp2
        go_ret
        exact ⟨by rw [HQ.out]; rfl, rfl⟩
      · have l2 : ((s.length : Int) < (i : Int) + 3) = False := eq_false (by omega)
        have hidx1 := run_index_list Tryz.underlying9 s (i + 1) (by omega)
        push_cast at hidx1
        have HX : Hid (¬ (s.length < i + 3)) := Lib.hid hfit
        generalize s.getD (i + 1) 0 = x1 at hidx1 HR
        by_cases hx : 128 ≤ x1.toNat ∧ x1.toNat ≤ 159
        · have HW4 := Lib.hid (fun wx => within_is (lo := 128) (hi := 159) (decide_eq_true hx) wx)
          have HQ : Hid (r = if (2 < 3 → cont (s.getD (i + 2) 0) = true) ∧ (3 < 3 → cont (s.getD (i + 3) 0) = true) then 3 else 0) := Lib.hid (by
            rw [HR.out, if_neg]
            rintro (e | e | e)
            · exact absurd e (by decide)
            · exact HX.out e
            · exact e hx)
          clear HR hx
          go_enter Tryz.func105, Tryz.ntmps105
          go_wp2_with fail
          refine (HW1.out _).mono ?_
          rintro x wy ⟨rfl, rfl⟩
          go_wp2_with fail
          refine (HW2.out _).mono ?_
          rintro x wy ⟨rfl, rfl⟩
          go_wp2_with fail
          refine (HW4.out _).mono ?_
          rintro x wy ⟨rfl, rfl⟩
          go_wp2_with fail
          go_loopw [9] (fun kv wr => ∃ j : Nat, 2 ≤ j ∧ j ≤ 3 ∧ kv = .int .i64 j ∧ Hid (∀ q, 2 ≤ q → q < j → cont (s.getD (i + q) 0) = true) ∧ wr = w) (fun kv _ => 3 - (intOf kv).toNat)
          case atStart => exact ⟨2, by omega, by omega, rfl, Lib.hid (fun q h1 h2 => absurd h2 (by omega)), rfl⟩
          case round =>
            clear HW1 HW2 HW3 HW4
            obtain ⟨j, hj2, hjn, rfl, HA, hwr⟩ := hrel
            subst hwr
            by_cases hlt : j < 3
            · have hidx2 := run_index_list Tryz.underlying9 s (i + j) (by omega)
              push_cast at hidx2
              by_cases hc : cont (s.getD (i + j) 0) = true
              · have HW5 := Lib.hid (fun wx => within_is (contw _ hc) wx)
                have H1 : Hid (∀ q, 2 ≤ q → q < j + 1 → cont (s.getD (i + q) 0) = true) := Lib.hid (fun q h1 h2 => by
                  rcases Nat.lt_or_ge q j with h | h
                  · exact HA.out q h1 h
                  · obtain rfl : q = j := by omega
                    exact hc)
                clear hc
                generalize s.getD (i + j) 0 = x2 at hidx2 HW5
                go_wp2_with fail
                refine (HW5.out _).mono ?_
                rintro x wy ⟨rfl, rfl⟩
                go_wp2_with fail
                go_roundw
                case rel => exact ⟨j + 1, by omega, by omega, by go_num, H1, trivial⟩
                case measure => simp [intOf]; omega
              · have HW5 := Lib.hid (fun wx => within_is (contw _ (Bool.eq_false_iff.2 hc)) wx)
                have HF : Hid (r = 0) := Lib.hid (by
                  rw [HQ.out, if_neg]
                  rintro ⟨g1, g2⟩
                  rcases (show j = 2 ∨ j = 3 by omega) with rfl | rfl
                  · exact hc (g1 (by omega))
                  · exact hc (g2 (by omega)))
                clear hc
                generalize s.getD (i + j) 0 = x2 at hidx2 HW5
                go_wp2_with fail
                refine (HW5.out _).mono ?_
                rintro x wy ⟨rfl, rfl⟩
                go_wp2_with fail
                go_ret
                exact ⟨by rw [HF.out]; rfl, rfl⟩
            · have HF : Hid (r = 3) := Lib.hid (by
                rw [HQ.out, if_pos ⟨fun e => HA.out 2 (by omega) (by omega), fun e => HA.out 3 (by omega) (by omega)⟩])
              go_wp2_with fail
              go_ret
              exact ⟨by rw [HF.out]; rfl, rfl⟩
        · have HW4 := Lib.hid (fun wx => within_is (lo := 128) (hi := 159) (decide_eq_false hx) wx)
          have HQ : Hid (r = 0) := Lib.hid (by rw [HR.out, if_pos (.inr (.inr hx))])
          clear HR hx
          go_enter Tryz.func105, Tryz.ntmps105
          go_wp2_with fail
          refine (HW1.out _).mono ?_
          rintro x wy ⟨rfl, rfl⟩
          go_wp2_with fail
          refine (HW2.out _).mono ?_
          rintro x wy ⟨rfl, rfl⟩
          go_wp2_with fail
          refine (HW4.out _).mono ?_
          rintro x wy ⟨rfl, rfl⟩
          go_wp2
          go_ret
          exact ⟨by rw [HQ.out]; rfl, rfl⟩
    · obtain ⟨e1, e2, e3, q1, q2, q3, q4, hn, hlo, hhi⟩ := clsB_is h
      have HR := Lib.hid (HC.out 3 128 191 h128 hn hlo hhi)
      have HW1 := Lib.hid (fun wx => within_is e1 wx)
      have HW2 := Lib.hid (fun wx => within_is e2 wx)
      have HW3 := Lib.hid (fun wx => within_is e3 wx)
      clear HC HZ h h128 hn hlo hhi e1 e2 e3
      by_cases hfit : s.length < i + 3
      · have HQ : Hid (r = 0) := Lib.hid (by rw [HR.out, if_pos (.inr (.inl hfit))])
        have l2 : ((s.length : Int) < (i : Int) + 3) = True := eq_true (by omega)
        clear HR
        go_enter Tryz.func105, Tryz.ntmps105
        go_wp2_with fail
        refine (HW1.out _).mono ?_
        rintro x wy ⟨rfl, rfl⟩
        go_wp2_with fail
        refine (HW2.out _).mono ?_
        rintro x wy ⟨rfl, rfl⟩
        go_wp2
        go_ret
        exact ⟨by rw [HQ.out]; rfl, rfl⟩
      · have l2 : ((s.length : Int) < (i : Int) + 3) = False := eq_false (by omega)
        have hidx1 := run_index_list Tryz.underlying9 s (i + 1) (by omega)
        push_cast at hidx1
        have HX : Hid (¬ (s.length < i + 3)) := Lib.hid hfit
        generalize s.getD (i + 1) 0 = x1 at hidx1 HR
        by_cases hx : 128 ≤ x1.toNat ∧ x1.toNat ≤ 191
        · have HW4 := Lib.hid (fun wx => within_is (lo := 128) (hi := 191) (decide_eq_true hx) wx)
          have HQ : Hid (r = if (2 < 3 → cont (s.getD (i + 2) 0) = true) ∧ (3 < 3 → cont (s.getD (i + 3) 0) = true) then 3 else 0) := Lib.hid (by
            rw [HR.out, if_neg]
            rintro (e | e | e)
            · exact absurd e (by decide)
            · exact HX.out e
            · exact e hx)
          clear HR hx
          go_enter Tryz.func105, Tryz.ntmps105
          go_wp2_with fail
          refine (HW1.out _).mono ?_
          rintro x wy ⟨rfl, rfl⟩
          go_wp2_with fail
          refine (HW2.out _).mono ?_
          rintro x wy ⟨rfl, rfl⟩
          go_wp2_with fail
          refine (HW4.out _).mono ?_
          rintro x wy ⟨rfl, rfl⟩
          go_wp2_with fail
          go_loopw [9] (fun kv wr => ∃ j : Nat, 2 ≤ j ∧ j ≤ 3 ∧ kv = .int .i64 j ∧ Hid (∀ q, 2 ≤ q → q < j → cont (s.getD (i + q) 0) = true) ∧ wr = w) (fun kv _ => 3 - (intOf kv).toNat)
          case atStart => exact ⟨2, by omega, by omega, rfl, Lib.hid (fun q h1 h2 => absurd h2 (by omega)), rfl⟩
          case round =>
            clear HW1 HW2 HW3 HW4
            obtain ⟨j, hj2, hjn, rfl, HA, hwr⟩ := hrel
            subst hwr
            by_cases hlt : j < 3
            · have hidx2 := run_index_list Tryz.underlying9 s (i + j) (by omega)
              push_cast at hidx2
              by_cases hc : cont (s.getD (i + j) 0) = true
              · have HW5 := Lib.hid (fun wx => within_is (contw _ hc) wx)
                have H1 : Hid (∀ q, 2 ≤ q → q < j + 1 → cont (s.getD (i + q) 0) = true) := Lib.hid (fun q h1 h2 => by
                  rcases Nat.lt_or_ge q j with h | h
                  · exact HA.out q h1 h
                  · obtain rfl : q = j := by omega
                    exact hc)
                clear hc
                generalize s.getD (i + j) 0 = x2 at hidx2 HW5
                go_wp2_with fail
                refine (HW5.out _).mono ?_
                rintro x wy ⟨rfl, rfl⟩
                go_wp2_with fail
                go_roundw
                case rel => exact ⟨j + 1, by omega, by omega, by go_num, H1, trivial⟩
                case measure => simp [intOf]; omega
              · have HW5 := Lib.hid (fun wx => within_is (contw _ (Bool.eq_false_iff.2 hc)) wx)
                have HF : Hid (r = 0) := Lib.hid (by
                  rw [HQ.out, if_neg]
                  rintro ⟨g1, g2⟩
                  rcases (show j = 2 ∨ j = 3 by omega) with rfl | rfl
                  · exact hc (g1 (by omega))
                  · exact hc (g2 (by omega)))
                clear hc
                generalize s.getD (i + j) 0 = x2 at hidx2 HW5
                go_wp2_with fail
                refine (HW5.out _).mono ?_
                rintro x wy ⟨rfl, rfl⟩
                go_wp2_with fail
                go_ret
                exact ⟨by rw [HF.out]; rfl, rfl⟩
            · have HF : Hid (r = 3) := Lib.hid (by
                rw [HQ.out, if_pos ⟨fun e => HA.out 2 (by omega) (by omega), fun e => HA.out 3 (by omega) (by omega)⟩])
              go_wp2_with fail
              go_ret
              exact ⟨by rw [HF.out]; rfl, rfl⟩
        · have HW4 := Lib.hid (fun wx => within_is (lo := 128) (hi := 191) (decide_eq_false hx) wx)
          have HQ : Hid (r = 0) := Lib.hid (by rw [HR.out, if_pos (.inr (.inr hx))])
          clear HR hx
          go_enter Tryz.func105, Tryz.ntmps105
          go_wp2_with fail
          refine (HW1.out _).mono ?_
          rintro x wy ⟨rfl, rfl⟩
          go_wp2_with fail
          refine (HW2.out _).mono ?_
          rintro x wy ⟨rfl, rfl⟩
          go_wp2_with fail
          refine (HW4.out _).mono ?_
          rintro x wy ⟨rfl, rfl⟩
          go_wp2
          go_ret
          exact ⟨by rw [HQ.out]; rfl, rfl⟩
    · obtain ⟨e1, e2, e3, q1, q2, q3, q4, hn, hlo, hhi⟩ := clsB_is h
      have HR := Lib.hid (HC.out 4 144 191 h128 hn hlo hhi)
      have HW1 := Lib.hid (fun wx => within_is e1 wx)
      have HW2 := Lib.hid (fun wx => within_is e2 wx)
      have HW3 := Lib.hid (fun wx => within_is e3 wx)
      clear HC HZ h h128 hn hlo hhi e1 e2 e3
      by_cases hfit : s.length < i + 4
      · have HQ : Hid (r = 0) := Lib.hid (by rw [HR.out, if_pos (.inr (.inl hfit))])
        have l2 : ((s.length : Int) < (i : Int) + 4) = True := eq_true (by omega)
        clear HR
        go_enter Tryz.func105, Tryz.ntmps105
        go_wp2_with fail
        refine (HW1.out _).mono ?_
        rintro x wy ⟨rfl, rfl⟩
        go_wp2_with fail
        refine (HW2.out _).mono ?_
        rintro x wy ⟨rfl, rfl⟩
        go_wp2_with fail
        refine (HW3.out _).mono ?_
        rintro x wy ⟨rfl, rfl⟩
        go_wp2
        go_ret
        exact ⟨by rw [HQ.out]; rfl, rfl⟩
      · have l2 : ((s.length : Int) < (i : Int) + 4) = False := eq_false (by omega)
        have hidx1 := run_index_list Tryz.underlying9 s (i + 1) (by omega)
        push_cast at hidx1
        have HX : Hid (¬ (s.length < i + 4)) := Lib.hid hfit
        generalize s.getD (i + 1) 0 = x1 at hidx1 HR
        by_cases hx : 144 ≤ x1.toNat ∧ x1.toNat ≤ 191
        · have HW4 := Lib.hid (fun wx => within_is (lo := 144) (hi := 191) (decide_eq_true hx) wx)
          have HQ : Hid (r = if (2 < 4 → cont (s.getD (i + 2) 0) = true) ∧ (3 < 4 → cont (s.getD (i + 3) 0) = true) then 4 else 0) := Lib.hid (by
            rw [HR.out, if_neg]
            rintro (e | e | e)
            · exact absurd e (by decide)
            · exact HX.out e
            · exact e hx)
          clear HR hx
          go_enter Tryz.func105, Tryz.ntmps105
          go_wp2_with fail
          refine (HW1.out _).mono ?_
          rintro x wy ⟨rfl, rfl⟩
          go_wp2_with fail
          refine (HW2.out _).mono ?_
          rintro x wy ⟨rfl, rfl⟩
          go_wp2_with fail
          refine (HW3.out _).mono ?_
          rintro x wy ⟨rfl, rfl⟩
          go_wp2_with fail
          refine (HW4.out _).mono ?_
          rintro x wy ⟨rfl, rfl⟩
          go_wp2_with fail
          go_loopw [9] (fun kv wr => ∃ j : Nat, 2 ≤ j ∧ j ≤ 4 ∧ kv = .int .i64 j ∧ Hid (∀ q, 2 ≤ q → q < j → cont (s.getD (i + q) 0) = true) ∧ wr = w) (fun kv _ => 4 - (intOf kv).toNat)
          case atStart => exact ⟨2, by omega, by omega, rfl, Lib.hid (fun q h1 h2 => absurd h2 (by omega)), rfl⟩
          case round =>
            clear HW1 HW2 HW3 HW4
            obtain ⟨j, hj2, hjn, rfl, HA, hwr⟩ := hrel
            subst hwr
            by_cases hlt : j < 4
            · have hidx2 := run_index_list Tryz.underlying9 s (i + j) (by omega)
              push_cast at hidx2
              by_cases hc : cont (s.getD (i + j) 0) = true
              · have HW5 := Lib.hid (fun wx => within_is (contw _ hc) wx)
                have H1 : Hid (∀ q, 2 ≤ q → q < j + 1 → cont (s.getD (i + q) 0) = true) := Lib.hid (fun q h1 h2 => by
                  rcases Nat.lt_or_ge q j with h | h
                  · exact HA.out q h1 h
                  · obtain rfl : q = j := by omega
                    exact hc)
                clear hc
                generalize s.getD (i + j) 0 = x2 at hidx2 HW5
                go_wp2_with fail
                refine (HW5.out _).mono ?_
                rintro x wy ⟨rfl, rfl⟩
                go_wp2_with fail
                go_roundw
                case rel => exact ⟨j + 1, by omega, by omega, by go_num, H1, trivial⟩
                case measure => simp [intOf]; omega
              · have HW5 := Lib.hid (fun wx => within_is (contw _ (Bool.eq_false_iff.2 hc)) wx)
                have HF : Hid (r = 0) := Lib.hid (by
                  rw [HQ.out, if_neg]
                  rintro ⟨g1, g2⟩
                  rcases (show j = 2 ∨ j = 3 by omega) with rfl | rfl
                  · exact hc (g1 (by omega))
                  · exact hc (g2 (by omega)))
                clear hc
                generalize s.getD (i + j) 0 = x2 at hidx2 HW5
                go_wp2_with fail
                refine (HW5.out _).mono ?_
                rintro x wy ⟨rfl, rfl⟩
                go_wp2_with fail
                go_ret
                exact ⟨by rw [HF.out]; rfl, rfl⟩
            · have HF : Hid (r = 4) := Lib.hid (by
                rw [HQ.out, if_pos ⟨fun e => HA.out 2 (by omega) (by omega), fun e => HA.out 3 (by omega) (by omega)⟩])
              go_wp2_with fail
              go_ret
              exact ⟨by rw [HF.out]; rfl, rfl⟩
        · have HW4 := Lib.hid (fun wx => within_is (lo := 144) (hi := 191) (decide_eq_false hx) wx)
          have HQ : Hid (r = 0) := Lib.hid (by rw [HR.out, if_pos (.inr (.inr hx))])
          clear HR hx
          go_enter Tryz.func105, Tryz.ntmps105
          go_wp2_with fail
          refine (HW1.out _).mono ?_
          rintro x wy ⟨rfl, rfl⟩
          go_wp2_with fail
          refine (HW2.out _).mono ?_
          rintro x wy ⟨rfl, rfl⟩
          go_wp2_with fail
          refine (HW3.out _).mono ?_
          rintro x wy ⟨rfl, rfl⟩
          go_wp2_with fail
          refine (HW4.out _).mono ?_
          rintro x wy ⟨rfl, rfl⟩
          go_wp2
          go_ret
          exact ⟨by rw [HQ.out]; rfl, rfl⟩
    · obtain ⟨e1, e2, e3, q1, q2, q3, q4, hn, hlo, hhi⟩ := clsB_is h
      have HR := Lib.hid (HC.out 4 128 143 h128 hn hlo hhi)
      have HW1 := Lib.hid (fun wx => within_is e1 wx)
      have HW2 := Lib.hid (fun wx => within_is e2 wx)
      have HW3 := Lib.hid (fun wx => within_is e3 wx)
      clear HC HZ h h128 hn hlo hhi e1 e2 e3
      by_cases hfit : s.length < i + 4
      · have HQ : Hid (r = 0) := Lib.hid (by rw [HR.out, if_pos (.inr (.inl hfit))])
        have l2 : ((s.length : Int) < (i : Int) + 4) = True := eq_true (by omega)
        clear HR
        go_enter Tryz.func105, Tryz.ntmps105
        go_wp2_with fail
        refine (HW1.out _).mono ?_
        rintro x wy ⟨rfl, rfl⟩
        go_wp2_with fail
        refine (HW2.out _).mono ?_
        rintro x wy ⟨rfl, rfl⟩
        go_wp2_with fail
        refine (HW3.out _).mono ?_
        rintro x wy ⟨rfl, rfl⟩
        go_wp2
        go_ret
        exact ⟨by rw [HQ.out]; rfl, rfl⟩
      · have l2 : ((s.length : Int) < (i : Int) + 4) = False := eq_false (by omega)
        have hidx1 := run_index_list Tryz.underlying9 s (i + 1) (by omega)
        push_cast at hidx1
        have HX : Hid (¬ (s.length < i + 4)) := Lib.hid hfit
        generalize s.getD (i + 1) 0 = x1 at hidx1 HR
        by_cases hx : 128 ≤ x1.toNat ∧ x1.toNat ≤ 143
        · have HW4 := Lib.hid (fun wx => within_is (lo := 128) (hi := 143) (decide_eq_true hx) wx)
          have HQ : Hid (r = if (2 < 4 → cont (s.getD (i + 2) 0) = true) ∧ (3 < 4 → cont (s.getD (i + 3) 0) = true) then 4 else 0) := Lib.hid (by
            rw [HR.out, if_neg]
            rintro (e | e | e)
            · exact absurd e (by decide)
            · exact HX.out e
            · exact e hx)
          clear HR hx
          go_enter Tryz.func105, Tryz.ntmps105
          go_wp2_with fail
          refine (HW1.out _).mono ?_
          rintro x wy ⟨rfl, rfl⟩
          go_wp2_with fail
          refine (HW2.out _).mono ?_
          rintro x wy ⟨rfl, rfl⟩
          go_wp2_with fail
          refine (HW3.out _).mono ?_
          rintro x wy ⟨rfl, rfl⟩
          go_wp2_with fail
          refine (HW4.out _).mono ?_
          rintro x wy ⟨rfl, rfl⟩
          go_wp2_with fail
          go_loopw [9] (fun kv wr => ∃ j : Nat, 2 ≤ j ∧ j ≤ 4 ∧ kv = .int .i64 j ∧ Hid (∀ q, 2 ≤ q → q < j → cont (s.getD (i + q) 0) = true) ∧ wr = w) (fun kv _ => 4 - (intOf kv).toNat)
          case atStart => exact ⟨2, by omega, by omega, rfl, Lib.hid (fun q h1 h2 => absurd h2 (by omega)), rfl⟩
          case round =>
            clear HW1 HW2 HW3 HW4
            obtain ⟨j, hj2, hjn, rfl, HA, hwr⟩ := hrel
            subst hwr
            by_cases hlt : j < 4
            · have hidx2 := run_index_list Tryz.underlying9 s (i + j) (by omega)
              push_cast at hidx2
              by_cases hc : cont (s.getD (i + j) 0) = true
              · have HW5 := Lib.hid (fun wx => within_is (contw _ hc) wx)
                have H1 : Hid (∀ q, 2 ≤ q → q < j + 1 → cont (s.getD (i + q) 0) = true) := Lib.hid (fun q h1 h2 => by
                  rcases Nat.lt_or_ge q j with h | h
                  · exact HA.out q h1 h
                  · obtain rfl : q = j := by omega
                    exact hc)
                clear hc
                generalize s.getD (i + j) 0 = x2 at hidx2 HW5
                go_wp2_with fail
                refine (HW5.out _).mono ?_
                rintro x wy ⟨rfl, rfl⟩
                go_wp2_with fail
                go_roundw
                case rel => exact ⟨j + 1, by omega, by omega, by go_num, H1, trivial⟩
                case measure => simp [intOf]; omega
              · have HW5 := Lib.hid (fun wx => within_is (contw _ (Bool.eq_false_iff.2 hc)) wx)
                have HF : Hid (r = 0) := Lib.hid (by
                  rw [HQ.out, if_neg]
                  rintro ⟨g1, g2⟩
                  rcases (show j = 2 ∨ j = 3 by omega) with rfl | rfl
                  · exact hc (g1 (by omega))
                  · exact hc (g2 (by omega)))
                clear hc
                generalize s.getD (i + j) 0 = x2 at hidx2 HW5
                go_wp2_with fail
                refine (HW5.out _).mono ?_
                rintro x wy ⟨rfl, rfl⟩
                go_wp2_with fail
                go_ret
                exact ⟨by rw [HF.out]; rfl, rfl⟩
            · have HF : Hid (r = 4) := Lib.hid (by
                rw [HQ.out, if_pos ⟨fun e => HA.out 2 (by omega) (by omega), fun e => HA.out 3 (by omega) (by omega)⟩])
              go_wp2_with fail
              go_ret
              exact ⟨by rw [HF.out]; rfl, rfl⟩
        · have HW4 := Lib.hid (fun wx => within_is (lo := 128) (hi := 143) (decide_eq_false hx) wx)
          have HQ : Hid (r = 0) := Lib.hid (by rw [HR.out, if_pos (.inr (.inr hx))])
          clear HR hx
          go_enter Tryz.func105, Tryz.ntmps105
          go_wp2_with fail
          refine (HW1.out _).mono ?_
          rintro x wy ⟨rfl, rfl⟩
          go_wp2_with fail
          refine (HW2.out _).mono ?_
          rintro x wy ⟨rfl, rfl⟩
          go_wp2_with fail
          refine (HW3.out _).mono ?_
          rintro x wy ⟨rfl, rfl⟩
          go_wp2_with fail
          refine (HW4.out _).mono ?_
          rintro x wy ⟨rfl, rfl⟩
          go_wp2
          go_ret
          exact ⟨by rw [HQ.out]; rfl, rfl⟩
    · obtain ⟨e1, e2, e3, q1, q2, q3, q4, hn, hlo, hhi⟩ := clsB_is h
      have HR := Lib.hid (HC.out 4 128 191 h128 hn hlo hhi)
      have HW1 := Lib.hid (fun wx => within_is e1 wx)
      have HW2 := Lib.hid (fun wx => within_is e2 wx)
      have HW3 := Lib.hid (fun wx => within_is e3 wx)
      clear HC HZ h h128 hn hlo hhi e1 e2 e3
      by_cases hfit : s.length < i + 4
      · have HQ : Hid (r = 0) := Lib.hid (by rw [HR.out, if_pos (.inr (.inl hfit))])
        have l2 : ((s.length : Int) < (i : Int) + 4) = True := eq_true (by omega)
        clear HR
        go_enter Tryz.func105, Tryz.ntmps105
        go_wp2_with fail
        refine (HW1.out _).mono ?_
        rintro x wy ⟨rfl, rfl⟩
        go_wp2_with fail
        refine (HW2.out _).mono ?_
        rintro x wy ⟨rfl, rfl⟩
        go_wp2_with fail
        refine (HW3.out _).mono ?_
        rintro x wy ⟨rfl, rfl⟩
        go_wp2
        go_ret
        exact ⟨by rw [HQ.out]; rfl, rfl⟩
      · have l2 : ((s.length : Int) < (i : Int) + 4) = False := eq_false (by omega)
        have hidx1 := run_index_list Tryz.underlying9 s (i + 1) (by omega)
        push_cast at hidx1
        have HX : Hid (¬ (s.length < i + 4)) := Lib.hid hfit
        generalize s.getD (i + 1) 0 = x1 at hidx1 HR
        by_cases hx : 128 ≤ x1.toNat ∧ x1.toNat ≤ 191
        · have HW4 := Lib.hid (fun wx => within_is (lo := 128) (hi := 191) (decide_eq_true hx) wx)
          have HQ : Hid (r = if (2 < 4 → cont (s.getD (i + 2) 0) = true) ∧ (3 < 4 → cont (s.getD (i + 3) 0) = true) then 4 else 0) := Lib.hid (by
            rw [HR.out, if_neg]
            rintro (e | e | e)
            · exact absurd e (by decide)
            · exact HX.out e
            · exact e hx)
          clear HR hx
          go_enter Tryz.func105, Tryz.ntmps105
          go_wp2_with fail
          refine (HW1.out _).mono ?_
          rintro x wy ⟨rfl, rfl⟩
          go_wp2_with fail
          refine (HW2.out _).mono ?_
          rintro x wy ⟨rfl, rfl⟩
          go_wp2_with fail
          refine (HW3.out _).mono ?_
          rintro x wy ⟨rfl, rfl⟩
          go_wp2_with fail
          refine (HW4.out _).mono ?_
          rintro x wy ⟨rfl, rfl⟩
          go_wp2_with fail
          go_loopw [9] (fun kv wr => ∃ j : Nat, 2 ≤ j ∧ j ≤ 4 ∧ kv = .int .i64 j ∧ Hid (∀ q, 2 ≤ q → q < j → cont (s.getD (i + q) 0) = true) ∧ wr = w) (fun kv _ => 4 - (intOf kv).toNat)
          case atStart => exact ⟨2, by omega, by omega, rfl, Lib.hid (fun q h1 h2 => absurd h2 (by omega)), rfl⟩
          case round =>
            clear HW1 HW2 HW3 HW4
            obtain ⟨j, hj2, hjn, rfl, HA, hwr⟩ := hrel
            subst hwr
            by_cases hlt : j < 4
            · have hidx2 := run_index_list Tryz.underlying9 s (i + j) (by omega)
              push_cast at hidx2
              by_cases hc : cont (s.getD (i + j) 0) = true
              · have HW5 := Lib.hid (fun wx => within_is (contw _ hc) wx)
                have H1 : Hid (∀ q, 2 ≤ q → q < j + 1 → cont (s.getD (i + q) 0) = true) := Lib.hid (fun q h1 h2 => by
                  rcases Nat.lt_or_ge q j with h | h
                  · exact HA.out q h1 h
                  · obtain rfl : q = j := by omega
                    exact hc)
                clear hc
                generalize s.getD (i + j) 0 = x2 at hidx2 HW5
                go_wp2_with fail
                refine (HW5.out _).mono ?_
                rintro x wy ⟨rfl, rfl⟩
                go_wp2_with fail
                go_roundw
                case rel => exact ⟨j + 1, by omega, by omega, by go_num, H1, trivial⟩
                case measure => simp [intOf]; omega
              · have HW5 := Lib.hid (fun wx => within_is (contw _ (Bool.eq_false_iff.2 hc)) wx)
                have HF : Hid (r = 0) := Lib.hid (by
                  rw [HQ.out, if_neg]
                  rintro ⟨g1, g2⟩
                  rcases (show j = 2 ∨ j = 3 by omega) with rfl | rfl
                  · exact hc (g1 (by omega))
                  · exact hc (g2 (by omega)))
                clear hc
                generalize s.getD (i + j) 0 = x2 at hidx2 HW5
                go_wp2_with fail
                refine (HW5.out _).mono ?_
                rintro x wy ⟨rfl, rfl⟩
                go_wp2_with fail
                go_ret
                exact ⟨by rw [HF.out]; rfl, rfl⟩
            · have HF : Hid (r = 4) := Lib.hid (by
                rw [HQ.out, if_pos ⟨fun e => HA.out 2 (by omega) (by omega), fun e => HA.out 3 (by omega) (by omega)⟩])
              go_wp2_with fail
              go_ret
              exact ⟨by rw [HF.out]; rfl, rfl⟩
        · have HW4 := Lib.hid (fun wx => within_is (lo := 128) (hi := 191) (decide_eq_false hx) wx)
          have HQ : Hid (r = 0) := Lib.hid (by rw [HR.out, if_pos (.inr (.inr hx))])
          clear HR hx
          go_enter Tryz.func105, Tryz.ntmps105
          go_wp2_with fail
          refine (HW1.out _).mono ?_
          rintro x wy ⟨rfl, rfl⟩
          go_wp2_with fail
          refine (HW2.out _).mono ?_
          rintro x wy ⟨rfl, rfl⟩
          go_wp2_with fail
          refine (HW3.out _).mono ?_
          rintro x wy ⟨rfl, rfl⟩
          go_wp2_with fail
          refine (HW4.out _).mono ?_
          rintro x wy ⟨rfl, rfl⟩
          go_wp2
          go_ret
          exact ⟨by rw [HQ.out]; rfl, rfl⟩
    · obtain ⟨e1, e2, e3, q1, q2, q3, q4, hn, hlo, hhi⟩ := clsB_is h
      have HR := Lib.hid (HC.out 0 128 191 h128 hn hlo hhi)
      have HW1 := Lib.hid (fun wx => within_is e1 wx)
      have HW2 := Lib.hid (fun wx => within_is e2 wx)
      have HW3 := Lib.hid (fun wx => within_is e3 wx)
      clear HC HZ h h128 hn hlo hhi e1 e2 e3
      have HQ : Hid (r = 0) := Lib.hid (by rw [HR.out, if_pos (.inl rfl)])
      clear HR
      go_enter Tryz.func105, Tryz.ntmps105
      go_wp2_with fail
      refine (HW1.out _).mono ?_
      rintro x wy ⟨rfl, rfl⟩
      go_wp2_with fail
      refine (HW2.out _).mono ?_
      rintro x wy ⟨rfl, rfl⟩
      go_wp2_with fail
      refine (HW3.out _).mono ?_
      rintro x wy ⟨rfl, rfl⟩
      go_wp2
      go_ret
      exact ⟨by rw [HQ.out]; rfl, rfl⟩
end Js
end Go.Proofs.YtlfeddgpfaigkaaGreatDoor
namespace Go.Proofs.YtlfeddgpfaigkaaGreatDoor
open Go.RowKit
namespace Js
/-- The first wrong byte; -1: none is. -/
def wrongAt (s : List UInt8) : Int := match wrong s with
  | none => -1
  | some r => (s.length : Int) - r.length
theorem char_fits (s : List UInt8) : char s ≤ s.length := by
  cases s with
  | nil => simp [char]
  | cons c r =>
    by_cases h : c.toNat < 128
    · rw [char_ascii h, List.length_cons]; omega
    · rw [char_cls h]
      unfold charG
      split
      · omega
      · rename_i hh
        split
        · rw [List.length_cons]
          by_cases hl : r.length + 1 < clsN c
          · exact absurd (.inr (.inl hl)) hh
          · omega
        · omega
theorem wrong_drop {s : List UInt8} {i : Nat} (hi : i < s.length) : wrong (s.drop i) = if char (s.drop i) = 0 then some (s.drop i) else wrong (s.drop (i + char (s.drop i))) := by
  rw [← List.drop_drop]
  cases e : s.drop i with
  | nil => have := congrArg List.length e; rw [List.length_drop] at this; simp at this; omega
  | cons c r => exact wrong_eq c r
set_option maxHeartbeats 1600000 in
set_option maxRecDepth 100000 in
theorem wrongR_any (s : List UInt8) (w : World) (hs : s.length ≤ 140737488355328) :
    Calls Tryz.prog 45 #[.string ⟨s.toArray⟩] w fun x w' => x = .returned (.int .i64 (wrongAt s)) ∧ w = w' := by
  go_enter Tryz.func45, Tryz.ntmps45
  go_wp2_with fail
  go_loopw [3] (fun i wr => ∃ j : Nat, j ≤ s.length ∧ i = .int .i64 j ∧ Hid (wrong s = wrong (s.drop j)) ∧ wr = w) (fun i _ => s.length - (intOf i).toNat)
  case atStart => exact ⟨0, by omega, rfl, Lib.hid (by simp), rfl⟩
  case round =>
    obtain ⟨j, hj, rfl, HE, hwr⟩ := hrel
    subst hwr
    by_cases hlt : j < s.length
    · have HC := Lib.hid (charR_any s j wr hlt hs)
      have HD := Lib.hid (wrong_drop hlt)
      have hfit : char (s.drop j) ≤ s.length - j := by have := char_fits (s.drop j); rwa [List.length_drop] at this
      go_wp2_with fail
      refine HC.out.mono ?_
      rintro x wy ⟨rfl, rfl⟩
      clear HC
      by_cases hz : char (s.drop j) = 0
      · have HR : Hid (wrongAt s = j) := Lib.hid (by
          unfold wrongAt
          rw [HE.out, HD.out, if_pos hz]
          show (s.length : Int) - ((s.drop j).length : Int) = j
          rw [List.length_drop]
          omega)
        clear HD HE hfit
        rw [hz]
        go_wp2
        go_ret
        exact ⟨by rw [HR.out]; rfl, rfl⟩
      · have H1 : Hid (wrong s = wrong (s.drop (j + char (s.drop j)))) := Lib.hid (by rw [HE.out, HD.out, if_neg hz])
        have HZ := Lib.hid hz
        clear HD HE hz
        generalize char (s.drop j) = n at hfit H1 HZ ⊢
        have q1 : ((n : Int) == 0) = false := by rw [beq_eq_false_iff_ne]; have := HZ.out; omega
        go_wp2_with fail
        go_roundw
        case rel => exact ⟨j + n, by omega, by go_num, H1, trivial⟩
        case measure =>
          have := HZ.out
          show s.length - ((j : Int) + n).toNat < s.length - ((j : Int)).toNat
          omega
    · have HR : Hid (wrongAt s = -1) := Lib.hid (by
        unfold wrongAt
        rw [HE.out, List.drop_of_length_le (by omega)]
        rfl)
      clear HE
      go_wp2_with fail
      go_ret
      exact ⟨by rw [HR.out]; rfl, rfl⟩
end Js
end Go.Proofs.YtlfeddgpfaigkaaGreatDoor
