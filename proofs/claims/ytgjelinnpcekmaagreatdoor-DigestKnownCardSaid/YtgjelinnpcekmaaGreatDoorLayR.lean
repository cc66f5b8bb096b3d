/-
  The walks of strataref03.Number and strataref03.Pieces at this seat's translation.
-/
import Derived.Test.YtgjelinnpcekmaaGreatDoorDigP
import Derived.BigQuiet
import Derived.Deep.QuietTactic
import Derived.IntWalk
namespace Go.Proofs.YtgjelinnpcekmaaGreatDoor
open Go.RowKit Plain

/-- What is still to be laid ahead of some digits. -/
def numRest (m : Nat) (x : List UInt8) : List UInt8 := if m = 0 ∧ x ≠ [] then x else dec m ++ x
theorem numRest_done (x : List UInt8) (h : x ≠ []) : numRest 0 x = x := by unfold numRest; rw [if_pos ⟨rfl, h⟩]
theorem numRest_step (m : Nat) (x : List UInt8) (h : 0 < m ∨ x = []) : numRest m x = numRest (m / 10) (UInt8.ofNat (48 + m % 10) :: x) := by
  unfold numRest
  rw [if_neg (by rintro ⟨h1, h2⟩; rcases h with h | h; omega; exact h2 h)]
  by_cases h1 : m < 10
  · rw [if_pos ⟨by omega, by simp⟩, dec_small h1, show m % 10 = m by omega]; rfl
  · rw [if_neg (by rintro ⟨h2, _⟩; omega), dec_big h1]; simp
theorem slice_dec (n : Nat) (h : n < 10) (i j : Int) (hi : i = n) (hj : j = n + 1) (w : World) :
    (Instr.slice 9 (.string ⟨#[48, 49, 50, 51, 52, 53, 54, 55, 56, 57, 97, 98, 99, 100, 101, 102]⟩) (some (.int .i64 i)) (some (.int .i64 j)) none).run Tryz.prog w = .ok (.string ⟨#[UInt8.ofNat (48 + n)]⟩) w := by
  subst hi hj
  rw [run_slice_string w _ _ _ _ _ _ Tryz.underlying9 (by omega) (by omega) (by simp [ByteArray.size]; omega)]
  have key : ∀ m : Fin 10, (⟨#[48, 49, 50, 51, 52, 53, 54, 55, 56, 57, 97, 98, 99, 100, 101, 102]⟩ : ByteArray).extract ((m.val : Int).toNat) (((m.val : Int) + 1).toNat) = ⟨#[UInt8.ofNat (48 + m.val)]⟩ := by decide
  exact congrArg (fun z => Result.ok (Value.string z) w) (key ⟨n, h⟩)
def emptyV : Value → Nat
  | .string s => if s.size = 0 then 1 else 0
  | _ => 0
theorem emptyV_nil : emptyV (.string ⟨#[]⟩) = 1 := rfl
theorem emptyV_cons (c : UInt8) (x : List UInt8) : emptyV (.string ⟨(c :: x).toArray⟩) = 0 := by simp [emptyV, ByteArray.size]
set_option maxHeartbeats 1000000 in
theorem Number_any (n : Nat) (hn : n ≤ 140737488355000) (w : World) :
    Calls Tryz.prog 60 #[.int .i64 n] w fun e w' => e = .returned (.string ⟨(dec n).toArray⟩) ∧ w' = w := by
  go_enter Tryz.func60, Tryz.ntmps60
  go_wp2_with fail
  go_loopw [0, 3] (fun i s wr => ∃ (m : Nat) (x : List UInt8), m + x.length ≤ n + 1 ∧ i = .int .i64 m ∧ s = .string ⟨x.toArray⟩ ∧ Hid (dec n = numRest m x) ∧ wr = w) (fun i s _ => (intOf i).toNat + emptyV s)
  case atStart => exact ⟨n, [], by simp, rfl, rfl, Lib.hid (by simp [numRest]), rfl⟩
  case round =>
    obtain ⟨m, x, hm, rfl, rfl, HX, rfl⟩ := hrel
    have c1 := fun wx => eq_texts x [] wx
    by_cases hgo : 0 < m ∨ x = []
    · have HX1 : Hid (dec n = numRest (m / 10) (UInt8.ofNat (48 + m % 10) :: x)) := Lib.hid (by rw [HX.out]; exact numRest_step m x hgo)
      have HG := Lib.hid hgo
      clear HX hgo
      have a0 : (m : Int).tmod 10 = (m : Int) % 10 := IntWalk.rem_in _ _ (by omega)
      have a1 : (m : Int).tdiv 10 = (m : Int) / 10 := by rw [Int.tdiv_eq_ediv_of_nonneg (by omega)]
      have s1 := fun wx => slice_dec (m % 10) (by omega) ((m : Int) % 10) ((m : Int) % 10 + 1) (by omega) (by omega) wx
      have c2 := fun wx => add_txt [UInt8.ofNat (48 + m % 10)] x (by simp only [List.length_cons, List.length_nil]; omega) wx
      by_cases hpos : 0 < m
      · generalize UInt8.ofNat (48 + m % 10) = d at HX1 s1 c2
        go_wp2_with fail
        go_roundw
        case rel => exact ⟨m / 10, d :: x, by simp only [List.length_cons]; omega, by go_num, rfl, HX1, trivial⟩
        case measure => simp [intOf, emptyV, ByteArray.size]; omega
      · have hx : x = [] := by rcases HG.out with h | h; omega; exact h
        have hm0 : m = 0 := by omega
        subst hx hm0
        rw [decide_eq_true rfl] at c1
        go_wp2_with fail
        go_roundw
        case rel => exact ⟨0, [48], by simp, by go_num, rfl, HX1, trivial⟩
        case measure => simp [intOf, emptyV, ByteArray.size]
    · have hm0 : m = 0 := by omega
      have hx : x ≠ [] := by rintro rfl; exact hgo (.inr rfl)
      subst hm0
      rw [decide_eq_false hx] at c1
      have HE : Hid (dec n = x) := Lib.hid (by rw [HX.out, numRest_done x hx])
      clear HX
      have hx2 : x.isEmpty = false := by simpa using hx
      go_wp2
      go_ret
      refine ⟨?_, rfl⟩
      rw [HE.out]
      rfl
theorem pieces_take_len (l : List (List UInt8)) (k : Nat) : (pieces (l.take k)).length ≤ (pieces l).length := by
  have h2 := congrArg List.length (pieces_append (l.take k) (l.drop k))
  rw [List.take_append_drop, List.length_append] at h2
  omega
set_option maxHeartbeats 1000000 in
theorem refPieces_any (A : Option Addr) (n c : Nat) (l : List (List UInt8)) (w : World) (hr : Reads w w.heap.size 1 A n (tx l)) (hlen : (pieces l).length ≤ 100000000000000) :
    Calls Tryz.prog 43 #[.slice A n c] w fun e w' => e = .returned (.string ⟨(pieces l).toArray⟩) ∧ Below w.heap.size w w' := by
  have hl : l.length = n := by have := hr.1; rw [tx_length] at this; omega
  have hn : n ≤ 100000000000000 := by have := length_le_pieces l; omega
  have HL := Lib.hid hl
  have HR := Lib.hid hr
  have HN := Lib.hid hlen
  have HNB := Lib.hid (fun n (hn : n ≤ 140737488355000) w => Number_any n hn w)
  clear hl hr hlen
  go_enter Tryz.func43, Tryz.ntmps43
  go_wp2_with fail
  go_loopw [3, 4] (fun s i wr => ∃ k : Nat, k ≤ n ∧ i = .int .i64 k ∧ s = .string ⟨(pieces (l.take k)).toArray⟩ ∧ Hid (Below w.heap.size w wr)) (fun _ i _ => n - (intOf i).toNat)
  case atStart => exact ⟨0, by omega, rfl, rfl, Lib.hid (Below.refl _ _)⟩
  case round =>
    obtain ⟨k, hk, rfl, rfl, HW⟩ := hrel
    by_cases hlt : k < n
    · obtain ⟨ad, u, rfl, _, hu, hc⟩ := (HR.out.below HW.out).at_ hlt
      obtain rfl := tx_get hu (by have := HL.out; omega)
      have HX : Hid (pieces (l.take (k + 1)) = ((pieces (l.take k) ++ dec (l.getD k []).length) ++ [58]) ++ l.getD k []) := Lib.hid (by
        have := HL.out
        rw [List.take_succ_eq_append_getElem (by omega), pieces_append]
        simp [pieces, enc, List.getD, List.getElem?_eq_getElem (show k < l.length by omega)])
      have hb : (((pieces (l.take k) ++ dec (l.getD k []).length) ++ [58]) ++ l.getD k []).length ≤ 100000000000000 := by
        rw [← HX.out]; exact Nat.le_trans (pieces_take_len l (k + 1)) HN.out
      clear hu
      generalize l.getD k [] = p at hc HX hb
      generalize pieces (l.take k) = x at HX hb
      have hp : p.length ≤ 140737488355000 := by simp only [List.length_append] at hb; omega
      have HD := Lib.hid (HNB.out p.length hp)
      generalize dec p.length = d at HX hb HD
      have c1 := fun wx => add_txt x d (by simp only [List.length_append] at hb; omega) wx
      have c2 := fun wx => add_txt (x ++ d) [58] (by simp only [List.length_append, List.length_cons, List.length_nil] at hb ⊢; omega) wx
      have c3 := fun wx => add_txt (x ++ (d ++ [58])) p (by simp only [List.length_append, List.length_cons, List.length_nil] at hb ⊢; omega) wx
      go_wp2_with fail
      go_quiet (exact Calls.quiet_of ((HD.out _).mono (by rintro e w' ⟨rfl, rfl⟩; exact ⟨rfl, 0, rfl⟩)))
      clear c1 c2 c3
      go_wp2
      go_roundw
      case rel => exact ⟨k + 1, by omega, by go_num, by rw [HX.out]; simp, Lib.hid (below_drewN HW.out nq)⟩
      case measure => simp [intOf]; omega
    · have hkn : k = n := by omega
      subst hkn
      go_wp2_with fail
      go_ret
      rw [List.take_of_length_le (by have := HL.out; omega)]
      exact ⟨rfl, HW.out⟩
end Go.Proofs.YtgjelinnpcekmaaGreatDoor
