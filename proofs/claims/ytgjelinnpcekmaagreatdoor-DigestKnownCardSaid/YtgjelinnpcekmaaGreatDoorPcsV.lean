/-
  The walk of digest.Pieces at this seat's translation: texts laid one behind the other.
-/
import Derived.Test.YtgjelinnpcekmaaGreatDoorJP
import Derived.Test.YtgjelinnpcekmaaGreatDoorBld
import Derived.Test.YtgjelinnpcekmaaGreatDoorRows
import Derived.Test.YtgjelinnpcekmaaGreatDoorLays
import Derived.Shelf.Strconv.Itoa3
import Derived.WalkSmall
namespace Go.Proofs.YtgjelinnpcekmaaGreatDoor
open Go.RowKit Go.Sort Plain

theorem itoa_dec (n : Nat) : Lib.itoa (n : Int) = dec n := by
  unfold Lib.itoa dec
  rw [if_neg (by omega), Int.toNat_natCast]

theorem grown_none_of_below {w w' : World} (h : Below w.heap.size w w') : w.grownBy w' none := ⟨h.os, h.tape, h.output, h.size, fun k hk _ => h.block k hk⟩
theorem Bd.below {b : Nat} {l : List UInt8} {w w' : World} (h : Bd b l w) (hb : Below w.heap.size w w') : Bd b l w' := by
  have key : ∀ p, Lib.BuilderAtF 44 5 b b p (Lib.byteCells l) w → Lib.BuilderAtF 44 5 b b p (Lib.byteCells l) w' := by
    intro p h
    have hlt := h.lt
    obtain ⟨hB, v, hh, hown, hne⟩ := h
    refine ⟨hB, v, (hb.block b hlt).trans hh, hown.kept (grown_none_of_below hb) ?_, hne⟩
    cases hv : v.ownBlock with
    | none => exact .inl rfl
    | some g => exact .inr (by simp)
  rcases h with h | h
  · exact .inl (key _ h)
  · exact .inr (key _ h)
theorem own_below {w w' : World} {base : Nat} {e : TypeId} {size : Nat} {v : Value} {n : Nat} {xs : List Value} (h : w.ownsRow base e size v n xs) (hb : Below w.heap.size w w') : w'.ownsRow base e size v n xs := by
  refine h.kept (grown_none_of_below hb) ?_
  cases hv : v.ownBlock with
  | none => exact .inl rfl
  | some g => exact .inr (by simp)

/-- The name of the table of the powers of ten, as a given row lists it. -/
def pow10Name : String := (Rows.digestKnownRow.laid.map (·.1)).getD 2 default
/-- The table of the powers of ten, as strconv reads it. -/
def Tab10 (w : World) : Prop := Lib.TabIs Tryz.prog w pow10Name .u64 Lib.pow10Tab
theorem tab10_named : Tryz.prog.globalNamed pow10Name = some 4 := by kernel_rfl
theorem Tab10.lt {w : World} (h : Tab10 w) : 4 < w.heap.size := by
  unfold Tab10 Lib.TabIs World.var? at h
  rw [tab10_named] at h
  simp only [Option.bind_some] at h
  rcases Nat.lt_or_ge 4 w.heap.size with hlt | hge
  · exact hlt
  · rw [Array.getElem?_eq_none hge] at h; cases h
theorem Tab10.below {w w' : World} {B : Nat} (h : Tab10 w) (hb : Below B w w') (hB : 4 < B) : Tab10 w' := var?_below hb tab10_named hB h

theorem below_grow (w : World) (k : Nat) (os : Array Obj) : Below w.heap.size w (grow (w.drewN k) os) :=
  ⟨rfl, rfl, rfl, by simp [grow, World.drewN], fun i hi => by simp only [grow, World.drewN]; rw [Array.getElem?_append_left hi]⟩
theorem Itoa_any (n : Nat) (h1 : n ≤ 9223372036854775807) (w : World) (htab : Tab10 w) :
    Calls Tryz.prog 50 #[.int .i64 n] w fun e w' => e = .returned (.string ⟨(dec n).toArray⟩) ∧ Below w.heap.size w w' := by
  refine (Any.strconv_Itoa laysM171 n (by omega) (by omega) w htab).mono ?_
  rintro e w' ⟨rfl, k, os, rfl⟩
  rw [itoa_dec]
  exact ⟨rfl, below_grow w k os⟩

set_option maxHeartbeats 1000000 in
theorem Pieces_any (A : Option Addr) (n c : Nat) (l : List (List UInt8)) (w : World) (hr : Reads w w.heap.size 1 A n (tx l)) (hlen : (pieces l).length ≤ 140737488355328) (htab : Tab10 w) :
    Calls Tryz.prog 30 #[.slice A n c] w fun e w' => e = .returned (.string ⟨(pieces l).toArray⟩) ∧ Below w.heap.size w w' := by
  have hl : l.length = n := by have := hr.1; rw [tx_length] at this; omega
  have hn : n ≤ 140737488355328 := by
    have := length_le_pieces l
    omega
  have HL := Lib.hid hl
  have HR := Lib.hid hr
  have HT := Lib.hid htab
  have HN := Lib.hid hlen
  clear hl hr htab hlen
  go_enter Tryz.func30, Tryz.ntmps30
  go_wp2
  go_loopw [8] (fun i wr => ∃ k : Nat, k ≤ n ∧ i = .int .i64 k ∧ Hid (Bd w.heap.size (pieces (l.take k)) wr) ∧ Hid (Below w.heap.size w wr)) (fun i _ => n - (intOf i).toNat)
  case atStart => exact ⟨0, by omega, rfl, Lib.hid (Bd.fresh w), Lib.hid ((Below.refl _ _).alloc (Nat.le_refl _) _)⟩
  case round =>
    obtain ⟨k, hk, rfl, hB, hW⟩ := hrel
    by_cases hlt : k < n
    · obtain ⟨ad, u, rfl, _, hu, hc⟩ := (HR.out.below hW.out).at_ hlt
      obtain rfl := tx_get hu (by have := HL.out; omega)
      have HX : Hid (pieces (l.take (k + 1)) = pieces (l.take k) ++ enc (l.getD k [])) := Lib.hid (by
        have := HL.out
        rw [List.take_succ_eq_append_getElem (by omega), pieces_append]
        simp [pieces, List.getD, List.getElem?_eq_getElem (show k < l.length by omega)])
      have hbd : (pieces (l.take k)).length + (enc (l.getD k [])).length ≤ 140737488355328 := by
        have h1 := congrArg List.length HX.out
        have h2 := congrArg List.length (pieces_append (l.take (k + 1)) (l.drop (k + 1)))
        rw [List.take_append_drop] at h2
        have h3 := HN.out
        rw [List.length_append] at h1 h2
        omega
      clear hu
      generalize l.getD k [] = p at hc HX hbd
      have hp : (dec p.length).length + p.length + 1 = (enc p).length := by unfold enc; simp; omega
      have HP := Lib.hid hp
      have hpl : p.length ≤ 140737488355328 := by omega
      clear hp
      go_wp2_with fail
      refine (Itoa_any p.length (by omega) _ (HT.out.below hW.out HT.out.lt)).mono ?_
      rintro e w1 ⟨rfl, hb1⟩
      have hB1 := hB.out.below hb1
      go_wp2_with fail
      refine (writeString_b _ _ _ _ hB1 (by have := HP.out; simp only [ByteArray.size, List.size_toArray]; omega)).mono ?_
      rintro e w2 ⟨rfl, hB2, hk2⟩
      go_wp2_with fail
      refine (writeByte_b _ _ 58 _ hB2 (by have := HP.out; simp only [List.length_append]; omega)).mono ?_
      rintro e w3 ⟨rfl, hB3, hk3⟩
      go_wp2_with fail
      refine (writeString_b _ _ _ _ hB3 (by have := HP.out; simp only [List.length_append, List.length_cons, List.length_nil, ByteArray.size, List.size_toArray]; omega)).mono ?_
      rintro e w4 ⟨rfl, hB4, hk4⟩
      have H4 : Hid (Bd w.heap.size (pieces (l.take (k + 1))) w4) := Lib.hid (by rw [HX.out]; simpa [enc] using hB4)
      have HW : Hid (Below w.heap.size w w4) := Lib.hid (hW.out.trans ((hb1.mono hW.out.size).trans ((hk2.trans hk3).trans hk4).below))
      clear hB1 hB2 hB3 hB4 hk2 hk3 hk4 hb1
      go_wp2
      go_roundw
      case rel => exact ⟨k + 1, by omega, by go_num, H4, HW⟩
      case measure => simp [intOf]; omega
    · go_wp2_with fail
      refine (string_b _ _ _ hB.out).mono ?_
      rintro e w2 ⟨rfl, h2, hk2⟩
      go_wp2
      go_ret
      refine ⟨?_, hW.out.trans hk2.below⟩
      rw [List.take_of_length_le (by have := HL.out; omega)]; rfl
end Go.Proofs.YtgjelinnpcekmaaGreatDoor
