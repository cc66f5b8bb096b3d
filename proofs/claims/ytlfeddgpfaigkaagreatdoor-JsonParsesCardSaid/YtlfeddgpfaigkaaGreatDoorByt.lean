/-
  Small laws of no program: a row of bytes read as a string.
-/
import Derived.Test.YtlfeddgpfaigkaaGreatDoorMem
import Derived.Laws.IdiomStrings
import Derived.Laws.BytesString
import Derived.Lib.UnsafeStr
namespace Go.Proofs.YtlfeddgpfaigkaaGreatDoor
open Go.RowKit

theorem byteCells_get {l : List UInt8} {j : Nat} (h : j < l.length) : (Lib.byteCells l)[j]? = some (.int .u8 (l[j].toNat : Int)) := by
  simp [Lib.byteCells, List.getElem?_eq_getElem h]
theorem byteCells_len (l : List UInt8) : (Lib.byteCells l).length = l.length := by simp [Lib.byteCells]
theorem byteCells_app (l m : List UInt8) : Lib.byteCells (l ++ m) = Lib.byteCells l ++ Lib.byteCells m := by simp [Lib.byteCells]
/-- 'string(b)' where b reads as a row of bytes. -/
theorem run_convert_reads {P : Program} {src dst e : TypeId} (hs : P.underlying src = some (.slice e)) (he : P.underlying e = some (.int .u8)) (hd : P.underlying dst = some .string)
    {w : World} {B n : Nat} {A : Option Addr} (c : Nat) {l : List UInt8} (hr : Reads w B 1 A n (Lib.byteCells l)) :
    (convert src dst (.slice A n c)).run P w = .ok (.string ⟨l.toArray⟩) w := by
  have hn : l.length = n := by have := hr.1; rw [byteCells_len] at this; omega
  subst hn
  rcases Nat.eq_zero_or_pos l.length with h0 | h0
  · have : l = [] := List.length_eq_zero_iff.1 h0
    subst this
    rcases A with _ | a
    · rw [show (List.length ([] : List UInt8)) = 0 from rfl, run_convert_bytes_string w src dst e none 0 c hs he hd]
      simp [Conv.bytesToString]
      rfl
    · exact run_convert_bytes_back w src dst e a c [] hs he hd (fun j hj => absurd hj (by simp))
  · obtain ⟨ad, rfl, _, hc⟩ := hr.2 h0
    exact run_convert_bytes_back w src dst e ad c l hs he hd (fun j hj => hc j _ (byteCells_get hj))
end Go.Proofs.YtlfeddgpfaigkaaGreatDoor
