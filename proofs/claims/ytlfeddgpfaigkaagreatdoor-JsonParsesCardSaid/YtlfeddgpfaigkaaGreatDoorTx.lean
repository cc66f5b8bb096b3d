/-
  Lists of texts as cells, whatever the law.
-/
import Derived.Test.YtlfeddgpfaigkaaGreatDoorMem
import Derived.Test.YtlfeddgpfaigkaaGreatDoorProg
import Derived.WalkKit
namespace Go.Proofs.YtlfeddgpfaigkaaGreatDoor
open Go.RowKit

theorem infoStr : (Tryz.prog.info? 9).map (fun i => (i.zero, i.size, i.bytes)) = some (some (.string .empty), 1, 16) := by kernel_rfl
def tx (l : List (List UInt8)) : List Value := l.map fun p => .string ⟨p.toArray⟩
theorem tx_length (l : List (List UInt8)) : (tx l).length = l.length := by simp [tx]
theorem tx_append (l m : List (List UInt8)) : tx (l ++ m) = tx l ++ tx m := by simp [tx]
theorem tx_get {l : List (List UInt8)} {k : Nat} {u : Value} (h : (tx l)[k]? = some u) (hk : k < l.length) : u = .string ⟨(l.getD k []).toArray⟩ := by
  simp only [tx, List.getElem?_map, List.getElem?_eq_getElem hk, Option.map_some, Option.some.injEq] at h
  rw [← h]; simp [List.getD, List.getElem?_eq_getElem hk]
def total (l : List (List UInt8)) : Nat := (l.map List.length).sum
theorem total_append (l m : List (List UInt8)) : total (l ++ m) = total l + total m := by simp [total]
theorem total_take_succ (l : List (List UInt8)) (k : Nat) (h : k < l.length) : total (l.take (k + 1)) = total (l.take k) + (l.getD k []).length := by
  rw [List.take_succ_eq_append_getElem h, total_append]
  simp [total, List.getD, List.getElem?_eq_getElem h]
theorem total_take_le (l : List (List UInt8)) (k : Nat) : total (l.take k) ≤ total l := by
  have h := total_append (l.take k) (l.drop k)
  rw [List.take_append_drop] at h
  omega

end Go.Proofs.YtlfeddgpfaigkaaGreatDoor
