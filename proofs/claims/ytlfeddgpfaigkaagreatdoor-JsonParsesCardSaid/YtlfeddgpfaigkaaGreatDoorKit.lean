/-
  Small laws of no program for this seat's walks: a value that is built with a known row of cells; a row stored and read whole.
-/
import Derived.WalkKit
import Derived.WalkLawsBesides
import Derived.Lib.Hide
import Derived.Outline
import Derived.Laws.Rows
import Derived.Laws.ResultCell
import Derived.Deep.MidRow
namespace Go.Proofs.YtlfeddgpfaigkaaGreatDoor
open Go.RowKit

section
variable {P : Program}
theorem wpList_build_as {ops : Array Oper} {rest : List Oper} {o : Oper} {a : Act} {w : World} {Q : Exit → Act → World → Prop} (hg : o.guard = none) (t : TypeId) (parts : Array (Nat × Operand)) (ho : o.op = .build t parts)
    (cs : Array Value) (hf : P.built t (parts.map fun (i, x) => (i, a.eval x)).toList = some cs)
    (h : wpList P ops Q rest (a.put o.dst (.agg cs)) w) : wpList P ops Q (o :: rest) a w :=
  wpList_build hg t parts ho (by rw [hf]; rfl) (by rw [hf]; exact h)

theorem wpList_load_row_g {ops : Array Oper} {rest : List Oper} {o : Oper} {a : Act} {w : World} {Q : Exit → Act → World → Prop} (hw : Region.wanted o (yielded ops a.tmps) = true) (ty : TypeId) (x : Operand) (ho : o.op = .load ty x)
    (g : Nat) (hx : a.eval x = .pointer (some ⟨g, 0, none⟩)) (t : TypeId) (cs : Array Value) (fr : Nat × Nat) (d : TypeDesc) (hg : w.heap[g]? = some (.cells cs t fr))
    (hu : P.underlying ty = some d) (hd : (match d with | .struct _ | .array _ _ => true | _ => false) = true) (hi : (P.info? ty).map (·.size) = some cs.size)
    (h : wpList P ops Q rest (a.put o.dst (.agg cs)) w) : wpList P ops Q (o :: rest) a w :=
  BigFrame.wpList_want hw fun _ hK => wp_load_row ty x ho g hx t cs fr d hg hu hd hi (hK _ _ h)
/-- The results of a function that hands back an array or struct out of a block, and one thing more. -/
theorem results_row_tmp {fn : Func} {p u : Tmp} {ty : TypeId} (h : fn.results = #[.cell p ty, .tmp u]) (tmps : Array Value) (w : World) (g : Nat) (t : TypeId) (cs : Array Value) (fr : Nat × Nat) (d : TypeDesc)
    (hp : tmps.getD p undef = .pointer (some ⟨g, 0, none⟩)) (hg : w.heap[g]? = some (.cells cs t fr))
    (hu : P.underlying ty = some d) (hd : (match d with | .struct _ | .array _ _ => true | _ => false) = true) (hi : (P.info? ty).map (·.size) = some cs.size) :
    (results fn tmps).run P w = .ok (.tuple #[.agg cs, tmps.getD u undef]) w := by
  rw [results_cell_tmp h, hp]
  simp [asAddr, run_loadVar_row w g t ty cs fr d hg hu hd hi]
end

theorem setRow_below {B g : Nat} {a w : World} (h : Below B a w) (hg : B ≤ g) (cs : Array Value) : Below B a (w.setRow g cs) :=
  h.trans ⟨rfl, rfl, rfl, by simp, fun k hk => setRow_other w g k cs (by omega)⟩
theorem one_byteCells (l : List UInt8) : (Lib.byteCells l).toArray.all (·.oneCell') = true := by
  simp [Lib.byteCells, Value.oneCell']
/-- A string's byte, where the string is a list's. -/
theorem run_index_list {P : Program} {t : TypeId} (ht : P.underlying t = some .string) (T : List UInt8) (k : Nat) (h : k < T.length) (w : World) :
    (Instr.index t (.string ⟨T.toArray⟩) (.int .i64 k)).run P w = .ok (.int .u8 (T.getD k 0).toNat) w := by
  rw [run_index_string w t _ _ _ ht, dif_pos ⟨by omega, by simpa [ByteArray.size] using h⟩]
  have e : (⟨T.toArray⟩ : ByteArray)[k]'(by simpa [ByteArray.size] using h) = T.getD k 0 := by
    simp [ByteArray.getElem_eq_getElem_data, List.getD, List.getElem?_eq_getElem h]
  simp only [Int.toNat_natCast, e]
/-- A part of a string, where the string is a list's. -/
theorem run_slice_list {P : Program} {t : TypeId} (ht : P.underlying t = some .string) (T : List UInt8) (kl kh : IntKind) (i j : Int) (a b : Nat) (hi : i = a) (hj : j = b) (hab : a ≤ b) (hb : b ≤ T.length) (w : World) :
    (Instr.slice t (.string ⟨T.toArray⟩) (some (.int kl i)) (some (.int kh j)) none).run P w = .ok (.string ⟨((T.drop a).take (b - a)).toArray⟩) w := by
  subst hi hj
  rw [run_slice_string w t _ kl kh _ _ ht (by omega) (by omega) (by simp only [ByteArray.size, List.size_toArray]; omega)]
  congr 2
  apply ByteArray.ext
  simp [ByteArray.data_extract, List.extract]
end Go.Proofs.YtlfeddgpfaigkaaGreatDoor
