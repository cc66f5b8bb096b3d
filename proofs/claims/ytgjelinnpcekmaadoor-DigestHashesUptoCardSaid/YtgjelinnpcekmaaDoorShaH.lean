/-
  A hash in memory: its cells, what each place holds, what a store makes of them. And the row of numbers of a block.
-/
import Derived.Test.YtgjelinnpcekmaaDoorShaO
import Derived.Test.YtgjelinnpcekmaaDoorMem
namespace Go.Proofs.YtgjelinnpcekmaaDoor
open Go.RowKit Sha

/-- The cells of a hash: width, eight numbers, what is left, how many bytes. -/
def hcells (z : Int) (st : List UInt32) (rest : List UInt8) (n : Nat) : List Value := .int .i64 z :: (st.map W ++ (rest.map U8 ++ [.int .i64 n]))
section
variable {z : Int} {st : List UInt32} {rest : List UInt8} {n : Nat} (h8 : st.length = 8) (h64 : rest.length = 64)
include h8 h64 in
theorem hc_len : (hcells z st rest n).length = 74 := by simp [hcells, h8, h64]
theorem hc_z : (hcells z st rest n)[0]? = some (.int .i64 z) := rfl
include h8 in
theorem hc_st {i : Nat} (hi : i < 8) : (hcells z st rest n)[1 + i]? = some (W (st.getD i 0)) := by
  unfold hcells
  rw [Nat.add_comm, List.getElem?_cons_succ, List.getElem?_append_left (by simp; omega), List.getElem?_map, List.getElem?_eq_getElem (by omega)]
  simp [List.getD, List.getElem?_eq_getElem (show i < st.length by omega)]
include h8 h64 in
theorem hc_rest {i : Nat} (hi : i < 64) : (hcells z st rest n)[9 + i]? = some (U8 (rest.getD i 0)) := by
  unfold hcells
  rw [show 9 + i = 8 + i + 1 by omega, List.getElem?_cons_succ, List.getElem?_append_right (by simp; omega), List.getElem?_append_left (by simp; omega), List.getElem?_map]
  simp only [List.length_map, h8, Nat.add_sub_cancel_left]
  simp [List.getD, List.getElem?_eq_getElem (show i < rest.length by omega)]
include h8 h64 in
theorem hc_n : (hcells z st rest n)[73]? = some (.int .i64 n) := by
  unfold hcells
  rw [List.getElem?_cons_succ, List.getElem?_append_right (by simp; omega), List.getElem?_append_right (by simp; omega)]
  simp [h8, h64]
include h8 in
theorem hc_set_st (i : Nat) (hi : i < 8) (x : UInt32) : (hcells z st rest n).set (1 + i) (W x) = hcells z (st.set i x) rest n := by
  unfold hcells
  rw [Nat.add_comm, List.set_cons_succ, List.set_append_left _ _ (by simp; omega), List.map_set]
include h8 h64 in
theorem hc_set_rest (i : Nat) (hi : i < 64) (c : UInt8) : (hcells z st rest n).set (9 + i) (U8 c) = hcells z st (rest.set i c) n := by
  unfold hcells
  rw [show 9 + i = 8 + i + 1 by omega, List.set_cons_succ, List.set_append_right _ _ (by simp; omega), List.set_append_left _ _ (by simp; omega), List.map_set]
  simp [h8]
include h8 h64 in
theorem hc_set_n (m : Nat) : (hcells z st rest n).set 73 (.int .i64 m) = hcells z st rest m := by
  unfold hcells
  rw [List.set_cons_succ, List.set_append_right _ _ (by simp; omega), List.set_append_right _ _ (by simp; omega)]
  simp [h8, h64]
end
/-- A hash lies in block g. -/
structure Hsh (w : World) (g : Nat) (z : Int) (st : List UInt32) (rest : List UInt8) (n : Nat) : Prop where
  blk : Blk w g 86 (hcells z st rest n).toArray
  l8 : st.length = 8
  l64 : rest.length = 64
section
variable {w w' : World} {g : Nat} {z : Int} {st : List UInt32} {rest : List UInt8} {n : Nat}
theorem Hsh.lt (h : Hsh w g z st rest n) : g < w.heap.size := h.blk.lt
theorem Hsh.c_z (h : Hsh w g z st rest n) : w.cell? ⟨g, 0, none⟩ = some (.int .i64 z) := h.blk.cell 0
theorem Hsh.c_st (h : Hsh w g z st rest n) {i : Nat} (hi : i < 8) : w.cell? ⟨g, 1 + i, none⟩ = some (W (st.getD i 0)) := (h.blk.cell (1 + i)).trans (by rw [List.getElem?_toArray]; exact hc_st h.l8 hi)
theorem Hsh.c_rest (h : Hsh w g z st rest n) {i : Nat} (hi : i < 64) : w.cell? ⟨g, 9 + i, none⟩ = some (U8 (rest.getD i 0)) := (h.blk.cell (9 + i)).trans (by rw [List.getElem?_toArray]; exact hc_rest h.l8 h.l64 hi)
theorem Hsh.c_n (h : Hsh w g z st rest n) : w.cell? ⟨g, 73, none⟩ = some (.int .i64 n) := (h.blk.cell 73).trans (by rw [List.getElem?_toArray]; exact hc_n h.l8 h.l64)
theorem Hsh.frozen (h : Hsh w g z st rest n) (i : Nat) : w.frozen? ⟨g, i, none⟩ = false := h.blk.frozen i
theorem Hsh.below {B : Nat} (h : Hsh w g z st rest n) (hb : Below B w w') (hg : g < B) : Hsh w' g z st rest n := ⟨h.blk.below hb hg, h.l8, h.l64⟩
theorem Hsh.set_st (h : Hsh w g z st rest n) {i : Nat} (hi : i < 8) (x : UInt32) : Hsh (w.setCell ⟨g, 1 + i, none⟩ (W x)) g z (st.set i x) rest n :=
  ⟨by have := h.blk.set_ (1 + i) (W x); rw [List.setIfInBounds_toArray, hc_set_st h.l8 i hi] at this; exact this, by simp [h.l8], h.l64⟩
theorem Hsh.set_rest (h : Hsh w g z st rest n) {i : Nat} (hi : i < 64) (c : UInt8) : Hsh (w.setCell ⟨g, 9 + i, none⟩ (U8 c)) g z st (rest.set i c) n :=
  ⟨by have := h.blk.set_ (9 + i) (U8 c); rw [List.setIfInBounds_toArray, hc_set_rest h.l8 h.l64 i hi] at this; exact this, h.l8, by simp [h.l64]⟩
theorem Hsh.set_n (h : Hsh w g z st rest n) (m : Nat) : Hsh (w.setCell ⟨g, 73, none⟩ (.int .i64 m)) g z st rest m :=
  ⟨by have := h.blk.set_ 73 (.int .i64 m); rw [List.setIfInBounds_toArray, hc_set_n h.l8 h.l64 m] at this; exact this, h.l8, h.l64⟩
theorem Hsh.far (h : Hsh w g z st rest n) {p : Addr} (hp : g ≠ p.block) (u : Value) : Hsh (w.setCell p u) g z st rest n := ⟨h.blk.far hp u, h.l8, h.l64⟩
end

/-- The row of 64 numbers of which the first are these. -/
def arr (l : List UInt32) : List Value := l.map W ++ List.replicate (64 - l.length) (W 0)
theorem arr_len {l : List UInt32} (h : l.length ≤ 64) : (arr l).length = 64 := by simp [arr]; omega
theorem arr_get {l : List UInt32} {i : Nat} (hi : i < l.length) : (arr l)[i]? = some (W (l.getD i 0)) := by
  unfold arr
  rw [List.getElem?_append_left (by simpa using hi), List.getElem?_map, List.getElem?_eq_getElem hi]
  simp [List.getD, List.getElem?_eq_getElem hi]
theorem arr_next {l : List UInt32} (h : l.length < 64) : (arr l)[l.length]? = some (W 0) := by
  unfold arr
  rw [List.getElem?_append_right (by simp)]
  simp [List.getElem?_replicate]; omega
theorem arr_set {l : List UInt32} (h : l.length < 64) (x : UInt32) : (arr l).set l.length (W x) = arr (l ++ [x]) := by
  unfold arr
  rw [List.set_append_right _ _ (by simp)]
  simp only [List.length_map, Nat.sub_self, List.map_append, List.map_cons, List.map_nil, List.length_append, List.length_cons, List.length_nil]
  obtain ⟨d, hd⟩ : ∃ d, 64 - l.length = d + 1 := ⟨63 - l.length, by omega⟩
  rw [hd, List.replicate_succ, List.set_cons_zero, show 64 - (l.length + (0 + 1)) = d by omega]
  simp
/-- The row lies in block b. -/
def Arr (w : World) (b : Nat) (l : List UInt32) : Prop := Blk w b 103 (arr l).toArray
section
variable {w w' : World} {b : Nat} {l : List UInt32}
theorem Arr.cell (h : Arr w b l) {i : Nat} (hi : i < l.length) : w.cell? ⟨b, i, none⟩ = some (W (l.getD i 0)) := (Blk.cell h i).trans (by rw [List.getElem?_toArray]; exact arr_get hi)
theorem Arr.next (h : Arr w b l) (hl : l.length < 64) : w.cell? ⟨b, l.length, none⟩ = some (W 0) := (Blk.cell h l.length).trans (by rw [List.getElem?_toArray]; exact arr_next hl)
theorem Arr.frozen (h : Arr w b l) (i : Nat) : w.frozen? ⟨b, i, none⟩ = false := Blk.frozen h i
theorem Arr.set (h : Arr w b l) (hl : l.length < 64) (x : UInt32) : Arr (w.setCell ⟨b, l.length, none⟩ (W x)) b (l ++ [x]) := by
  have := Blk.set_ h l.length (W x)
  rw [List.setIfInBounds_toArray, arr_set hl] at this
  exact this
end
end Go.Proofs.YtgjelinnpcekmaaDoor
