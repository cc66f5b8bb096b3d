/-
  Joined: HexP, HexW, HexR.
-/
import Derived.Lib.UnsafeStr
import Derived.Lib.Strings
import Derived.Laws.Small
import Derived.Test.YtgjelinnpcekmaaGreatDoorBld
import Derived.Outline
import Derived.Lib.Hide
import Derived.Laws.Rows
import Derived.BigQuiet
import Derived.Deep.QuietTactic
namespace Go.Proofs.YtgjelinnpcekmaaGreatDoor
namespace Plain

/-- A digit to the base 16. -/
def hexc (n : Nat) : UInt8 := if n < 10 then UInt8.ofNat (48 + n) else UInt8.ofNat (87 + n)
def hex2 (x : UInt8) : List UInt8 := [hexc (x.toNat / 16), hexc (x.toNat % 16)]
def shaHead : List UInt8 := [115, 104, 97, 50, 53, 54, 58]
def hexAll (l : List UInt8) : List UInt8 := l.flatMap hex2
def digText (l : List UInt8) : List UInt8 := shaHead ++ hexAll l

theorem hexAll_take_succ (l : List UInt8) (k : Nat) (h : k < l.length) : hexAll (l.take (k + 1)) = hexAll (l.take k) ++ hex2 l[k] := by
  unfold hexAll
  rw [List.take_succ_eq_append_getElem h, List.flatMap_append]
  simp
theorem hexAll_length (l : List UInt8) : (hexAll l).length = 2 * l.length := by
  unfold hexAll
  induction l with
  | nil => rfl
  | cons x r ih => simp only [List.flatMap_cons, List.length_append, ih, hex2, List.length_cons, List.length_nil]; omega
theorem digText_length (l : List UInt8) : (digText l).length = 7 + 2 * l.length := by
  unfold digText; rw [List.length_append, hexAll_length]; rfl

theorem dig_at (n : Nat) (h : n < 16) : (⟨#[48, 49, 50, 51, 52, 53, 54, 55, 56, 57, 97, 98, 99, 100, 101, 102]⟩ : ByteArray)[n]'(h) = hexc n := by
  have key : ∀ m : Fin 16, (⟨#[48, 49, 50, 51, 52, 53, 54, 55, 56, 57, 97, 98, 99, 100, 101, 102]⟩ : ByteArray)[m.val]'(m.isLt) = hexc m.val := by decide
  exact key ⟨n, h⟩
theorem hexAll_take_getD (l : List UInt8) (k : Nat) (h : k < l.length) : hexAll (l.take (k + 1)) = hexAll (l.take k) ++ hex2 (l.getD k 0) := by
  rw [hexAll_take_succ l k h]
  simp [List.getD, List.getElem?_eq_getElem h]

/-! ### Reading it -/
/-- What a digit means. -/
def hexv (c : UInt8) : Option Nat := if 48 ≤ c.toNat ∧ c.toNat ≤ 57 then some (c.toNat - 48) else if 97 ≤ c.toNat ∧ c.toNat ≤ 102 then some (c.toNat - 87) else none
def hv (t : List UInt8) (i : Nat) : Nat := (hexv (t.getD i 0)).getD 0
theorem hexv_lt {c : UInt8} {v : Nat} (h : hexv c = some v) : v < 16 := by
  unfold hexv at h
  split at h
  · injection h; omega
  · split at h
    · injection h; omega
    · cases h
theorem hv_lt (t : List UInt8) (i : Nat) : hv t i < 16 := by
  unfold hv
  cases h : hexv (t.getD i 0) with
  | none => simp
  | some v => simpa using hexv_lt h
/-- What byte j holds when k digits have been read. -/
def accD (t : List UInt8) (k j : Nat) : UInt8 := if 2 * j + 1 < k then UInt8.ofNat (16 * hv t (2 * j) + hv t (2 * j + 1)) else if 2 * j < k then UInt8.ofNat (hv t (2 * j)) else 0
def accL (t : List UInt8) (k : Nat) : List UInt8 := (List.range 32).map (accD t k)
theorem accL_length (t : List UInt8) (k : Nat) : (accL t k).length = 32 := by simp [accL]
theorem accL_getD (t : List UInt8) (k j : Nat) (h : j < 32) : (accL t k).getD j 0 = accD t k j := by
  simp [accL, List.getD, h]
/-- No digest: 32 noughts. -/
def z32 : List UInt8 := List.replicate 32 0
theorem accL_zero (t : List UInt8) : accL t 0 = z32 := by
  unfold z32
  apply List.ext_getElem
  · simp [accL]
  · intro i h1 h2
    rw [List.getElem_replicate]
    simp only [accL, List.getElem_map, accD]
    rw [if_neg (by omega), if_neg (by omega)]
/-- One digit more. -/
theorem accL_succ (t : List UInt8) (k : Nat) :
    accL t (k + 1) = (accL t k).set (k / 2) (UInt8.ofNat (16 * (accD t k (k / 2)).toNat + hv t k)) := by
  apply List.ext_getElem
  · simp [accL]
  · intro i h1 h2
    simp only [accL, List.length_map, List.length_range] at h1
    rw [List.getElem_set]
    by_cases hi : k / 2 = i
    · rw [if_pos hi]
      simp only [accL, List.getElem_map, List.getElem_range]
      subst hi
      unfold accD
      have hlt := hv_lt t (2 * (k / 2))
      rcases Nat.mod_two_eq_zero_or_one k with hm | hm
      · rw [if_neg (by omega), if_pos (by omega), if_neg (by omega), if_neg (by omega)]
        have : 2 * (k / 2) = k := by omega
        rw [this]; simp
      · rw [if_pos (by omega), if_neg (by omega), if_pos (by omega)]
        have e1 : 2 * (k / 2) + 1 = k := by omega
        rw [e1]
        have e2 : (UInt8.ofNat (hv t (2 * (k / 2)))).toNat = hv t (2 * (k / 2)) := by
          rw [UInt8.toNat_ofNat']; omega
        rw [e2]
    · rw [if_neg hi]
      simp only [accL, List.getElem_map, List.getElem_range]
      unfold accD
      by_cases a : 2 * i + 1 < k
      · rw [if_pos (by omega), if_pos a]
      · rw [if_neg (by omega), if_neg a]
        by_cases b : 2 * i < k
        · rw [if_pos (by omega), if_pos b]
        · rw [if_neg (by omega), if_neg b]
/-- A digit's number behind four bits. -/
theorem nibble_or (a v : Nat) (hv : v < 16) : (IntKind.u8.wrap ((a : Int) * 16)).toNat ||| v = (16 * a + v) % 256 := by
  have h1 : (IntKind.u8.wrap ((a : Int) * 16)).toNat = 16 * (a % 16) := by rw [IntKind.wrap_u8]; omega
  rw [h1, show (16 * a + v) % 256 = 16 * (a % 16) + v by omega]
  have key : ∀ x : Fin 16, ∀ y : Fin 16, (16 * x.val) ||| y.val = 16 * x.val + y.val := by decide
  exact key ⟨a % 16, by omega⟩ ⟨v, hv⟩

def allHex (t : List UInt8) (k : Nat) : Prop := ∀ i, i < k → (hexv (t.getD i 0)).isSome = true
instance (t : List UInt8) (k : Nat) : Decidable (allHex t k) := by unfold allHex; infer_instance
/-- The digest that a text tells, if it tells one. -/
def digParse (s : List UInt8) : Option (List UInt8) :=
  if Lib.hasPrefix s shaHead = true ∧ (s.drop 7).length = 64 ∧ allHex (s.drop 7) 64 then some (accL (s.drop 7) 64) else none

theorem hexv_hexc (n : Nat) (h : n < 16) : hexv (hexc n) = some n := by
  have key : ∀ m : Fin 16, hexv (hexc m.val) = some m.val := by decide
  exact key ⟨n, h⟩
theorem hexAll_getD (l : List UInt8) : ∀ i, i < l.length → (hexAll l).getD (2 * i) 0 = hexc ((l.getD i 0).toNat / 16) ∧ (hexAll l).getD (2 * i + 1) 0 = hexc ((l.getD i 0).toNat % 16) := by
  induction l with
  | nil => intro i h; simp at h
  | cons x r ih =>
    intro i h
    cases i with
    | zero => simp [hexAll, hex2]
    | succ i =>
      have := ih i (by simpa using h)
      have e : hexAll (x :: r) = hexc (x.toNat / 16) :: hexc (x.toNat % 16) :: hexAll r := by simp [hexAll, hex2]
      rw [e, show 2 * (i + 1) = 2 * i + 1 + 1 by omega]
      simpa using this
/-- What is told of a digest is read as it. -/
theorem digParse_digText (l : List UInt8) (h : l.length = 32) : digParse (digText l) = some l := by
  have hd : (digText l).drop 7 = hexAll l := by unfold digText; rw [List.drop_append_of_le_length (by decide)]; rfl
  have hlen : (hexAll l).length = 64 := by rw [hexAll_length]; omega
  have hall : ∀ i, i < 32 → hexv ((hexAll l).getD (2 * i) 0) = some ((l.getD i 0).toNat / 16) ∧ hexv ((hexAll l).getD (2 * i + 1) 0) = some ((l.getD i 0).toNat % 16) := by
    intro i hi
    have := hexAll_getD l i (by omega)
    have hb := (l.getD i 0).toNat_lt
    rw [this.1, this.2]
    exact ⟨hexv_hexc _ (by omega), hexv_hexc _ (by omega)⟩
  unfold digParse
  rw [hd, if_pos]
  · congr 1
    apply List.ext_getElem
    · simp [accL, h]
    · intro i h1 h2
      have hi : i < 32 := by simpa [accL] using h1
      have ha := hall i hi
      simp only [accL, List.getElem_map, List.getElem_range]
      unfold accD hv
      rw [if_pos (by omega), ha.1, ha.2]
      have hg : l.getD i 0 = l[i] := by simp [List.getD, List.getElem?_eq_getElem h2]
      rw [hg]
      simp only [Option.getD_some]
      rw [show 16 * (l[i].toNat / 16) + l[i].toNat % 16 = l[i].toNat by omega]
      simp
  · refine ⟨?_, hlen, ?_⟩
    · unfold digText Lib.hasPrefix shaHead; simp
    · intro i hi
      have ha := hall (i / 2) (by omega)
      rcases Nat.mod_two_eq_zero_or_one i with hm | hm
      · rw [show i = 2 * (i / 2) by omega, ha.1]; rfl
      · rw [show i = 2 * (i / 2) + 1 by omega, ha.2]; rfl

end Plain
end Go.Proofs.YtgjelinnpcekmaaGreatDoor
namespace Go.Proofs.YtgjelinnpcekmaaGreatDoor
open Go.RowKit Plain

theorem info23 : (Tryz.prog.info? 25).map (·.size) = some 32 := by kernel_rfl

theorem part_bytes (bs : List UInt8) (k : Nat) (h : k < bs.length) (wx : World) : (part 5 (Lib.byteCells bs).toArray k).run Tryz.prog wx = .ok (.int .u8 (bs.getD k 0).toNat) wx := by
  have ha : (isAgg 5).run Tryz.prog wx = .ok false wx := by
    unfold isAgg; rw [Sem.run_bind, run_underlying Tryz.underlying5 wx]; rfl
  unfold part
  rw [Sem.run_bind, ha]
  simp [Lib.byteCells, List.getElem?_eq_getElem h]
theorem index_bytes {T n : Nat} (hT : Tryz.prog.underlying T = some (.array n 5)) (bs : List UInt8) (hlen : bs.length = n) (k : Nat) (h : k < n) (wx : World) :
    (Instr.index T (.agg (Lib.byteCells bs).toArray) (.int .i64 k)).run Tryz.prog wx = .ok (.int .u8 (bs.getD k 0).toNat) wx := by
  have hs : (sizeOf 5).run Tryz.prog wx = .ok 1 wx := by kernel_rfl
  unfold Instr.index
  simp only [asIntOf, Sem.run_bind, Sem.run_pure, Result.andThen_ok, run_underlying hT]
  rw [if_pos ⟨by omega, by omega⟩]
  simp only [Sem.run_bind, hs, Result.andThen_ok, Nat.mul_one, Int.toNat_natCast]
  exact part_bytes bs k (by omega) wx

set_option maxHeartbeats 1000000 in
set_option maxRecDepth 100000 in
theorem Text_any (bs : List UInt8) (hlen : bs.length = 32) (w : World) :
    Calls Tryz.prog 9 #[.agg (Lib.byteCells bs).toArray] w fun e w' => e = .returned (.string ⟨(digText bs).toArray⟩) ∧ Below w.heap.size w w' := by
  go_enter Tryz.func9, Tryz.ntmps9
  go_wp2_with fail
  have hb0 := Bd.fresh (w.alloc (.cells (Lib.byteCells bs).toArray 25))
  simp only [World.size_alloc] at hb0
  refine (writeString_b _ _ _ _ hb0 (by simp [ByteArray.size])).mono ?_
  rintro e w1 ⟨rfl, h1, hk1⟩
  have hbox : w1.heap[w.heap.size]? = some (.cells (Lib.byteCells bs).toArray 25 (0, 0)) := by
    rw [hk1.below.block _ (by omega)]; exact heap_alloc2_old w _ _
  have hbel : Below w.heap.size w w1 := (((Below.refl _ _).alloc (Nat.le_refl _) _).alloc (by simp) _).trans (hk1.below.mono (by omega))
  go_wp2_with (refine wpList_load_row rfl 25 _ rfl _ rfl 25 _ _ _ hbox Tryz.underlying25 rfl (by rw [info23]; simp [Lib.byteCells, hlen]) ?_)
  clear hb0 hk1 hbox
  have H1 : Hid (Bd (w.heap.size + 1) (shaHead ++ hexAll (bs.take 0)) w1) := h1
  have HB : Hid (Below w.heap.size w w1) := hbel
  clear h1 hbel
  have hidx : ∀ (k : Nat) (_ : k < 32) (wx : World), (Instr.index 25 (.agg (Lib.byteCells bs).toArray) (.int .i64 k)).run Tryz.prog wx = .ok (.int .u8 (bs.getD k 0).toNat) wx :=
    fun k h wx => index_bytes Tryz.underlying25 bs hlen k h wx
  go_loopw [8] (fun i wr => ∃ k : Nat, k ≤ 32 ∧ i = .int .i64 k ∧ Hid (Bd (w.heap.size + 1) (shaHead ++ hexAll (bs.take k)) wr) ∧ Hid (Below w.heap.size w wr)) (fun i _ => 32 - (intOf i).toNat)
  case atStart => exact ⟨0, by omega, rfl, H1, HB⟩
  case round =>
    obtain ⟨k, hk, rfl, hB, hW⟩ := hrel
    by_cases hlt : k < 32
    · have hi := hidx k hlt
      have HX : Hid (hexAll (bs.take (k + 1)) = hexAll (bs.take k) ++ hex2 (bs.getD k 0)) := Lib.hid (hexAll_take_getD bs k (by omega))
      generalize bs.getD k 0 = x at hi HX
      clear hidx
      have hx : x.toNat < 256 := x.toNat_lt
      have hx1 : x.toNat / 16 < 16 := by omega
      have hx2 : x.toNat % 16 < 16 := by omega
      have hL : (shaHead ++ hexAll (bs.take k)).length ≤ 100 := by
        rw [List.length_append, hexAll_length, List.length_take]; simp [shaHead]; omega
      go_wp2_with fail
      rw [dig_at _ hx1]
      refine (writeByte_b _ _ _ _ hB.out (by omega)).mono ?_
      rintro e w2 ⟨rfl, h2, hk2⟩
      go_wp2_with fail
      rw [dig_at _ hx2]
      refine (writeByte_b _ _ _ _ h2 (by rw [List.length_append]; simp only [List.length_cons, List.length_nil]; omega)).mono ?_
      rintro e w3 ⟨rfl, h3, hk3⟩
      have H3 : Hid (Bd (w.heap.size + 1) (shaHead ++ hexAll (bs.take (k + 1))) w3) := Lib.hid (by
        rw [HX.out]; simpa [hex2] using h3)
      have HW : Hid (Below w.heap.size w w3) := hW.out.trans ((hk2.trans hk3).below.mono (by omega))
      clear h2 h3 hk2 hk3
      go_wp2
      go_roundw
      case rel => exact ⟨k + 1, by omega, by go_num, H3, HW⟩
      case measure => simp [intOf]; omega
    · go_wp2_with fail
      have hk32 : k = 32 := by omega
      subst hk32
      refine (string_b _ _ _ hB.out).mono ?_
      rintro e w2 ⟨rfl, h2, hk2⟩
      go_wp2
      go_ret
      refine ⟨?_, hW.out.trans (hk2.below.mono (by omega))⟩
      rw [List.take_of_length_le (by omega)]; rfl
#print axioms Text_any
end Go.Proofs.YtgjelinnpcekmaaGreatDoor
namespace Go.Proofs.YtgjelinnpcekmaaGreatDoor
open Go.RowKit Plain

theorem add_bytes (l m : List UInt8) (h : l.length + m.length ≤ 9223372036854775807) (w : World) : (Op.stringOp .add ⟨l.toArray⟩ ⟨m.toArray⟩).run Tryz.prog w = .ok (.string ⟨(l ++ m).toArray⟩) w := by
  rw [run_string_add_sum w _ _ (by simpa [ByteArray.size] using h), ByteArray.mk_append_mk]
theorem slice_digit (n : Nat) (h : n < 16) (i j : Int) (hi : i = n) (hj : j = n + 1) (w : World) :
    (Instr.slice 9 (.string ⟨#[48, 49, 50, 51, 52, 53, 54, 55, 56, 57, 97, 98, 99, 100, 101, 102]⟩) (some (.int .u8 i)) (some (.int .u8 j)) none).run Tryz.prog w = .ok (.string ⟨#[hexc n]⟩) w := by
  subst hi hj
  rw [run_slice_string w _ _ _ _ _ _ Tryz.underlying9 (by omega) (by omega) (by simp [ByteArray.size]; omega)]
  have key : ∀ m : Fin 16, (⟨#[48, 49, 50, 51, 52, 53, 54, 55, 56, 57, 97, 98, 99, 100, 101, 102]⟩ : ByteArray).extract ((m.val : Int).toNat) (((m.val : Int) + 1).toNat) = ⟨#[hexc m.val]⟩ := by decide
  exact congrArg (fun z => Result.ok (Value.string z) w) (key ⟨n, h⟩)

set_option maxHeartbeats 1000000 in
set_option maxRecDepth 100000 in
theorem refText_any (bs : List UInt8) (hlen : bs.length = 32) (w : World) :
    Calls Tryz.prog 36 #[.agg (Lib.byteCells bs).toArray] w fun e w' => e = .returned (.string ⟨(digText bs).toArray⟩) ∧ Below w.heap.size w w' := by
  go_enter Tryz.func36, Tryz.ntmps36
  go_wp2
  go_loopw [3, 4] (fun s i wr => ∃ k : Nat, k ≤ 32 ∧ i = .int .i64 k ∧ s = .string ⟨(shaHead ++ hexAll (bs.take k)).toArray⟩ ∧ wr.heap[w.heap.size]? = some (.cells (Lib.byteCells bs).toArray 25 (0, 0)) ∧ Hid (Below w.heap.size w wr)) (fun _ i _ => 32 - (intOf i).toNat)
  case atStart => exact ⟨0, by omega, rfl, rfl, heap_alloc_new w _, Lib.hid ((Below.refl _ _).alloc (Nat.le_refl _) _)⟩
  case round =>
    obtain ⟨k, hk, rfl, rfl, hbox, hW⟩ := hrel
    by_cases hlt : k < 32
    · have hc : wr.cell? ⟨w.heap.size, k, none⟩ = some (.int .u8 (bs.getD k 0).toNat) := by
        rw [Lib.cell_of_heap hbox]; simp [Lib.byteCells, List.getElem?_eq_getElem (show k < bs.length by omega)]
      have HX : Hid (hexAll (bs.take (k + 1)) = hexAll (bs.take k) ++ hex2 (bs.getD k 0)) := Lib.hid (hexAll_take_getD bs k (by omega))
      generalize bs.getD k 0 = x at hc HX
      have hx : x.toNat < 256 := x.toNat_lt
      have hx1 : x.toNat / 16 < 16 := by omega
      have hx2 : x.toNat % 16 < 16 := by omega
      have hL : (shaHead ++ hexAll (bs.take k)).length ≤ 100 := by
        rw [List.length_append, hexAll_length, List.length_take]; simp [shaHead]; omega
      have HE : Hid (shaHead ++ hexAll (bs.take (k + 1)) = (shaHead ++ hexAll (bs.take k)) ++ [hexc (x.toNat / 16)] ++ [hexc (x.toNat % 16)]) := Lib.hid (by rw [HX.out]; simp [hex2])
      clear HX
      generalize shaHead ++ hexAll (bs.take k) = L at hL HE
      have a0 : (x.toNat : Int).tmod 16 = (x.toNat : Int) % 16 := IntWalk.rem_in _ _ (by omega)
      have a1 : IntKind.u8.wrap ((x.toNat : Int) / 16) = (x.toNat : Int) / 16 := IntWalk.u8_in _ (by omega)
      have a2 : IntKind.u8.wrap ((x.toNat : Int) / 16 + 1) = (x.toNat : Int) / 16 + 1 := IntWalk.u8_in _ (by omega)
      have a3 : IntKind.u8.wrap ((x.toNat : Int) % 16 + 1) = (x.toNat : Int) % 16 + 1 := IntWalk.u8_in _ (by omega)
      have s1 := fun wx => slice_digit (x.toNat / 16) hx1 ((x.toNat : Int) / 16) ((x.toNat : Int) / 16 + 1) (by omega) (by omega) wx
      have s2 := fun wx => slice_digit (x.toNat % 16) hx2 ((x.toNat : Int) % 16) ((x.toNat : Int) % 16 + 1) (by omega) (by omega) wx
      have c1 := fun wx => add_bytes L [hexc (x.toNat / 16)] (by simp only [List.length_cons, List.length_nil]; omega) wx
      have c2 := fun wx => add_bytes (L ++ [hexc (x.toNat / 16)]) [hexc (x.toNat % 16)] (by rw [List.length_append]; simp only [List.length_cons, List.length_nil]; omega) wx
      go_wp2_with fail
      go_quiet (fail)
      clear c1 c2 s1 s2 a0 a1 a2 a3
      go_wp2
      go_roundw
      case rel => exact ⟨k + 1, by omega, by go_num, by rw [HE.out]; simp, by simpa [World.drewN] using hbox, Lib.hid (below_drewN hW.out nq)⟩
      case measure => simp [intOf]; omega
    · have hk32 : k = 32 := by omega
      subst hk32
      go_wp2_with fail
      go_ret
      refine ⟨?_, hW.out⟩
      rw [List.take_of_length_le (by omega)]; rfl
#print axioms refText_any
end Go.Proofs.YtgjelinnpcekmaaGreatDoor
