/-
  Plain facts about the text of a digest: sixteen digits, two for each byte, behind a head. No program in sight.
-/
import Derived.Lib.UnsafeStr
import Derived.Lib.Strings
import Derived.Laws.Small
namespace Go.Proofs.YtgjelinnpcekmaaDoor
namespace Plain

/-- A digit to the base 16. -/
def hexc (n : Nat) : UInt8 := if n < 10 then UInt8.ofNat (48 + n) else UInt8.ofNat (87 + n)
def hex2 (x : UInt8) : List UInt8 := [hexc (x.toNat / 16), hexc (x.toNat % 16)]
def shaHead : List UInt8 := [115, 104, 97, 50, 53, 54, 58]
def hexAll (l : List UInt8) : List UInt8 := l.flatMap hex2
def digText (l : List UInt8) : List UInt8 := shaHead ++ hexAll l

theorem hexAll_take_succ (l : List UInt8) (k : Nat) (h : k < l.length) : hexAll (l.take (k + 1)) = hexAll (l.take k) ++ hex2 l[k] := by
  unfold hexAll
  rw [List.take_succ_eq_append_getElem h, List.flatMap_append]
  simp
theorem hexAll_length (l : List UInt8) : (hexAll l).length = 2 * l.length := by
  unfold hexAll
  induction l with
  | nil => rfl
  | cons x r ih => simp only [List.flatMap_cons, List.length_append, ih, hex2, List.length_cons, List.length_nil]; omega
theorem digText_length (l : List UInt8) : (digText l).length = 7 + 2 * l.length := by
  unfold digText; rw [List.length_append, hexAll_length]; rfl

theorem dig_at (n : Nat) (h : n < 16) : (⟨#[48, 49, 50, 51, 52, 53, 54, 55, 56, 57, 97, 98, 99, 100, 101, 102]⟩ : ByteArray)[n]'(h) = hexc n := by
  have key : ∀ m : Fin 16, (⟨#[48, 49, 50, 51, 52, 53, 54, 55, 56, 57, 97, 98, 99, 100, 101, 102]⟩ : ByteArray)[m.val]'(m.isLt) = hexc m.val := by decide
  exact key ⟨n, h⟩
theorem hexAll_take_getD (l : List UInt8) (k : Nat) (h : k < l.length) : hexAll (l.take (k + 1)) = hexAll (l.take k) ++ hex2 (l.getD k 0) := by
  rw [hexAll_take_succ l k h]
  simp [List.getD, List.getElem?_eq_getElem h]

/-! ### Reading it -/
/-- What a digit means. -/
def hexv (c : UInt8) : Option Nat := if 48 ≤ c.toNat ∧ c.toNat ≤ 57 then some (c.toNat - 48) else if 97 ≤ c.toNat ∧ c.toNat ≤ 102 then some (c.toNat - 87) else none
def hv (t : List UInt8) (i : Nat) : Nat := (hexv (t.getD i 0)).getD 0
theorem hexv_lt {c : UInt8} {v : Nat} (h : hexv c = some v) : v < 16 := by
  unfold hexv at h
  split at h
  · injection h; omega
  · split at h
    · injection h; omega
    · cases h
theorem hv_lt (t : List UInt8) (i : Nat) : hv t i < 16 := by
  unfold hv
  cases h : hexv (t.getD i 0) with
  | none => simp
  | some v => simpa using hexv_lt h
/-- What byte j holds when k digits have been read. -/
def accD (t : List UInt8) (k j : Nat) : UInt8 := if 2 * j + 1 < k then UInt8.ofNat (16 * hv t (2 * j) + hv t (2 * j + 1)) else if 2 * j < k then UInt8.ofNat (hv t (2 * j)) else 0
def accL (t : List UInt8) (k : Nat) : List UInt8 := (List.range 32).map (accD t k)
theorem accL_length (t : List UInt8) (k : Nat) : (accL t k).length = 32 := by simp [accL]
theorem accL_getD (t : List UInt8) (k j : Nat) (h : j < 32) : (accL t k).getD j 0 = accD t k j := by
  simp [accL, List.getD, h]
/-- No digest: 32 noughts. -/
def z32 : List UInt8 := List.replicate 32 0
theorem accL_zero (t : List UInt8) : accL t 0 = z32 := by
  unfold z32
  apply List.ext_getElem
  · simp [accL]
  · intro i h1 h2
    rw [List.getElem_replicate]
    simp only [accL, List.getElem_map, accD]
    rw [if_neg (by omega), if_neg (by omega)]
/-- One digit more. -/
theorem accL_succ (t : List UInt8) (k : Nat) :
    accL t (k + 1) = (accL t k).set (k / 2) (UInt8.ofNat (16 * (accD t k (k / 2)).toNat + hv t k)) := by
  apply List.ext_getElem
  · simp [accL]
  · intro i h1 h2
    simp only [accL, List.length_map, List.length_range] at h1
    rw [List.getElem_set]
    by_cases hi : k / 2 = i
    · rw [if_pos hi]
      simp only [accL, List.getElem_map, List.getElem_range]
      subst hi
      unfold accD
      have hlt := hv_lt t (2 * (k / 2))
      rcases Nat.mod_two_eq_zero_or_one k with hm | hm
      · rw [if_neg (by omega), if_pos (by omega), if_neg (by omega), if_neg (by omega)]
        have : 2 * (k / 2) = k := by omega
        rw [this]; simp
      · rw [if_pos (by omega), if_neg (by omega), if_pos (by omega)]
        have e1 : 2 * (k / 2) + 1 = k := by omega
        rw [e1]
        have e2 : (UInt8.ofNat (hv t (2 * (k / 2)))).toNat = hv t (2 * (k / 2)) := by
          rw [UInt8.toNat_ofNat']; omega
        rw [e2]
    · rw [if_neg hi]
      simp only [accL, List.getElem_map, List.getElem_range]
      unfold accD
      by_cases a : 2 * i + 1 < k
      · rw [if_pos (by omega), if_pos a]
      · rw [if_neg (by omega), if_neg a]
        by_cases b : 2 * i < k
        · rw [if_pos (by omega), if_pos b]
        · rw [if_neg (by omega), if_neg b]
/-- A digit's number behind four bits. -/
theorem nibble_or (a v : Nat) (hv : v < 16) : (IntKind.u8.wrap ((a : Int) * 16)).toNat ||| v = (16 * a + v) % 256 := by
  have h1 : (IntKind.u8.wrap ((a : Int) * 16)).toNat = 16 * (a % 16) := by rw [IntKind.wrap_u8]; omega
  rw [h1, show (16 * a + v) % 256 = 16 * (a % 16) + v by omega]
  have key : ∀ x : Fin 16, ∀ y : Fin 16, (16 * x.val) ||| y.val = 16 * x.val + y.val := by decide
  exact key ⟨a % 16, by omega⟩ ⟨v, hv⟩

def allHex (t : List UInt8) (k : Nat) : Prop := ∀ i, i < k → (hexv (t.getD i 0)).isSome = true
instance (t : List UInt8) (k : Nat) : Decidable (allHex t k) := by unfold allHex; infer_instance
/-- The digest that a text tells, if it tells one. -/
def digParse (s : List UInt8) : Option (List UInt8) :=
  if Lib.hasPrefix s shaHead = true ∧ (s.drop 7).length = 64 ∧ allHex (s.drop 7) 64 then some (accL (s.drop 7) 64) else none

theorem hexv_hexc (n : Nat) (h : n < 16) : hexv (hexc n) = some n := by
  have key : ∀ m : Fin 16, hexv (hexc m.val) = some m.val := by decide
  exact key ⟨n, h⟩
theorem hexAll_getD (l : List UInt8) : ∀ i, i < l.length → (hexAll l).getD (2 * i) 0 = hexc ((l.getD i 0).toNat / 16) ∧ (hexAll l).getD (2 * i + 1) 0 = hexc ((l.getD i 0).toNat % 16) := by
  induction l with
  | nil => intro i h; simp at h
  | cons x r ih =>
    intro i h
    cases i with
    | zero => simp [hexAll, hex2]
    | succ i =>
      have := ih i (by simpa using h)
      have e : hexAll (x :: r) = hexc (x.toNat / 16) :: hexc (x.toNat % 16) :: hexAll r := by simp [hexAll, hex2]
      rw [e, show 2 * (i + 1) = 2 * i + 1 + 1 by omega]
      simpa using this
/-- What is told of a digest is read as it. -/
theorem digParse_digText (l : List UInt8) (h : l.length = 32) : digParse (digText l) = some l := by
  have hd : (digText l).drop 7 = hexAll l := by unfold digText; rw [List.drop_append_of_le_length (by decide)]; rfl
  have hlen : (hexAll l).length = 64 := by rw [hexAll_length]; omega
  have hall : ∀ i, i < 32 → hexv ((hexAll l).getD (2 * i) 0) = some ((l.getD i 0).toNat / 16) ∧ hexv ((hexAll l).getD (2 * i + 1) 0) = some ((l.getD i 0).toNat % 16) := by
    intro i hi
    have := hexAll_getD l i (by omega)
    have hb := (l.getD i 0).toNat_lt
    rw [this.1, this.2]
    exact ⟨hexv_hexc _ (by omega), hexv_hexc _ (by omega)⟩
  unfold digParse
  rw [hd, if_pos]
  · congr 1
    apply List.ext_getElem
    · simp [accL, h]
    · intro i h1 h2
      have hi : i < 32 := by simpa [accL] using h1
      have ha := hall i hi
      simp only [accL, List.getElem_map, List.getElem_range]
      unfold accD hv
      rw [if_pos (by omega), ha.1, ha.2]
      have hg : l.getD i 0 = l[i] := by simp [List.getD, List.getElem?_eq_getElem h2]
      rw [hg]
      simp only [Option.getD_some]
      rw [show 16 * (l[i].toNat / 16) + l[i].toNat % 16 = l[i].toNat by omega]
      simp
  · refine ⟨?_, hlen, ?_⟩
    · unfold digText Lib.hasPrefix shaHead; simp
    · intro i hi
      have ha := hall (i / 2) (by omega)
      rcases Nat.mod_two_eq_zero_or_one i with hm | hm
      · rw [show i = 2 * (i / 2) by omega, ha.1]; rfl
      · rw [show i = 2 * (i / 2) + 1 by omega, ha.2]; rfl

end Plain
end Go.Proofs.YtgjelinnpcekmaaDoor
