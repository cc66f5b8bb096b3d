/-
  Joined: ShaP, ShaO, ShaH, ShaB, ShaV, QTail.
-/
import Derived.Lib.Hide
import Derived.Test.YtgjelinnpcekmaaGreatDoorKit
import Derived.Test.YtgjelinnpcekmaaGreatDoorProg
import Derived.BigQuiet
import Derived.Deep.QuietTactic
import Derived.Laws.Shifts
import Derived.Laws.BitsAllLaws
import Derived.Test.YtgjelinnpcekmaaGreatDoorMem
import Derived.StillTailTactics
import Derived.Deep.RegionHeld3
import Derived.IntWalk
import Derived.OwnWalk
import Derived.Lib.LaidTab
import Derived.Lib.BufferWrite
import Derived.StillTail
namespace Go.Proofs.YtgjelinnpcekmaaGreatDoor
namespace Sha

def rot (x : UInt32) (n : Nat) : UInt32 := (x >>> UInt32.ofNat n) ||| (x <<< UInt32.ofNat (32 - n))
/-- The four bytes behind 4 t. -/
def word (r : List UInt8) (t : Nat) : UInt32 :=
  ((((r.getD (4 * t) 0).toUInt32 <<< 24) ||| ((r.getD (4 * t + 1) 0).toUInt32 <<< 16)) ||| ((r.getD (4 * t + 2) 0).toUInt32 <<< 8)) ||| (r.getD (4 * t + 3) 0).toUInt32
def sig0 (x : UInt32) : UInt32 := (rot x 7 ^^^ rot x 18) ^^^ (x >>> 3)
def sig1 (y : UInt32) : UInt32 := (rot y 17 ^^^ rot y 19) ^^^ (y >>> 10)
/-- The next number of the row. -/
def ext (w : List UInt32) (t : Nat) : UInt32 := ((w.getD (t - 16) 0 + w.getD (t - 7) 0) + sig0 (w.getD (t - 15) 0)) + sig1 (w.getD (t - 2) 0)
def words (r : List UInt8) (n : Nat) : List UInt32 := (List.range n).map (word r)
def sched (r : List UInt8) : Nat → List UInt32
  | 0 => words r 16
  | n + 1 => sched r n ++ [ext (sched r n) (n + 16)]
theorem words_length (r : List UInt8) (n : Nat) : (words r n).length = n := by simp [words]
theorem sched_length (r : List UInt8) (n : Nat) : (sched r n).length = n + 16 := by
  induction n with
  | zero => simp [sched, words]
  | succ n ih => rw [sched, List.length_append, ih, List.length_cons, List.length_nil]
theorem words_succ (r : List UInt8) (n : Nat) : words r (n + 1) = words r n ++ [word r n] := by simp [words, List.range_succ]

/-- The eight numbers of a round. -/
structure S8 where
  (a b c d e f g h : UInt32)
def S8.list (s : S8) : List UInt32 := [s.a, s.b, s.c, s.d, s.e, s.f, s.g, s.h]
def one (s : S8) (k w : UInt32) : UInt32 := (((s.h + ((rot s.e 6 ^^^ rot s.e 11) ^^^ rot s.e 25)) + ((s.e &&& s.f) ^^^ (~~~s.e &&& s.g))) + k) + w
def two (s : S8) : UInt32 := ((rot s.a 2 ^^^ rot s.a 13) ^^^ rot s.a 22) + (((s.a &&& s.b) ^^^ (s.a &&& s.c)) ^^^ (s.b &&& s.c))
def round (s : S8) (k w : UInt32) : S8 := ⟨one s k w + two s, s.a, s.b, s.c, s.d + one s k w, s.e, s.f, s.g⟩
def kTab : List UInt32 := [
  0x428a2f98, 0x71374491, 0xb5c0fbcf, 0xe9b5dba5, 0x3956c25b, 0x59f111f1, 0x923f82a4, 0xab1c5ed5,
  0xd807aa98, 0x12835b01, 0x243185be, 0x550c7dc3, 0x72be5d74, 0x80deb1fe, 0x9bdc06a7, 0xc19bf174,
  0xe49b69c1, 0xefbe4786, 0x0fc19dc6, 0x240ca1cc, 0x2de92c6f, 0x4a7484aa, 0x5cb0a9dc, 0x76f988da,
  0x983e5152, 0xa831c66d, 0xb00327c8, 0xbf597fc7, 0xc6e00bf3, 0xd5a79147, 0x06ca6351, 0x14292967,
  0x27b70a85, 0x2e1b2138, 0x4d2c6dfc, 0x53380d13, 0x650a7354, 0x766a0abb, 0x81c2c92e, 0x92722c85,
  0xa2bfe8a1, 0xa81a664b, 0xc24b8b70, 0xc76c51a3, 0xd192e819, 0xd6990624, 0xf40e3585, 0x106aa070,
  0x19a4c116, 0x1e376c08, 0x2748774c, 0x34b0bcb5, 0x391c0cb3, 0x4ed8aa4a, 0x5b9cca4f, 0x682e6ff3,
  0x748f82ee, 0x78a5636f, 0x84c87814, 0x8cc70208, 0x90befffa, 0xa4506ceb, 0xbef9a3f7, 0xc67178f2]
def hTab : List UInt32 := [0x6a09e667, 0xbb67ae85, 0x3c6ef372, 0xa54ff53a, 0x510e527f, 0x9b05688c, 0x1f83d9ab, 0x5be0cd19]
def kInts : List Int := kTab.map fun x => (x.toNat : Int)
def hInts : List Int := hTab.map fun x => (x.toNat : Int)
def S8.of (l : List UInt32) : S8 := ⟨l.getD 0 0, l.getD 1 0, l.getD 2 0, l.getD 3 0, l.getD 4 0, l.getD 5 0, l.getD 6 0, l.getD 7 0⟩
theorem S8.list_of (l : List UInt32) (h : l.length = 8) : (S8.of l).list = l := by
  match l, h with
  | [_, _, _, _, _, _, _, _], _ => rfl
theorem S8.of_list (s : S8) : S8.of s.list = s := rfl
def runs (s : S8) (w : List UInt32) : Nat → S8
  | 0 => s
  | t + 1 => round (runs s w t) (kTab.getD t 0) (w.getD t 0)
/-- The eight numbers behind 64 bytes. -/
def compress (st : List UInt32) (r : List UInt8) : List UInt32 :=
  List.zipWith (· + ·) st (runs (S8.of st) (sched r 48) 64).list

/-! ### A text taken byte by byte -/
structure HS where
  (st : List UInt32) (rest : List UInt8) (n : Nat)
def HS.byte (x : HS) (c : UInt8) : HS :=
  if x.n % 64 = 63 then ⟨compress x.st (x.rest.set 63 c), x.rest.set 63 c, x.n + 1⟩ else ⟨x.st, x.rest.set (x.n % 64) c, x.n + 1⟩
def HS.bytes (x : HS) (s : List UInt8) : HS := s.foldl HS.byte x
def HS.Ok (x : HS) : Prop := x.st.length = 8 ∧ x.rest.length = 64
theorem compress_length (st : List UInt32) (r : List UInt8) (h : st.length = 8) : (compress st r).length = 8 := by simp [compress, S8.list, h]
theorem HS.Ok.byte {x : HS} (h : x.Ok) (c : UInt8) : (x.byte c).Ok := by
  unfold HS.byte
  split
  · exact ⟨compress_length _ _ h.1, by simp [h.2]⟩
  · exact ⟨h.1, by simp [h.2]⟩
theorem HS.Ok.bytes {x : HS} (h : x.Ok) (s : List UInt8) : (x.bytes s).Ok := by
  induction s generalizing x with
  | nil => exact h
  | cons c s ih => exact ih (h.byte c)
theorem HS.bytes_n (x : HS) (s : List UInt8) : (x.bytes s).n = x.n + s.length := by
  induction s generalizing x with
  | nil => rfl
  | cons c s ih =>
    rw [HS.bytes, List.foldl_cons]
    have := ih (x.byte c)
    rw [HS.bytes] at this
    rw [this, List.length_cons]
    have : (x.byte c).n = x.n + 1 := by unfold HS.byte; split <;> rfl
    omega
theorem HS.bytes_append (x : HS) (s t : List UInt8) : x.bytes (s ++ t) = (x.bytes s).bytes t := by simp [HS.bytes]
/-- A row written over from a place on. -/
def over (r : List UInt8) (i : Nat) (s : List UInt8) : List UInt8 := r.take i ++ s ++ r.drop (i + s.length)
theorem over_length {r : List UInt8} {i : Nat} {s : List UInt8} (h : i + s.length ≤ r.length) : (over r i s).length = r.length := by
  unfold over; simp; omega
theorem over_set (r : List UInt8) (i : Nat) (c : UInt8) (s : List UInt8) (h : i + 1 + s.length ≤ r.length) : over (r.set i c) (i + 1) s = over r i (c :: s) := by
  unfold over
  have e1 : (r.set i c).take (i + 1) = r.take i ++ [c] := by
    rw [List.take_succ_eq_append_getElem (by simp; omega), List.take_set_of_le (Nat.le_refl i)]
    simp
  have e2 : (r.set i c).drop (i + 1 + s.length) = r.drop (i + 1 + s.length) := by
    rw [List.drop_set_of_lt (by omega)]
  rw [e1, e2]
  simp [Nat.add_assoc, Nat.add_comm 1]
/-- Fewer bytes than fill the row. -/
theorem HS.bytes_few (s : List UInt8) : ∀ x : HS, x.Ok → x.n % 64 + s.length < 64 → x.bytes s = ⟨x.st, over x.rest (x.n % 64) s, x.n + s.length⟩ := by
  induction s with
  | nil => intro x _ _; simp [HS.bytes, over]
  | cons c s ih =>
    intro x hx h
    rw [List.length_cons] at h
    have e : x.byte c = ⟨x.st, x.rest.set (x.n % 64) c, x.n + 1⟩ := by unfold HS.byte; rw [if_neg (by omega)]
    have := ih (x.byte c) (hx.byte c) (by rw [e]; show (x.n + 1) % 64 + _ < _; omega)
    rw [HS.bytes, List.foldl_cons]
    rw [HS.bytes] at this
    rw [this, e]
    have hm : (x.n + 1) % 64 = x.n % 64 + 1 := by omega
    simp only [hm, List.length_cons, HS.mk.injEq, true_and]
    refine ⟨?_, by omega⟩
    exact over_set _ _ _ _ (by rw [hx.2]; omega)
/-- As many bytes as fill it. -/
theorem HS.bytes_full (s : List UInt8) (x : HS) (hx : x.Ok) (h : x.n % 64 + s.length = 64) : x.bytes s = ⟨compress x.st (over x.rest (x.n % 64) s), over x.rest (x.n % 64) s, x.n + s.length⟩ := by
  obtain ⟨t, c, rfl⟩ : ∃ t c, s = t ++ [c] := by
    refine ⟨s.dropLast, s.getLast (by intro e; simp [e] at h; omega), (List.dropLast_concat_getLast _).symm⟩
  rw [List.length_append, List.length_cons, List.length_nil] at h
  rw [HS.bytes_append, HS.bytes_few t x hx (by omega)]
  have e : over x.rest (x.n % 64) (t ++ [c]) = (over x.rest (x.n % 64) t).set 63 c := by
    have hl := hx.2
    unfold over
    have e1 : x.rest.drop (x.n % 64 + (t ++ [c]).length) = [] := List.drop_of_length_le (by simp; omega)
    have e2 : (x.rest.drop (x.n % 64 + t.length)).length = 1 := by simp; omega
    obtain ⟨y, hy⟩ := List.length_eq_one_iff.1 e2
    rw [e1, hy, List.append_nil, ← List.append_assoc, List.set_append_right _ _ (by simp; omega)]
    congr 1
    rw [show 63 - (x.rest.take (x.n % 64) ++ t).length = 0 by simp; omega]
    rfl
  show HS.byte _ c = _
  unfold HS.byte
  rw [if_pos (by show (x.n + t.length) % 64 = 63; omega), e]
  simp only [List.length_append, List.length_cons, List.length_nil, Nat.add_assoc]

/-! ### The padded text in blocks -/
def be64 (n : Nat) : List UInt8 := (List.range 8).map fun i => UInt8.ofNat (n / 2 ^ (56 - 8 * i))
def zeros (n : Nat) : Nat := (119 - n % 64) % 64
/-- What is laid behind a text of so many bytes. -/
def pad (n : Nat) : List UInt8 := 128 :: List.replicate (zeros n) 0 ++ be64 (8 * n)
theorem pad_length (n : Nat) : (n + (pad n).length) % 64 = 0 := by
  simp only [pad, be64, List.length_append, List.length_cons, List.length_replicate, List.length_map, List.length_range, zeros]
  omega
def blocks : Nat → List UInt32 → List UInt8 → List UInt32
  | 0, st, _ => st
  | n + 1, st, b => blocks n (compress st (b.take 64)) (b.drop 64)
theorem over_zero (r s : List UInt8) (h : s.length = r.length) : over r 0 s = s := by
  unfold over
  simp only [List.take_zero, List.nil_append, Nat.zero_add, h, List.drop_length, List.append_nil]
theorem HS.bytes_blocks : ∀ (n : Nat) (x : HS) (b : List UInt8), x.Ok → x.n % 64 = 0 → b.length = 64 * n → (x.bytes b).st = blocks n x.st b
  | 0, x, b, _, _, h => by
    obtain rfl := List.eq_nil_of_length_eq_zero (by omega : b.length = 0)
    rfl
  | n + 1, x, b, hx, h0, h => by
    have e : b = b.take 64 ++ b.drop 64 := (List.take_append_drop 64 b).symm
    have hl : (b.take 64).length = 64 := by simp; omega
    conv => lhs; rw [e]
    have hfull := HS.bytes_full (b.take 64) x hx (by omega)
    rw [h0, over_zero _ _ (by rw [hl, hx.2])] at hfull
    rw [HS.bytes_append, hfull]
    have := HS.bytes_blocks n ⟨compress x.st (b.take 64), b.take 64, x.n + (b.take 64).length⟩ (b.drop 64) ⟨compress_length _ _ hx.1, hl⟩ (by show (x.n + _) % 64 = 0; omega) (by simp; omega)
    exact this
def init : HS := ⟨hTab, List.replicate 64 0, 0⟩
theorem init_ok : init.Ok := ⟨rfl, by simp [init]⟩
/-- The eight numbers of a text. -/
def sha (s : List UInt8) : List UInt32 := blocks ((s.length + (pad s.length).length) / 64) hTab (s ++ pad s.length)
theorem sha_bytes (s : List UInt8) : ((init.bytes s).bytes (pad s.length)).st = sha s := by
  rw [← HS.bytes_append]
  have hp := pad_length s.length
  refine HS.bytes_blocks _ init _ init_ok rfl ?_
  rw [List.length_append]; omega
theorem blocks_length : ∀ (n : Nat) (st : List UInt32) (b : List UInt8), st.length = 8 → (blocks n st b).length = 8
  | 0, _, _, h => h
  | n + 1, _, _, h => blocks_length n _ _ (compress_length _ _ h)
theorem sha_length (s : List UInt8) : (sha s).length = 8 := blocks_length _ _ _ rfl

/-- The digest's bytes: the first so many of the eight numbers' 32, and noughts behind. -/
def byteAt (st : List UInt32) (i : Nat) : UInt8 := ((st.getD (i / 4) 0) >>> UInt32.ofNat (24 - 8 * (i % 4))).toUInt8
def outN (st : List UInt32) (w : Nat) (n : Nat) : List UInt8 := (List.range n).map fun i => if i < w then byteAt st i else 0
def width (z : Int) : Nat := (min (max z 1) 32).toNat
def digest (z : Int) (s : List UInt8) : List UInt8 := outN (sha s) (width z) 32
theorem width_le (z : Int) : 1 ≤ width z ∧ width z ≤ 32 := by unfold width; omega
theorem digest_length (z : Int) (s : List UInt8) : (digest z s).length = 32 := by simp [digest, outN]
end Sha
end Go.Proofs.YtgjelinnpcekmaaGreatDoor
namespace Go.Proofs.YtgjelinnpcekmaaGreatDoor
open Go.RowKit

/-- A number of 32 bits, a byte: as values. -/
def W (x : UInt32) : Value := .int .u32 x.toNat
def U8 (c : UInt8) : Value := .int .u8 c.toNat
section
variable (x y : UInt32) (c : UInt8) (w : World)
theorem add_W : (binOp .add 79 (W x) (W y)).run Tryz.prog w = .ok (W (x + y)) w := by
  unfold W; go_simp; rw [IntKind.wrap_u32']
theorem xor_W : (binOp .xor 79 (W x) (W y)).run Tryz.prog w = .ok (W (x ^^^ y)) w := by
  unfold W; go_simp; exact u32_xor_nat _ _ x.toNat_lt y.toNat_lt
theorem and_W : (binOp .and 79 (W x) (W y)).run Tryz.prog w = .ok (W (x &&& y)) w := by
  unfold W; go_simp; exact u32_and_nat _ _ x.toNat_lt y.toNat_lt
theorem or_W : (binOp .or 79 (W x) (W y)).run Tryz.prog w = .ok (W (x ||| y)) w := by
  unfold W; go_simp; exact u32_or_nat _ _ x.toNat_lt y.toNat_lt
theorem not_nat : (4294967295 ^^^ x.toNat : Nat) = (~~~x).toNat := by
  have h : (~~~x : UInt32) = UInt32.ofBitVec (BitVec.allOnes 32 ^^^ x.toBitVec) := by
    rw [BitVec.allOnes_xor]; rfl
  rw [h]
  rfl
theorem not_W : (Op.unary .xor (W x)).run Tryz.prog w = .ok (W (~~~x)) w := by
  unfold W
  go_simp
  have h := u32_xor_nat 4294967295 x.toNat (by omega) x.toNat_lt
  rw [show (if IntKind.u32.signed = true then (-1 : Int) else IntKind.u32.max) = ((4294967295 : Nat) : Int) from rfl, h, not_nat]
  simp
theorem shr_W (k : IntKind) (n : Nat) (hn : n < 32) : (binOp .shr 79 (W x) (.int k n)).run Tryz.prog w = .ok (W (x >>> UInt32.ofNat n)) w := by
  unfold W; go_simp
  rw [Nat.mod_eq_of_lt hn, ← Int.natCast_shiftRight, Nat.shiftRight_eq_div_pow]
  simp
theorem shl_W (k : IntKind) (n : Nat) (hn : n < 32) : (binOp .shl 79 (W x) (.int k n)).run Tryz.prog w = .ok (W (x <<< UInt32.ofNat n)) w := by
  unfold W; go_simp
  rw [Nat.mod_eq_of_lt hn, IntKind.wrap_u32', ← Int.natCast_shiftLeft, Nat.shiftLeft_eq]
  simp
theorem conv_W : (convert 5 79 (U8 c)).run Tryz.prog w = .ok (W c.toUInt32) w := by
  unfold W U8; go_simp; rw [IntKind.wrap_u32']; have := c.toNat_lt; omega
theorem byte_W : (convert 79 5 (W x)).run Tryz.prog w = .ok (U8 x.toUInt8) w := by
  unfold W U8; go_simp; rw [IntKind.wrap_u8']
end
end Go.Proofs.YtgjelinnpcekmaaGreatDoor
namespace Go.Proofs.YtgjelinnpcekmaaGreatDoor
open Go.RowKit Sha

/-- The cells of a hash: width, eight numbers, what is left, how many bytes. -/
def hcells (z : Int) (st : List UInt32) (rest : List UInt8) (n : Nat) : List Value := .int .i64 z :: (st.map W ++ (rest.map U8 ++ [.int .i64 n]))
section
variable {z : Int} {st : List UInt32} {rest : List UInt8} {n : Nat} (h8 : st.length = 8) (h64 : rest.length = 64)
include h8 h64 in
theorem hc_len : (hcells z st rest n).length = 74 := by simp [hcells, h8, h64]
theorem hc_z : (hcells z st rest n)[0]? = some (.int .i64 z) := rfl
include h8 in
theorem hc_st {i : Nat} (hi : i < 8) : (hcells z st rest n)[1 + i]? = some (W (st.getD i 0)) := by
  unfold hcells
  rw [Nat.add_comm, List.getElem?_cons_succ, List.getElem?_append_left (by simp; omega), List.getElem?_map, List.getElem?_eq_getElem (by omega)]
  simp [List.getD, List.getElem?_eq_getElem (show i < st.length by omega)]
include h8 h64 in
theorem hc_rest {i : Nat} (hi : i < 64) : (hcells z st rest n)[9 + i]? = some (U8 (rest.getD i 0)) := by
  unfold hcells
  rw [show 9 + i = 8 + i + 1 by omega, List.getElem?_cons_succ, List.getElem?_append_right (by simp; omega), List.getElem?_append_left (by simp; omega), List.getElem?_map]
  simp only [List.length_map, h8, Nat.add_sub_cancel_left]
  simp [List.getD, List.getElem?_eq_getElem (show i < rest.length by omega)]
include h8 h64 in
theorem hc_n : (hcells z st rest n)[73]? = some (.int .i64 n) := by
  unfold hcells
  rw [List.getElem?_cons_succ, List.getElem?_append_right (by simp; omega), List.getElem?_append_right (by simp; omega)]
  simp [h8, h64]
include h8 in
theorem hc_set_st (i : Nat) (hi : i < 8) (x : UInt32) : (hcells z st rest n).set (1 + i) (W x) = hcells z (st.set i x) rest n := by
  unfold hcells
  rw [Nat.add_comm, List.set_cons_succ, List.set_append_left _ _ (by simp; omega), List.map_set]
include h8 h64 in
theorem hc_set_rest (i : Nat) (hi : i < 64) (c : UInt8) : (hcells z st rest n).set (9 + i) (U8 c) = hcells z st (rest.set i c) n := by
  unfold hcells
  rw [show 9 + i = 8 + i + 1 by omega, List.set_cons_succ, List.set_append_right _ _ (by simp; omega), List.set_append_left _ _ (by simp; omega), List.map_set]
  simp [h8]
include h8 h64 in
theorem hc_set_n (m : Nat) : (hcells z st rest n).set 73 (.int .i64 m) = hcells z st rest m := by
  unfold hcells
  rw [List.set_cons_succ, List.set_append_right _ _ (by simp; omega), List.set_append_right _ _ (by simp; omega)]
  simp [h8, h64]
end
/-- A hash lies in block g. -/
structure Hsh (w : World) (g : Nat) (z : Int) (st : List UInt32) (rest : List UInt8) (n : Nat) : Prop where
  blk : Blk w g 83 (hcells z st rest n).toArray
  l8 : st.length = 8
  l64 : rest.length = 64
section
variable {w w' : World} {g : Nat} {z : Int} {st : List UInt32} {rest : List UInt8} {n : Nat}
theorem Hsh.lt (h : Hsh w g z st rest n) : g < w.heap.size := h.blk.lt
theorem Hsh.c_z (h : Hsh w g z st rest n) : w.cell? ⟨g, 0, none⟩ = some (.int .i64 z) := h.blk.cell 0
theorem Hsh.c_st (h : Hsh w g z st rest n) {i : Nat} (hi : i < 8) : w.cell? ⟨g, 1 + i, none⟩ = some (W (st.getD i 0)) := (h.blk.cell (1 + i)).trans (by rw [List.getElem?_toArray]; exact hc_st h.l8 hi)
theorem Hsh.c_rest (h : Hsh w g z st rest n) {i : Nat} (hi : i < 64) : w.cell? ⟨g, 9 + i, none⟩ = some (U8 (rest.getD i 0)) := (h.blk.cell (9 + i)).trans (by rw [List.getElem?_toArray]; exact hc_rest h.l8 h.l64 hi)
theorem Hsh.c_n (h : Hsh w g z st rest n) : w.cell? ⟨g, 73, none⟩ = some (.int .i64 n) := (h.blk.cell 73).trans (by rw [List.getElem?_toArray]; exact hc_n h.l8 h.l64)
theorem Hsh.frozen (h : Hsh w g z st rest n) (i : Nat) : w.frozen? ⟨g, i, none⟩ = false := h.blk.frozen i
theorem Hsh.below {B : Nat} (h : Hsh w g z st rest n) (hb : Below B w w') (hg : g < B) : Hsh w' g z st rest n := ⟨h.blk.below hb hg, h.l8, h.l64⟩
theorem Hsh.set_st (h : Hsh w g z st rest n) {i : Nat} (hi : i < 8) (x : UInt32) : Hsh (w.setCell ⟨g, 1 + i, none⟩ (W x)) g z (st.set i x) rest n :=
  ⟨by have := h.blk.set_ (1 + i) (W x); rw [List.setIfInBounds_toArray, hc_set_st h.l8 i hi] at this; exact this, by simp [h.l8], h.l64⟩
theorem Hsh.set_rest (h : Hsh w g z st rest n) {i : Nat} (hi : i < 64) (c : UInt8) : Hsh (w.setCell ⟨g, 9 + i, none⟩ (U8 c)) g z st (rest.set i c) n :=
  ⟨by have := h.blk.set_ (9 + i) (U8 c); rw [List.setIfInBounds_toArray, hc_set_rest h.l8 h.l64 i hi] at this; exact this, h.l8, by simp [h.l64]⟩
theorem Hsh.set_n (h : Hsh w g z st rest n) (m : Nat) : Hsh (w.setCell ⟨g, 73, none⟩ (.int .i64 m)) g z st rest m :=
  ⟨by have := h.blk.set_ 73 (.int .i64 m); rw [List.setIfInBounds_toArray, hc_set_n h.l8 h.l64 m] at this; exact this, h.l8, h.l64⟩
theorem Hsh.far (h : Hsh w g z st rest n) {p : Addr} (hp : g ≠ p.block) (u : Value) : Hsh (w.setCell p u) g z st rest n := ⟨h.blk.far hp u, h.l8, h.l64⟩
end

/-- The row of 64 numbers of which the first are these. -/
def arr (l : List UInt32) : List Value := l.map W ++ List.replicate (64 - l.length) (W 0)
theorem arr_len {l : List UInt32} (h : l.length ≤ 64) : (arr l).length = 64 := by simp [arr]; omega
theorem arr_get {l : List UInt32} {i : Nat} (hi : i < l.length) : (arr l)[i]? = some (W (l.getD i 0)) := by
  unfold arr
  rw [List.getElem?_append_left (by simpa using hi), List.getElem?_map, List.getElem?_eq_getElem hi]
  simp [List.getD, List.getElem?_eq_getElem hi]
theorem arr_next {l : List UInt32} (h : l.length < 64) : (arr l)[l.length]? = some (W 0) := by
  unfold arr
  rw [List.getElem?_append_right (by simp)]
  simp [List.getElem?_replicate]; omega
theorem arr_set {l : List UInt32} (h : l.length < 64) (x : UInt32) : (arr l).set l.length (W x) = arr (l ++ [x]) := by
  unfold arr
  rw [List.set_append_right _ _ (by simp)]
  simp only [List.length_map, Nat.sub_self, List.map_append, List.map_cons, List.map_nil, List.length_append, List.length_cons, List.length_nil]
  obtain ⟨d, hd⟩ : ∃ d, 64 - l.length = d + 1 := ⟨63 - l.length, by omega⟩
  rw [hd, List.replicate_succ, List.set_cons_zero, show 64 - (l.length + (0 + 1)) = d by omega]
  simp
/-- The row lies in block b. -/
def Arr (w : World) (b : Nat) (l : List UInt32) : Prop := Blk w b 106 (arr l).toArray
section
variable {w w' : World} {b : Nat} {l : List UInt32}
theorem Arr.cell (h : Arr w b l) {i : Nat} (hi : i < l.length) : w.cell? ⟨b, i, none⟩ = some (W (l.getD i 0)) := (Blk.cell h i).trans (by rw [List.getElem?_toArray]; exact arr_get hi)
theorem Arr.next (h : Arr w b l) (hl : l.length < 64) : w.cell? ⟨b, l.length, none⟩ = some (W 0) := (Blk.cell h l.length).trans (by rw [List.getElem?_toArray]; exact arr_next hl)
theorem Arr.frozen (h : Arr w b l) (i : Nat) : w.frozen? ⟨b, i, none⟩ = false := Blk.frozen h i
theorem Arr.set (h : Arr w b l) (hl : l.length < 64) (x : UInt32) : Arr (w.setCell ⟨b, l.length, none⟩ (W x)) b (l ++ [x]) := by
  have := Blk.set_ h l.length (W x)
  rw [List.setIfInBounds_toArray, arr_set hl] at this
  exact this
end
end Go.Proofs.YtgjelinnpcekmaaGreatDoor
namespace Go.Proofs.YtgjelinnpcekmaaGreatDoor
open Go.RowKit Sha

theorem store_W {P : Program} {w : World} {b i : Nat} {u : Value} (x : UInt32) (h : w.cell? ⟨b, i, none⟩ = some u) (hf : w.frozen? ⟨b, i, none⟩ = false) :
    (storeCells ⟨b, i, none⟩ [W x]).run P w = .ok () (w.setCell ⟨b, i, none⟩ (W x)) := by
  unfold W
  go_simp
theorem store_U8 {P : Program} {w : World} {b i : Nat} {u : Value} (x : UInt8) (h : w.cell? ⟨b, i, none⟩ = some u) (hf : w.frozen? ⟨b, i, none⟩ = false) :
    (storeCells ⟨b, i, none⟩ [U8 x]).run P w = .ok () (w.setCell ⟨b, i, none⟩ (U8 x)) := by
  unfold U8
  go_simp
/-- It answers this, and has only drawn. -/
def Quiet (v : Value) (w : World) (e : Ending) (w' : World) : Prop := e = .returned v ∧ ∃ m, w' = w.drewN m
theorem turn_any (x : UInt32) (n : Nat) (h1 : 1 ≤ n) (h2 : n ≤ 31) (w : World) : Calls Tryz.prog 63 #[W x, .int .i64 n] w (Quiet (W (rot x n)) w) := by
  have f1 : ∀ wx, (binOp .shr 79 (W x) (.int .i64 n)).run Tryz.prog wx = .ok (W (x >>> UInt32.ofNat n)) wx := fun wx => shr_W x wx .i64 n (by omega)
  have f2 : ∀ wx, (binOp .shl 79 (W x) (.int .i64 (32 - (n : Int)))).run Tryz.prog wx = .ok (W (x <<< UInt32.ofNat (32 - n))) wx := fun wx => by
    rw [show (32 - (n : Int)) = ((32 - n : Nat) : Int) by omega]
    exact shl_W x wx .i64 (32 - n) (by omega)
  have f3 := or_W
  have hw : IntKind.i64.wrap (32 - (n : Int)) = 32 - (n : Int) := IntWalk.i64_in _ (by omega)
  clear h1 h2
  go_enter Tryz.func63, Tryz.ntmps63
  go_wp2_with fail
  go_quiet (fail)
  go_wp2
  go_ret
  exact ⟨rfl, _, rfl⟩
theorem turnZ (x : UInt32) (z : Int) (h1 : 1 ≤ z) (h2 : z ≤ 31) (w : World) : Calls Tryz.prog 63 #[W x, .int .i64 z] w fun e w' => e = .returned (W (rot x z.toNat)) ∧ ∃ m, w' = w.drewN m := by
  have h := turn_any x z.toNat (by omega) (by omega) w
  rw [show (z.toNat : Int) = z by omega] at h
  exact h
theorem built8 (a b c d e f g h : UInt32) : Tryz.prog.built 80 [(0, W a), (1, W b), (2, W c), (3, W d), (4, W e), (5, W f), (6, W g), (7, W h)] = some #[W a, W b, W c, W d, W e, W f, W g, W h] := by
  unfold W
  kernel_rfl
end Go.Proofs.YtgjelinnpcekmaaGreatDoor
namespace Go.Proofs.YtgjelinnpcekmaaGreatDoor
open Go.RowKit Sha

/-- copy(dst, s) from a list's string: as many bytes as fit. -/
theorem run_copy_row_min {P : Program} (w : World) (dT sT ty elem : TypeId) (g o dLen dCap : Nat) (T : List UInt8) (cur : Array Value) (t : TypeId)
    (hu : P.underlying dT = some (.slice elem)) (hs : (P.info? elem).map (·.size) = some 1) (hg : w.heap[g]? = some (.cells cur t (0, 0))) (hfit : o + (T.take dLen).length ≤ cur.size) :
    (Builtin.copy_ #[dT, sT] ty #[.slice (some ⟨g, o, none⟩) dLen dCap, .string ⟨T.toArray⟩]).run P w =
      .ok (goInt (T.take dLen).length) (w.setRow g (cur.toList.take o ++ (T.take dLen).map U8 ++ cur.toList.drop (o + (T.take dLen).length)).toArray) := by
  have hlen : ((T.take dLen).map U8).length = (T.take dLen).length := by simp
  have hst := run_storeCells_at P g o t ((T.take dLen).map U8) 0 cur w hg (by rw [hlen]; simpa using hfit) (by
    intro v hv
    obtain ⟨x, _, rfl⟩ := List.mem_map.1 hv
    rfl)
  rw [hlen] at hst
  simp only [Nat.add_zero] at hst
  have hsz : (⟨T.toArray⟩ : ByteArray).size = T.length := by simp [ByteArray.size]
  have hmin : Nat.min T.length dLen = (T.take dLen).length := by rw [List.length_take]; exact Nat.min_comm _ _
  have htk : List.take (T.take dLen).length (List.map (fun b : UInt8 => Value.int IntKind.u8 (b.toNat : Int)) T) = (T.take dLen).map U8 := by
    rw [← List.map_take, List.length_take]
    have : T.take (min dLen T.length) = T.take dLen := by
      rcases Nat.le_total dLen T.length with h | h
      · rw [Nat.min_eq_left h]
      · rw [Nat.min_eq_right h, List.take_of_length_le (Nat.le_refl _), List.take_of_length_le h]
    rw [this]
    rfl
  cases hq : P.info? elem with
  | none => simp [hq] at hs
  | some i =>
    have hm2 : Nat.min (ByteArray.size ⟨T.toArray⟩) dLen = (T.take dLen).length := by rw [hsz]; exact hmin
    simp [-List.length_take, Builtin.copy_, run_underlying hu, Builtin.lenOf, Builtin.firstCells, sizeOf, typeInfo, hq, hm2]
    rw [htk, hst]
    simp [Result.andThen]

theorem wpList_copy_at {P : Program} (w : World) {ops : Array Oper} {rest : List Oper} {o : Oper} {a : Act} {Q : Exit → Act → World → Prop} (hgd : o.guard = none) (d s : Operand) (t t' : TypeId)
    (ho : o.op = .call { callee := .builtin .copy, args := #[d, s], argTypes := #[t, t'] }) (v u : Value) (hd : a.eval d = v) (hs : a.eval s = u) {v' : Value} {w' : World}
    (hr : (Builtin.copy_ #[t, t'] o.type #[v, u]).run P w = .ok v' w') (h : wpList P ops Q rest (a.put o.dst v') w') : wpList P ops Q (o :: rest) a w :=
  wpList_plain hgd fun _ hK => by
    unfold Oper.wp execOp
    simp only [ho, resolve, invoke, builtin, Sem.run_bind, Sem.run_pure, Result.andThen_ok, List.map_toArray, List.map_cons, List.map_nil, hd, hs, hr]
    exact hK _ _ h
section
variable {z : Int} {st : List UInt32} {rest : List UInt8} {n : Nat} (h8 : st.length = 8) (h64 : rest.length = 64)
include h8 h64 in
theorem hc_over (i : Nat) (p : List UInt8) (h : i + p.length ≤ 64) :
    (hcells z st rest n).take (9 + i) ++ p.map U8 ++ (hcells z st rest n).drop (9 + i + p.length) = hcells z st (over rest i p) n := by
  have e : ∀ r : List UInt8, hcells z st r n = (.int .i64 z :: st.map W) ++ (r.map U8 ++ [.int .i64 n]) := fun r => by simp [hcells]
  have hA : (Value.int .i64 z :: st.map W).length = 9 := by simp [h8]
  have hr : (rest.map U8).length = 64 := by simp [h64]
  rw [e, e]
  generalize (Value.int .i64 z :: st.map W) = A at hA
  have t1 : (A ++ (rest.map U8 ++ [Value.int .i64 n])).take (9 + i) = A ++ (rest.take i).map U8 := by
    rw [← hA, List.take_length_add_append, List.take_append_of_le_length (by omega), List.map_take]
  have t2 : (A ++ (rest.map U8 ++ [Value.int .i64 n])).drop (9 + i + p.length) = (rest.drop (i + p.length)).map U8 ++ [Value.int .i64 n] := by
    rw [show 9 + i + p.length = A.length + (i + p.length) by omega, List.drop_length_add_append, List.drop_append_of_le_length (by omega), List.map_drop]
  rw [t1, t2]
  unfold over
  simp
end
/-- A hash lies in block g, as this. -/
def HshS (w : World) (g : Nat) (z : Int) (x : HS) : Prop := Hsh w g z x.st x.rest x.n
section
variable {w w' : World} {g : Nat} {z : Int} {x : HS}
theorem HshS.ok (h : HshS w g z x) : x.Ok := ⟨h.l8, h.l64⟩
theorem HshS.below {B : Nat} (h : HshS w g z x) (hb : Below B w w') (hg : g < B) : HshS w' g z x := Hsh.below h hb hg
theorem HshS.far (h : HshS w g z x) {p : Addr} (hp : g ≠ p.block) (u : Value) : HshS (w.setCell p u) g z x := Hsh.far h hp u
theorem HshS.grown {row : Option Nat} (h : HshS w g z x) (hb : w.grownBy w' row) (hg : some g ≠ row) : HshS w' g z x := ⟨h.blk.grown hb hg, h.l8, h.l64⟩
theorem Hsh.over {st : List UInt32} {rest : List UInt8} {n : Nat} (h : Hsh w g z st rest n) (i : Nat) (p : List UInt8) (hi : i + p.length ≤ 64) :
    Hsh (w.setRow g ((hcells z st rest n).toArray.toList.take (9 + i) ++ p.map U8 ++ (hcells z st rest n).toArray.toList.drop (9 + i + p.length)).toArray) g z st (Sha.over rest i p) n := by
  refine ⟨?_, h.l8, by rw [over_length (by rw [h.l64]; exact hi)]; exact h.l64⟩
  have h2 := setRow_heap w g _ (hcells z st (Sha.over rest i p) n).toArray _ _ h.blk
  rw [List.toList_toArray, hc_over h.l8 h.l64 i p hi]
  exact h2
end
/-- The next piece of a text: as much as fits. -/
theorem chunk (x : HS) (hx : x.Ok) (r : List UInt8) (hr : 0 < r.length) :
    let p := r.take (64 - x.n % 64)
    0 < p.length ∧ x.n % 64 + p.length ≤ 64 ∧ p.length ≤ r.length ∧
    x.bytes p = (if x.n % 64 + p.length = 64 then ⟨compress x.st (over x.rest (x.n % 64) p), over x.rest (x.n % 64) p, x.n + p.length⟩ else ⟨x.st, over x.rest (x.n % 64) p, x.n + p.length⟩) := by
  intro p
  have hp : p.length = min (64 - x.n % 64) r.length := List.length_take
  refine ⟨by omega, by omega, by omega, ?_⟩
  split
  · exact HS.bytes_full p x hx (by omega)
  · exact HS.bytes_few p x hx (by omega)
/-- The eight numbers behind a hash that is ended. -/
def HS.sum (x : HS) : List UInt32 := (x.bytes (pad x.n)).st
theorem HS.sum_text (s : List UInt8) : HS.sum (init.bytes s) = sha s := by
  unfold HS.sum
  rw [show (init.bytes s).n = s.length by rw [HS.bytes_n]; simp [init]]
  exact sha_bytes s
theorem HS.sum_eq (x : HS) (hx : x.Ok) (y : HS) (hy : y = x.bytes (128 :: List.replicate (zeros x.n) 0)) : HS.sum x = compress y.st (over y.rest 56 (be64 (8 * x.n))) ∧ y.n % 64 = 56 ∧ y.Ok := by
  have hn : y.n % 64 = 56 := by
    rw [hy, HS.bytes_n]; simp only [List.length_cons, List.length_replicate, zeros]; omega
  have hok : y.Ok := by rw [hy]; exact hx.bytes _
  refine ⟨?_, hn, hok⟩
  unfold HS.sum pad
  rw [HS.bytes_append, ← hy, HS.bytes_full _ y hok (by rw [hn]; simp [be64]), hn]
end Go.Proofs.YtgjelinnpcekmaaGreatDoor
namespace Go.Proofs.YtgjelinnpcekmaaGreatDoor
section
variable {P : Program} {ops : Array Oper} {md : Region.Mode} {C : World → Prop}
/-- The first n operations in whatever order; then L. -/
def wpAnyT (P : Program) (md : Region.Mode) (ops : Array Oper) (C : World → Prop) (n : Nat) (L : Array Bool → Act → Prop) : Nat → Array Bool → Act → Prop
  | 0, listed, a => L listed a
  | f + 1, listed, a => Region.ready md ops listed ≠ [] ∧ ∀ i ∈ Region.ready md ops listed, i < n ∧ qOp P ops C i (wpAnyT P md ops C n L f (listed.setIfInBounds i true)) a
theorem wpAny_of_headT {n g : Nat} {L : Array Bool → Act → Prop} {Q' : Exit → Act → World → Prop} (hL : ∀ listed a w, C w → L listed a → wpAny P md ops Q' g listed a w) :
    ∀ (f : Nat) (listed : Array Bool) (a : Act) (w : World), C w → wpAnyT P md ops C n L f listed a → wpAny P md ops Q' (f + g) listed a w
  | 0, listed, a, w, hw, h => by rw [Nat.zero_add]; exact hL _ _ _ hw h
  | f + 1, listed, a, w, hw, h => by
    rw [show f + 1 + g = (f + g) + 1 by omega]
    exact ⟨fun h0 => absurd h0 h.1, fun i hi => wpOp_of_qOp hw (fun a' w' hw' h' => wpAny_of_headT hL f _ a' w' hw' h') (h.2 i hi).2⟩
theorem wpAnyT_first {n i : Nat} {oi : Oper} {v : Value} {L : Array Bool → Act → Prop} (hi : ops[i]? = some oi) (hsel : ∀ (j : Nat) (o : Oper) cs b, ops[j]? = some o → o.op ≠ .select cs b)
    (hs : Region.sinkB md ops n = true) (hc : Region.chainB md ops n = true) (hn : n < ops.size) (hin : i < n)
    (hdone : ∀ listed a, L listed a → ∀ j ∈ Region.ready md ops listed, n ≤ j) :
    ∀ (f : Nat) (listed : Array Bool) (a : Act), HeadInv md ops n listed →
      (∀ j oj, ops[j]? = some oj → j ≠ i → listed.getD j true = false → (∀ e ∈ oj.after, Region.binds md e = true → e.on ≠ i) → oi.apart ops oj = true) →
      i ∈ Region.ready md ops listed → YieldsIn P ops C oi v a →
      wpAnyT P md ops C n L f (listed.setIfInBounds i true) (a.put oi.dst v) → wpAnyT P md ops C n L (f + 1) listed a := by
  intro f
  induction f with
  | zero =>
    intro listed a inv _ hr hy H
    have hun := (mem_ready.1 hr).1
    refine ⟨fun h => (by rw [h] at hr; cases hr), fun j hj => ?_⟩
    have hjn : j < n := by
      rcases Nat.lt_or_ge j n with h | h
      · exact h
      · exact absurd hj (tail_waits hs hc hn inv _ i rfl hin hun j h)
    refine ⟨hjn, ?_⟩
    by_cases hji : j = i
    · subst hji; exact hy.qOp hi H
    · have := hdone _ _ H j (ready_mono hj hji)
      omega
  | succ f ih =>
    intro listed a inv hfree hr hy H
    have hun := (mem_ready.1 hr).1
    refine ⟨fun h => (by rw [h] at hr; cases hr), fun j hj => ?_⟩
    have hjn : j < n := by
      rcases Nat.lt_or_ge j n with h | h
      · exact h
      · exact absurd hj (tail_waits hs hc hn inv _ i rfl hin hun j h)
    refine ⟨hjn, ?_⟩
    by_cases hji : j = i
    · subst hji; exact hy.qOp hi H
    · have h1 := (H.2 j (ready_mono hj hji)).2
      obtain ⟨hjun, oj, hoj, hall⟩ := mem_ready.1 hj
      have hnot : ∀ e ∈ oj.after, Region.binds md e = true → e.on ≠ i := fun e he hb heq => by
        have h1 := hall e he hb
        rw [heq, getD_both hun] at h1
        cases h1
      have h2 := qOp_put hoj (hfree j oj hoj hji hjun hnot) (fun cs b => hsel i oi cs b hi) (fun cs b => hsel j oj cs b hoj) hy h1
      have hfree' : ∀ k ok, ops[k]? = some ok → k ≠ i → (listed.setIfInBounds j true).getD k true = false →
          (∀ e ∈ ok.after, Region.binds md e = true → e.on ≠ i) → oi.apart ops ok = true := fun k ok hk hki hun hno => by
        refine hfree k ok hk hki ?_ hno
        by_cases hjk : j = k
        · subst hjk; exact hjun
        · rw [getD_set_ne true hjk] at hun; exact hun
      refine qOp_mono (fun a' h3 => ih (listed.setIfInBounds j true) a' (inv.set hj hjn) hfree' (ready_mono hr (Ne.symm hji)) h3.1 ?_) h2
      rw [Array.setIfInBounds_comm _ _ hji]
      exact h3.2
theorem wpAnyT_lex {n g : Nat} {Lq : Act → Prop} (hsel : Region.noSelect ops = true) (hs : Region.sinkB md ops n = true) (hc : Region.chainB md ops n = true) (hn : n < ops.size) :
    ∀ (l : List Oper) (k : Nat) (listed : Array Bool) (a : Act), (∀ j, j < l.length → l[j]? = ops[k + j]?) → k + l.length = n → HeadInv md ops n listed →
    Region.lexHead md ops g l.length k listed = true → wpQuiet P ops C Lq l a →
    wpAnyT P md ops C n (fun listed' a' => Region.seqB md ops g n listed' = true ∧ Lq a') l.length listed a
  | [], k, listed, a, _, hk, _, hB, h => by
    have : k = n := by simpa using hk
    subst this
    exact ⟨by simpa [Region.lexHead] using hB, h⟩
  | o :: l, k, listed, a, hl, hk, inv, hB, h => by
    have h0 : ops[k]? = some o := by simpa using (hl 0 (by simp)).symm
    simp only [List.length_cons, Region.lexHead, Bool.and_eq_true] at hB
    obtain ⟨⟨hr, hf⟩, hB'⟩ := hB
    have hkn : k < n := by simp only [List.length_cons] at hk; omega
    have hr' : k ∈ Region.ready md ops listed := by simpa using hr
    have hst : qOp P ops C k (wpQuiet P ops C Lq l) a := by unfold qOp; simp only [h0]; exact h
    obtain ⟨v, hy, hK⟩ := yieldsIn_of_qOp h0 hst
    exact wpAnyT_first h0 (Region.noSelect_spec hsel) hs hc hn hkn (fun listed' a' hL => seqB_ready hL.1) l.length listed a inv (Region.free_spec h0 hf) hr' hy
      (wpAnyT_lex hsel hs hc hn l (k + 1) _ _ (fun j hj => by have := hl (j + 1) (by simpa using hj); simpa [Nat.add_assoc, Nat.add_comm 1 j] using this) (by simp only [List.length_cons] at hk; omega) (inv.set hr' hkn) hB' hK)
/-- The region, its first n operations quiet, the others in one order. -/
theorem wp_region_quiet_tail {id : Nat} {Q : Exit → Act → World → Prop} {a : Act} {w : World} {l : List Oper} (n : Nat) (hm : P.follows .mixedOrders = true) (hB : Region.lexTailB .any l.toArray n = true)
    (h : wpQuiet P l.toArray (fun w' => ∃ k, w' = w.drewN k) (fun a' => ∀ w', (∃ k, w' = w.drewN k) → wpList P l.toArray Q (l.drop n) a' w') (l.take n) a) : (Code.region id l.toArray true).wp P Q a w := by
  simp only [Region.lexTailB, Bool.and_eq_true, decide_eq_true_eq] at hB
  obtain ⟨⟨⟨⟨hsel, hn⟩, hs⟩, hc⟩, hlex⟩ := hB
  have hn' : n < l.length := by simpa using hn
  have htl : (l.take n).length = n := by simp; omega
  have hdl : (l.drop n).length = l.toArray.size - n := by simp
  have inv0 : HeadInv .any l.toArray n (Array.replicate l.toArray.size false) :=
    ⟨by simp, fun j oj _ hl => (by rw [getD_replicate_false] at hl; cases hl), fun t _ ht => getD_in (by simpa using ht) (getD_replicate_false _ _)⟩
  have H := wpAnyT_lex (md := .any) (g := l.toArray.size - n) hsel hs hc hn (l.take n) 0 _ a (fun j hj => by
    have hj' : j < n := by rw [htl] at hj; exact hj
    simp [hj']) (by simpa using htl) inv0 (by rw [htl]; exact hlex) h
  refine wp_region_any hm ?_
  have key : ∀ listed a' w', (∃ k, w' = w.drewN k) → (Region.seqB .any l.toArray (l.toArray.size - n) n listed = true ∧ ∀ w', (∃ k, w' = w.drewN k) → wpList P l.toArray Q (l.drop n) a' w') → wpAny P .any l.toArray Q (l.toArray.size - n) listed a' w' := fun listed a' w' hw' hL => by
    have := wpAny_of_seq (md := .any) (Q' := Q) (l.drop n) n listed a' w' (fun j => by simp [List.getElem?_drop]) (by rw [hdl]; exact hL.1) (hL.2 w' hw')
    rwa [hdl] at this
  have := wpAny_of_headT key _ _ a { w with drawn := w.drawn + 1 } ⟨1, rfl⟩ H
  rw [htl, show n + (l.toArray.size - n) = l.toArray.size by omega] at this
  exact this
end
/-- As the quiet walk, for a region with a tail: n: how many operations stand ahead of the tail. -/
theorem quiet_tail_lit {P : Program} {id : Nat} {Q : Exit → Act → World → Prop} {a : Act} {w : World} {l : List Oper} (n : Nat) (hm : P.follows .mixedOrders = true) (hB : Region.lexTailB .any l.toArray n = true)
    (h : ∀ L : Act → Prop, (∀ a', (∀ w', (∃ k, w' = w.drewN k) → wpList P l.toArray Q (l.drop n) a' w') → L a') → wpQuiet P l.toArray (fun w' => ∃ k, w' = w.drewN k) L (l.take n) a) : (Code.region id l.toArray true).wp P Q a w :=
  wp_region_quiet_tail n hm hB (h _ fun _ h => h)
end Go.Proofs.YtgjelinnpcekmaaGreatDoor
