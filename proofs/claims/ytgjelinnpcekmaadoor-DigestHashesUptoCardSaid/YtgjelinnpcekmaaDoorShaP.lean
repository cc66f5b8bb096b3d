/-
  Plain facts about SHA-256: the block's numbers, a text taken byte by byte, and the padded text in blocks. No program in sight.
-/
import Derived.Lib.Hide
namespace Go.Proofs.YtgjelinnpcekmaaDoor
namespace Sha

def rot (x : UInt32) (n : Nat) : UInt32 := (x >>> UInt32.ofNat n) ||| (x <<< UInt32.ofNat (32 - n))
/-- The four bytes behind 4 t. -/
def word (r : List UInt8) (t : Nat) : UInt32 :=
  ((((r.getD (4 * t) 0).toUInt32 <<< 24) ||| ((r.getD (4 * t + 1) 0).toUInt32 <<< 16)) ||| ((r.getD (4 * t + 2) 0).toUInt32 <<< 8)) ||| (r.getD (4 * t + 3) 0).toUInt32
def sig0 (x : UInt32) : UInt32 := (rot x 7 ^^^ rot x 18) ^^^ (x >>> 3)
def sig1 (y : UInt32) : UInt32 := (rot y 17 ^^^ rot y 19) ^^^ (y >>> 10)
/-- The next number of the row. -/
def ext (w : List UInt32) (t : Nat) : UInt32 := ((w.getD (t - 16) 0 + w.getD (t - 7) 0) + sig0 (w.getD (t - 15) 0)) + sig1 (w.getD (t - 2) 0)
def words (r : List UInt8) (n : Nat) : List UInt32 := (List.range n).map (word r)
def sched (r : List UInt8) : Nat → List UInt32
  | 0 => words r 16
  | n + 1 => sched r n ++ [ext (sched r n) (n + 16)]
theorem words_length (r : List UInt8) (n : Nat) : (words r n).length = n := by simp [words]
theorem sched_length (r : List UInt8) (n : Nat) : (sched r n).length = n + 16 := by
  induction n with
  | zero => simp [sched, words]
  | succ n ih => rw [sched, List.length_append, ih, List.length_cons, List.length_nil]
theorem words_succ (r : List UInt8) (n : Nat) : words r (n + 1) = words r n ++ [word r n] := by simp [words, List.range_succ]

/-- The eight numbers of a round. -/
structure S8 where
  (a b c d e f g h : UInt32)
def S8.list (s : S8) : List UInt32 := [s.a, s.b, s.c, s.d, s.e, s.f, s.g, s.h]
def one (s : S8) (k w : UInt32) : UInt32 := (((s.h + ((rot s.e 6 ^^^ rot s.e 11) ^^^ rot s.e 25)) + ((s.e &&& s.f) ^^^ (~~~s.e &&& s.g))) + k) + w
def two (s : S8) : UInt32 := ((rot s.a 2 ^^^ rot s.a 13) ^^^ rot s.a 22) + (((s.a &&& s.b) ^^^ (s.a &&& s.c)) ^^^ (s.b &&& s.c))
def round (s : S8) (k w : UInt32) : S8 := ⟨one s k w + two s, s.a, s.b, s.c, s.d + one s k w, s.e, s.f, s.g⟩
def kTab : List UInt32 := [
  0x428a2f98, 0x71374491, 0xb5c0fbcf, 0xe9b5dba5, 0x3956c25b, 0x59f111f1, 0x923f82a4, 0xab1c5ed5,
  0xd807aa98, 0x12835b01, 0x243185be, 0x550c7dc3, 0x72be5d74, 0x80deb1fe, 0x9bdc06a7, 0xc19bf174,
  0xe49b69c1, 0xefbe4786, 0x0fc19dc6, 0x240ca1cc, 0x2de92c6f, 0x4a7484aa, 0x5cb0a9dc, 0x76f988da,
  0x983e5152, 0xa831c66d, 0xb00327c8, 0xbf597fc7, 0xc6e00bf3, 0xd5a79147, 0x06ca6351, 0x14292967,
  0x27b70a85, 0x2e1b2138, 0x4d2c6dfc, 0x53380d13, 0x650a7354, 0x766a0abb, 0x81c2c92e, 0x92722c85,
  0xa2bfe8a1, 0xa81a664b, 0xc24b8b70, 0xc76c51a3, 0xd192e819, 0xd6990624, 0xf40e3585, 0x106aa070,
  0x19a4c116, 0x1e376c08, 0x2748774c, 0x34b0bcb5, 0x391c0cb3, 0x4ed8aa4a, 0x5b9cca4f, 0x682e6ff3,
  0x748f82ee, 0x78a5636f, 0x84c87814, 0x8cc70208, 0x90befffa, 0xa4506ceb, 0xbef9a3f7, 0xc67178f2]
def hTab : List UInt32 := [0x6a09e667, 0xbb67ae85, 0x3c6ef372, 0xa54ff53a, 0x510e527f, 0x9b05688c, 0x1f83d9ab, 0x5be0cd19]
def kInts : List Int := kTab.map fun x => (x.toNat : Int)
def hInts : List Int := hTab.map fun x => (x.toNat : Int)
def S8.of (l : List UInt32) : S8 := ⟨l.getD 0 0, l.getD 1 0, l.getD 2 0, l.getD 3 0, l.getD 4 0, l.getD 5 0, l.getD 6 0, l.getD 7 0⟩
theorem S8.list_of (l : List UInt32) (h : l.length = 8) : (S8.of l).list = l := by
  match l, h with
  | [_, _, _, _, _, _, _, _], _ => rfl
theorem S8.of_list (s : S8) : S8.of s.list = s := rfl
def runs (s : S8) (w : List UInt32) : Nat → S8
  | 0 => s
  | t + 1 => round (runs s w t) (kTab.getD t 0) (w.getD t 0)
/-- The eight numbers behind 64 bytes. -/
def compress (st : List UInt32) (r : List UInt8) : List UInt32 :=
  List.zipWith (· + ·) st (runs (S8.of st) (sched r 48) 64).list

/-! ### A text taken byte by byte -/
structure HS where
  (st : List UInt32) (rest : List UInt8) (n : Nat)
def HS.byte (x : HS) (c : UInt8) : HS :=
  if x.n % 64 = 63 then ⟨compress x.st (x.rest.set 63 c), x.rest.set 63 c, x.n + 1⟩ else ⟨x.st, x.rest.set (x.n % 64) c, x.n + 1⟩
def HS.bytes (x : HS) (s : List UInt8) : HS := s.foldl HS.byte x
def HS.Ok (x : HS) : Prop := x.st.length = 8 ∧ x.rest.length = 64
theorem compress_length (st : List UInt32) (r : List UInt8) (h : st.length = 8) : (compress st r).length = 8 := by simp [compress, S8.list, h]
theorem HS.Ok.byte {x : HS} (h : x.Ok) (c : UInt8) : (x.byte c).Ok := by
  unfold HS.byte
  split
  · exact ⟨compress_length _ _ h.1, by simp [h.2]⟩
  · exact ⟨h.1, by simp [h.2]⟩
theorem HS.Ok.bytes {x : HS} (h : x.Ok) (s : List UInt8) : (x.bytes s).Ok := by
  induction s generalizing x with
  | nil => exact h
  | cons c s ih => exact ih (h.byte c)
theorem HS.bytes_n (x : HS) (s : List UInt8) : (x.bytes s).n = x.n + s.length := by
  induction s generalizing x with
  | nil => rfl
  | cons c s ih =>
    rw [HS.bytes, List.foldl_cons]
    have := ih (x.byte c)
    rw [HS.bytes] at this
    rw [this, List.length_cons]
    have : (x.byte c).n = x.n + 1 := by unfold HS.byte; split <;> rfl
    omega
theorem HS.bytes_append (x : HS) (s t : List UInt8) : x.bytes (s ++ t) = (x.bytes s).bytes t := by simp [HS.bytes]
/-- A row written over from a place on. -/
def over (r : List UInt8) (i : Nat) (s : List UInt8) : List UInt8 := r.take i ++ s ++ r.drop (i + s.length)
theorem over_length {r : List UInt8} {i : Nat} {s : List UInt8} (h : i + s.length ≤ r.length) : (over r i s).length = r.length := by
  unfold over; simp; omega
theorem over_set (r : List UInt8) (i : Nat) (c : UInt8) (s : List UInt8) (h : i + 1 + s.length ≤ r.length) : over (r.set i c) (i + 1) s = over r i (c :: s) := by
  unfold over
  have e1 : (r.set i c).take (i + 1) = r.take i ++ [c] := by
    rw [List.take_succ_eq_append_getElem (by simp; omega), List.take_set_of_le (Nat.le_refl i)]
    simp
  have e2 : (r.set i c).drop (i + 1 + s.length) = r.drop (i + 1 + s.length) := by
    rw [List.drop_set_of_lt (by omega)]
  rw [e1, e2]
  simp [Nat.add_assoc, Nat.add_comm 1]
/-- Fewer bytes than fill the row. -/
theorem HS.bytes_few (s : List UInt8) : ∀ x : HS, x.Ok → x.n % 64 + s.length < 64 → x.bytes s = ⟨x.st, over x.rest (x.n % 64) s, x.n + s.length⟩ := by
  induction s with
  | nil => intro x _ _; simp [HS.bytes, over]
  | cons c s ih =>
    intro x hx h
    rw [List.length_cons] at h
    have e : x.byte c = ⟨x.st, x.rest.set (x.n % 64) c, x.n + 1⟩ := by unfold HS.byte; rw [if_neg (by omega)]
    have := ih (x.byte c) (hx.byte c) (by rw [e]; show (x.n + 1) % 64 + _ < _; omega)
    rw [HS.bytes, List.foldl_cons]
    rw [HS.bytes] at this
    rw [this, e]
    have hm : (x.n + 1) % 64 = x.n % 64 + 1 := by omega
    simp only [hm, List.length_cons, HS.mk.injEq, true_and]
    refine ⟨?_, by omega⟩
    exact over_set _ _ _ _ (by rw [hx.2]; omega)
/-- As many bytes as fill it. -/
theorem HS.bytes_full (s : List UInt8) (x : HS) (hx : x.Ok) (h : x.n % 64 + s.length = 64) : x.bytes s = ⟨compress x.st (over x.rest (x.n % 64) s), over x.rest (x.n % 64) s, x.n + s.length⟩ := by
  obtain ⟨t, c, rfl⟩ : ∃ t c, s = t ++ [c] := by
    refine ⟨s.dropLast, s.getLast (by intro e; simp [e] at h; omega), (List.dropLast_concat_getLast _).symm⟩
  rw [List.length_append, List.length_cons, List.length_nil] at h
  rw [HS.bytes_append, HS.bytes_few t x hx (by omega)]
  have e : over x.rest (x.n % 64) (t ++ [c]) = (over x.rest (x.n % 64) t).set 63 c := by
    have hl := hx.2
    unfold over
    have e1 : x.rest.drop (x.n % 64 + (t ++ [c]).length) = [] := List.drop_of_length_le (by simp; omega)
    have e2 : (x.rest.drop (x.n % 64 + t.length)).length = 1 := by simp; omega
    obtain ⟨y, hy⟩ := List.length_eq_one_iff.1 e2
    rw [e1, hy, List.append_nil, ← List.append_assoc, List.set_append_right _ _ (by simp; omega)]
    congr 1
    rw [show 63 - (x.rest.take (x.n % 64) ++ t).length = 0 by simp; omega]
    rfl
  show HS.byte _ c = _
  unfold HS.byte
  rw [if_pos (by show (x.n + t.length) % 64 = 63; omega), e]
  simp only [List.length_append, List.length_cons, List.length_nil, Nat.add_assoc]

/-! ### The padded text in blocks -/
def be64 (n : Nat) : List UInt8 := (List.range 8).map fun i => UInt8.ofNat (n / 2 ^ (56 - 8 * i))
def zeros (n : Nat) : Nat := (119 - n % 64) % 64
/-- What is laid behind a text of so many bytes. -/
def pad (n : Nat) : List UInt8 := 128 :: List.replicate (zeros n) 0 ++ be64 (8 * n)
theorem pad_length (n : Nat) : (n + (pad n).length) % 64 = 0 := by
  simp only [pad, be64, List.length_append, List.length_cons, List.length_replicate, List.length_map, List.length_range, zeros]
  omega
def blocks : Nat → List UInt32 → List UInt8 → List UInt32
  | 0, st, _ => st
  | n + 1, st, b => blocks n (compress st (b.take 64)) (b.drop 64)
theorem over_zero (r s : List UInt8) (h : s.length = r.length) : over r 0 s = s := by
  unfold over
  simp only [List.take_zero, List.nil_append, Nat.zero_add, h, List.drop_length, List.append_nil]
theorem HS.bytes_blocks : ∀ (n : Nat) (x : HS) (b : List UInt8), x.Ok → x.n % 64 = 0 → b.length = 64 * n → (x.bytes b).st = blocks n x.st b
  | 0, x, b, _, _, h => by
    obtain rfl := List.eq_nil_of_length_eq_zero (by omega : b.length = 0)
    rfl
  | n + 1, x, b, hx, h0, h => by
    have e : b = b.take 64 ++ b.drop 64 := (List.take_append_drop 64 b).symm
    have hl : (b.take 64).length = 64 := by simp; omega
    conv => lhs; rw [e]
    have hfull := HS.bytes_full (b.take 64) x hx (by omega)
    rw [h0, over_zero _ _ (by rw [hl, hx.2])] at hfull
    rw [HS.bytes_append, hfull]
    have := HS.bytes_blocks n ⟨compress x.st (b.take 64), b.take 64, x.n + (b.take 64).length⟩ (b.drop 64) ⟨compress_length _ _ hx.1, hl⟩ (by show (x.n + _) % 64 = 0; omega) (by simp; omega)
    exact this
def init : HS := ⟨hTab, List.replicate 64 0, 0⟩
theorem init_ok : init.Ok := ⟨rfl, by simp [init]⟩
/-- The eight numbers of a text. -/
def sha (s : List UInt8) : List UInt32 := blocks ((s.length + (pad s.length).length) / 64) hTab (s ++ pad s.length)
theorem sha_bytes (s : List UInt8) : ((init.bytes s).bytes (pad s.length)).st = sha s := by
  rw [← HS.bytes_append]
  have hp := pad_length s.length
  refine HS.bytes_blocks _ init _ init_ok rfl ?_
  rw [List.length_append]; omega
theorem blocks_length : ∀ (n : Nat) (st : List UInt32) (b : List UInt8), st.length = 8 → (blocks n st b).length = 8
  | 0, _, _, h => h
  | n + 1, _, _, h => blocks_length n _ _ (compress_length _ _ h)
theorem sha_length (s : List UInt8) : (sha s).length = 8 := blocks_length _ _ _ rfl

/-- The digest's bytes: the first so many of the eight numbers' 32, and noughts behind. -/
def byteAt (st : List UInt32) (i : Nat) : UInt8 := ((st.getD (i / 4) 0) >>> UInt32.ofNat (24 - 8 * (i % 4))).toUInt8
def outN (st : List UInt32) (w : Nat) (n : Nat) : List UInt8 := (List.range n).map fun i => if i < w then byteAt st i else 0
def width (z : Int) : Nat := (min (max z 1) 32).toNat
def digest (z : Int) (s : List UInt8) : List UInt8 := outN (sha s) (width z) 32
theorem width_le (z : Int) : 1 ≤ width z ∧ width z ≤ 32 := by unfold width; omega
theorem digest_length (z : Int) (s : List UInt8) : (digest z s).length = 32 := by simp [digest, outN]
end Sha
end Go.Proofs.YtgjelinnpcekmaaDoor
