/-
  A hash written to: a text's bytes copied onto what is left; what a text taken piece by piece comes to.
-/
import Derived.Test.YtgjelinnpcekmaaDoorShaH
import Derived.Lib.BufferWrite
namespace Go.Proofs.YtgjelinnpcekmaaDoor
open Go.RowKit Sha

/-- copy(dst, s) from a list's string: as many bytes as fit. -/
theorem run_copy_row_min {P : Program} (w : World) (dT sT ty elem : TypeId) (g o dLen dCap : Nat) (T : List UInt8) (cur : Array Value) (t : TypeId)
    (hu : P.underlying dT = some (.slice elem)) (hs : (P.info? elem).map (·.size) = some 1) (hg : w.heap[g]? = some (.cells cur t (0, 0))) (hfit : o + (T.take dLen).length ≤ cur.size) :
    (Builtin.copy_ #[dT, sT] ty #[.slice (some ⟨g, o, none⟩) dLen dCap, .string ⟨T.toArray⟩]).run P w =
      .ok (goInt (T.take dLen).length) (w.setRow g (cur.toList.take o ++ (T.take dLen).map U8 ++ cur.toList.drop (o + (T.take dLen).length)).toArray) := by
  have hlen : ((T.take dLen).map U8).length = (T.take dLen).length := by simp
  have hst := run_storeCells_at P g o t ((T.take dLen).map U8) 0 cur w hg (by rw [hlen]; simpa using hfit) (by
    intro v hv
    obtain ⟨x, _, rfl⟩ := List.mem_map.1 hv
    rfl)
  rw [hlen] at hst
  simp only [Nat.add_zero] at hst
  have hsz : (⟨T.toArray⟩ : ByteArray).size = T.length := by simp [ByteArray.size]
  have hmin : Nat.min T.length dLen = (T.take dLen).length := by rw [List.length_take]; exact Nat.min_comm _ _
  have htk : List.take (T.take dLen).length (List.map (fun b : UInt8 => Value.int IntKind.u8 (b.toNat : Int)) T) = (T.take dLen).map U8 := by
    rw [← List.map_take, List.length_take]
    have : T.take (min dLen T.length) = T.take dLen := by
      rcases Nat.le_total dLen T.length with h | h
      · rw [Nat.min_eq_left h]
      · rw [Nat.min_eq_right h, List.take_of_length_le (Nat.le_refl _), List.take_of_length_le h]
    rw [this]
    rfl
  cases hq : P.info? elem with
  | none => simp [hq] at hs
  | some i =>
    have hm2 : Nat.min (ByteArray.size ⟨T.toArray⟩) dLen = (T.take dLen).length := by rw [hsz]; exact hmin
    simp [-List.length_take, Builtin.copy_, run_underlying hu, Builtin.lenOf, Builtin.firstCells, sizeOf, typeInfo, hq, hm2]
    rw [htk, hst]
    simp [Result.andThen]

theorem wpList_copy_at {P : Program} (w : World) {ops : Array Oper} {rest : List Oper} {o : Oper} {a : Act} {Q : Exit → Act → World → Prop} (hgd : o.guard = none) (d s : Operand) (t t' : TypeId)
    (ho : o.op = .call { callee := .builtin .copy, args := #[d, s], argTypes := #[t, t'] }) (v u : Value) (hd : a.eval d = v) (hs : a.eval s = u) {v' : Value} {w' : World}
    (hr : (Builtin.copy_ #[t, t'] o.type #[v, u]).run P w = .ok v' w') (h : wpList P ops Q rest (a.put o.dst v') w') : wpList P ops Q (o :: rest) a w :=
  wpList_plain hgd fun _ hK => by
    unfold Oper.wp execOp
    simp only [ho, resolve, invoke, builtin, Sem.run_bind, Sem.run_pure, Result.andThen_ok, List.map_toArray, List.map_cons, List.map_nil, hd, hs, hr]
    exact hK _ _ h
section
variable {z : Int} {st : List UInt32} {rest : List UInt8} {n : Nat} (h8 : st.length = 8) (h64 : rest.length = 64)
include h8 h64 in
theorem hc_over (i : Nat) (p : List UInt8) (h : i + p.length ≤ 64) :
    (hcells z st rest n).take (9 + i) ++ p.map U8 ++ (hcells z st rest n).drop (9 + i + p.length) = hcells z st (over rest i p) n := by
  have e : ∀ r : List UInt8, hcells z st r n = (.int .i64 z :: st.map W) ++ (r.map U8 ++ [.int .i64 n]) := fun r => by simp [hcells]
  have hA : (Value.int .i64 z :: st.map W).length = 9 := by simp [h8]
  have hr : (rest.map U8).length = 64 := by simp [h64]
  rw [e, e]
  generalize (Value.int .i64 z :: st.map W) = A at hA
  have t1 : (A ++ (rest.map U8 ++ [Value.int .i64 n])).take (9 + i) = A ++ (rest.take i).map U8 := by
    rw [← hA, List.take_length_add_append, List.take_append_of_le_length (by omega), List.map_take]
  have t2 : (A ++ (rest.map U8 ++ [Value.int .i64 n])).drop (9 + i + p.length) = (rest.drop (i + p.length)).map U8 ++ [Value.int .i64 n] := by
    rw [show 9 + i + p.length = A.length + (i + p.length) by omega, List.drop_length_add_append, List.drop_append_of_le_length (by omega), List.map_drop]
  rw [t1, t2]
  unfold over
  simp
end
/-- A hash lies in block g, as this. -/
def HshS (w : World) (g : Nat) (z : Int) (x : HS) : Prop := Hsh w g z x.st x.rest x.n
section
variable {w w' : World} {g : Nat} {z : Int} {x : HS}
theorem HshS.ok (h : HshS w g z x) : x.Ok := ⟨h.l8, h.l64⟩
theorem HshS.below {B : Nat} (h : HshS w g z x) (hb : Below B w w') (hg : g < B) : HshS w' g z x := Hsh.below h hb hg
theorem HshS.far (h : HshS w g z x) {p : Addr} (hp : g ≠ p.block) (u : Value) : HshS (w.setCell p u) g z x := Hsh.far h hp u
theorem HshS.grown {row : Option Nat} (h : HshS w g z x) (hb : w.grownBy w' row) (hg : some g ≠ row) : HshS w' g z x := ⟨h.blk.grown hb hg, h.l8, h.l64⟩
theorem Hsh.over {st : List UInt32} {rest : List UInt8} {n : Nat} (h : Hsh w g z st rest n) (i : Nat) (p : List UInt8) (hi : i + p.length ≤ 64) :
    Hsh (w.setRow g ((hcells z st rest n).toArray.toList.take (9 + i) ++ p.map U8 ++ (hcells z st rest n).toArray.toList.drop (9 + i + p.length)).toArray) g z st (Sha.over rest i p) n := by
  refine ⟨?_, h.l8, by rw [over_length (by rw [h.l64]; exact hi)]; exact h.l64⟩
  have h2 := setRow_heap w g _ (hcells z st (Sha.over rest i p) n).toArray _ _ h.blk
  rw [List.toList_toArray, hc_over h.l8 h.l64 i p hi]
  exact h2
end
/-- The next piece of a text: as much as fits. -/
theorem chunk (x : HS) (hx : x.Ok) (r : List UInt8) (hr : 0 < r.length) :
    let p := r.take (64 - x.n % 64)
    0 < p.length ∧ x.n % 64 + p.length ≤ 64 ∧ p.length ≤ r.length ∧
    x.bytes p = (if x.n % 64 + p.length = 64 then ⟨compress x.st (over x.rest (x.n % 64) p), over x.rest (x.n % 64) p, x.n + p.length⟩ else ⟨x.st, over x.rest (x.n % 64) p, x.n + p.length⟩) := by
  intro p
  have hp : p.length = min (64 - x.n % 64) r.length := List.length_take
  refine ⟨by omega, by omega, by omega, ?_⟩
  split
  · exact HS.bytes_full p x hx (by omega)
  · exact HS.bytes_few p x hx (by omega)
/-- The eight numbers behind a hash that is ended. -/
def HS.sum (x : HS) : List UInt32 := (x.bytes (pad x.n)).st
theorem HS.sum_text (s : List UInt8) : HS.sum (init.bytes s) = sha s := by
  unfold HS.sum
  rw [show (init.bytes s).n = s.length by rw [HS.bytes_n]; simp [init]]
  exact sha_bytes s
theorem HS.sum_eq (x : HS) (hx : x.Ok) (y : HS) (hy : y = x.bytes (128 :: List.replicate (zeros x.n) 0)) : HS.sum x = compress y.st (over y.rest 56 (be64 (8 * x.n))) ∧ y.n % 64 = 56 ∧ y.Ok := by
  have hn : y.n % 64 = 56 := by
    rw [hy, HS.bytes_n]; simp only [List.length_cons, List.length_replicate, zeros]; omega
  have hok : y.Ok := by rw [hy]; exact hx.bytes _
  refine ⟨?_, hn, hok⟩
  unfold HS.sum pad
  rw [HS.bytes_append, ← hy, HS.bytes_full _ y hok (by rw [hn]; simp [be64]), hn]
end Go.Proofs.YtgjelinnpcekmaaDoor
