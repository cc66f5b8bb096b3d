/-
  The document's decimal digits.
-/
import Derived.Test.YtlfeddgpfaigkaaGreatDoorJsQu
import Derived.Test.YtlfeddgpfaigkaaGreatDoorByt
import Derived.Test.YtlfeddgpfaigkaaGreatDoorSmt
import Derived.IntWalk
import Derived.Lib.ItoaLen
import Derived.Test.YtlfeddgpfaigkaaGreatDoorJsWp
import Derived.Lib.AppendStr
namespace Go.Proofs.YtlfeddgpfaigkaaGreatDoor
open Go.RowKit
namespace Js
theorem infoByteQ : (Tryz.prog.info? 5).map (fun i => (i.zero, i.size, i.bytes)) = some (some (.int .u8 0), 1, 1) := by kernel_rfl
/-- Bytes of the call's own. -/
def OwnY (w : World) (B : Nat) (v : Value) (l : List UInt8) : Prop := w.ownsRow B 5 1 v l.length (Lib.byteCells l)
theorem ownY_form {w : World} {B : Nat} {v : Value} {l : List UInt8} (h : OwnY w B v l) : ∃ A c, v = .slice A l.length c := by obtain ⟨A, c, h, _⟩ := own_readsN h; exact ⟨A, c, h⟩
theorem ownY_nil (w : World) (B : Nat) : OwnY w B (.slice none 0 0) [] := World.ownsRow_nil _ _ _ _
theorem ownY_reads {w : World} {B : Nat} {v : Value} {l : List UInt8} (h : OwnY w B v l) : ∃ A c, v = .slice A l.length c ∧ Reads w w.heap.size 1 A l.length (Lib.byteCells l) := own_readsN h
theorem ownY_new (w : World) (B : Nat) (c : UInt8) (hB : B ≤ w.heap.size) : OwnY (w.alloc (.cells #[.int .u8 (c.toNat : Int)] 5)) B (.slice (some ⟨w.heap.size, 0, none⟩) 1 1) [c] :=
  ⟨rfl, .inr ⟨w.heap.size, 1, _, rfl, hB, heap_alloc_new w _, by simp, by simp [maxLen], rfl, by simp [Lib.byteCells]⟩⟩
section
variable {P : Program}
/-- A byte more: one that was laid by itself. -/
theorem wpList_byte {ops : Array Oper} {rest : List Oper} {o : Oper} {a : Act} {Q : Exit → Act → World → Prop} (w : World) (hgd : o.guard = none) (s x : Operand) (t e : TypeId) (i : TypeInfo)
    (ho : o.op = .call { callee := .builtin .append, args := #[s, x], argTypes := #[t, t] })
    (B : Nat) (ht : P.underlying t = some (.slice e)) (hi : P.info? e = some i) (hz : i.zero = some (.int .u8 0)) (hsize : i.size = 1) (hby : i.bytes = 1)
    (v : Value) (l : List UInt8) (c : UInt8) {z : Int} (hown : w.ownsRow B e 1 v l.length (Lib.byteCells l)) (hzc : z = (c.toNat : Int)) (hs : a.eval s = v) (hB : B ≤ w.heap.size) (hx : a.eval x = .slice (some ⟨w.heap.size, 0, none⟩) 1 1) (hl : l.length ≤ 140737488355327)
    (h : ∀ v' w' m, m = l ++ [c] → m.length ≤ l.length + 1 → w'.ownsRow B e 1 v' m.length (Lib.byteCells m) → (∃ A k, v' = .slice A m.length k) → Below B w w' ∧ B ≤ w'.heap.size → wpList P ops Q rest (a.put o.dst v') w') :
    wpList P ops Q (o :: rest) a (w.alloc (.cells #[.int .u8 z] e)) := by
  subst hzc
  refine wpList_append_any _ hgd s x t ho B e i (.int .u8 0) 1 1 ht hi hz hsize hby rfl (by decide) v l.length (Lib.byteCells l) hs (World.ownsRow.alloc hown _) _ _ 1 1 [.int .u8 (c.toNat : Int)] hx (Reads.of_block (n := 1) (heap_alloc_new w _) rfl) (by intro u hu; obtain rfl := List.mem_singleton.1 hu; rfl) (by unfold maxLen; omega) (by omega) (by simp; omega) ?_
  intro v' w' h1 h2 _
  have h3 : w'.ownsRow B e 1 v' (l ++ [c]).length (Lib.byteCells (l ++ [c])) := by
    rw [List.length_append, byteCells_app]
    exact h1
  obtain ⟨A', k', e', _⟩ := own_readsN h3
  refine h v' w' _ rfl (by rw [List.length_append]; exact Nat.le_refl _) h3 ⟨A', k', e'⟩ ?_
  · have hb : Below B w w' := ((Below.refl B w).alloc hB _).grown h2 (by simp; omega) (fun j hj => (World.ownsRow.lt hown j hj).1)
    exact ⟨hb, by have := hb.size; omega⟩
end
/-- Below block B all is as it was, and all that holds no bytes. -/
def Ky (B : Nat) (w w' : World) : Prop := Below B w w' ∧ ∀ (k : Nat) (cs : Array Value) (t : TypeId) (fz : Nat × Nat), w.heap[k]? = some (.cells cs t fz) → t ≠ 5 → w'.heap[k]? = w.heap[k]?
section
variable {B : Nat} {w w1 w2 : World}
theorem ky_refl (B : Nat) (w : World) : Ky B w w := ⟨Below.refl _ _, fun _ _ _ _ _ _ => rfl⟩
theorem ky_trans (h : Ky B w w1) (k : Ky B w1 w2) : Ky B w w2 :=
  ⟨h.1.trans k.1, fun i cs t fz hi ht => by
    have e := h.2 i cs t fz hi ht
    exact (k.2 i cs t fz (e.trans hi) ht).trans e⟩
theorem ky_of (h : Below w.heap.size w w1) (hB : B ≤ w.heap.size) : Ky B w w1 :=
  ⟨h.mono hB, fun i cs t fz hi _ => h.block i (by
    rcases Nat.lt_or_ge i w.heap.size with h1 | h1
    · exact h1
    · rw [Array.getElem?_eq_none h1] at hi; cases hi)⟩
theorem ky_size (h : Ky B w w1) : w.heap.size ≤ w1.heap.size := h.1.size
theorem ky_blk {g : Nat} {t : TypeId} {cs : Array Value} (h : Ky B w w1) (hb : Blk w g t cs) (ht : t ≠ 5) : Blk w1 g t cs := (h.2 g cs t (0, 0) hb ht).trans hb
theorem ky_own {base size n : Nat} {e : TypeId} {v : Value} {xs : List Value} (h : Ky B w w1) (ho : w.ownsRow base e size v n xs) (he : e ≠ 5) : w1.ownsRow base e size v n xs := by
  refine ⟨ho.1, ?_⟩
  rcases ho.2 with hn | ⟨g, cap, cur, rfl, hB, hgg, rest⟩
  · exact .inl hn
  · exact .inr ⟨g, cap, cur, rfl, hB, (h.2 g _ _ _ hgg he).trans hgg, rest⟩
theorem ky_grown {v : Value} {l : List UInt8} (ho : OwnY w B v l) (hg : w.grownBy w1 v.ownBlock) (hB : B ≤ w.heap.size) : Ky B w w1 := by
  refine ⟨Below.grown (Below.refl _ _) hg hB (fun j hj => (World.ownsRow.lt ho j hj).1), fun i cs t fz hi ht => ?_⟩
  have hlt : i < w.heap.size := by
    rcases Nat.lt_or_ge i w.heap.size with h1 | h1
    · exact h1
    · rw [Array.getElem?_eq_none h1] at hi; cases hi
  refine hg.block i hlt (fun e => ?_)
  rcases ho.2 with ⟨rfl, _⟩ | ⟨g, cap, cur, rfl, _, hh, _⟩
  · simp [Value.ownBlock] at e
  · have : g = i := by simpa [Value.ownBlock] using e.symm
    subst this
    rw [hi] at hh
    injection hh with hh
    injection hh with _ hh
    exact ht hh
theorem ky_cell {base n c : Nat} {e : TypeId} {ad : Addr} {xs : List Value} (h : Ky B w w1) (ho : w.ownsRow base e 1 (.slice (some ad) n c) n xs) (he : e ≠ 5) (j : Nat) : w1.cell? (ad.add j) = w.cell? (ad.add j) := by
  rcases ho.2 with ⟨h1, _⟩ | ⟨g, cap, cur, h1, _, hgg, _⟩
  · cases h1
  · cases h1
    exact World.cell?_of_block (by rw [block_of_add]; exact h.2 g _ _ _ hgg he)
theorem ownY_alloc {v : Value} {l : List UInt8} (h : OwnY w B v l) (o : Obj) : OwnY (w.alloc o) B v l := World.ownsRow.alloc h o
theorem ownY_below {v : Value} {l : List UInt8} (h : OwnY w B v l) (hb : Below w.heap.size w w1) : OwnY w1 B v l := own_kept h hb
end
/-- Bytes more, of a text. -/
theorem wp_strK {o : Oper} {a : Act} {K : Act → World → Prop} {Q : Exit → Act → World → Prop} (w : World) (sl x : Operand)
    (ho : o.op = .call { callee := .builtin .append, args := #[sl, x], argTypes := #[74, 9] })
    (B : Nat) (v : Value) (l s : List UInt8) (hown : OwnY w B v l) (hs : a.eval sl = v) (hx : a.eval x = .string ⟨s.toArray⟩) (hB : B ≤ w.heap.size) (hl : l.length + s.length ≤ 140737488355327)
    (h : ∀ v' w' m, m = l ++ s → OwnY w' B v' m → (∃ A k, v' = .slice A m.length k) → Ky B w w' → K (a.put o.dst v') w') : o.wp Tryz.prog a w K Q := by
  obtain ⟨i0, hi0, hz0, hz1, hz2⟩ := info_parts infoByteQ
  have hsz : (⟨s.toArray⟩ : ByteArray).size = s.length := by simp [ByteArray.size]
  obtain ⟨v', w', hr, h2, h3, _⟩ := Lib.run_append_own_string (P := Tryz.prog) w B 74 9 o.type 5 i0 Tryz.underlying74 Tryz.underlying9 hi0 hz0 hz1 hz2 v l.length (Lib.byteCells l) hown ⟨s.toArray⟩ (by rw [hsz]; unfold maxLen; omega) (by rw [hsz]; omega) hB
  have h4 : OwnY w' B v' (l ++ s) := by
    unfold OwnY
    rw [List.length_append, byteCells_app, ← hsz]
    exact h2
  unfold Oper.wp execOp
  simp only [ho, resolve, invoke, builtin, Sem.run_bind, Sem.run_pure, Result.andThen_ok, List.map_toArray, List.map_cons, List.map_nil, hs, hx, hr]
  exact h v' w' _ rfl h4 (ownY_form h4) (ky_grown hown h3 hB)
theorem wpList_strK {ops : Array Oper} {rest : List Oper} {o : Oper} {a : Act} {Q : Exit → Act → World → Prop} (w : World) (hgd : o.guard = none) (sl x : Operand)
    (ho : o.op = .call { callee := .builtin .append, args := #[sl, x], argTypes := #[74, 9] })
    (B : Nat) (v : Value) (l s : List UInt8) (hown : OwnY w B v l) (hs : a.eval sl = v) (hx : a.eval x = .string ⟨s.toArray⟩) (hB : B ≤ w.heap.size) (hl : l.length + s.length ≤ 140737488355327)
    (h : ∀ v' w' m, m = l ++ s → OwnY w' B v' m → (∃ A k, v' = .slice A m.length k) → Ky B w w' → wpList Tryz.prog ops Q rest (a.put o.dst v') w') : wpList Tryz.prog ops Q (o :: rest) a w :=
  wpList_plain hgd fun _ hK => wp_strK w sl x ho B v l s hown hs hx hB hl fun v' w' m h1 h2 h3 h4 => hK _ _ (h v' w' m h1 h2 h3 h4)
/-- A byte more: one that was laid by itself. -/
theorem wpList_byteK {ops : Array Oper} {rest : List Oper} {o : Oper} {a : Act} {Q : Exit → Act → World → Prop} (w : World) (hgd : o.guard = none) (s x : Operand)
    (ho : o.op = .call { callee := .builtin .append, args := #[s, x], argTypes := #[74, 74] })
    (B : Nat) (v : Value) (l : List UInt8) (c : UInt8) {z : Int} (hown : OwnY w B v l) (hzc : z = (c.toNat : Int)) (hs : a.eval s = v) (hB : B ≤ w.heap.size) (hx : a.eval x = .slice (some ⟨w.heap.size, 0, none⟩) 1 1) (hl : l.length ≤ 140737488355326)
    (h : ∀ v' w' m, m = l ++ [c] → OwnY w' B v' m → (∃ A k, v' = .slice A m.length k) → Ky B w w' → wpList Tryz.prog ops Q rest (a.put o.dst v') w') :
    wpList Tryz.prog ops Q (o :: rest) a (w.alloc (.cells #[.int .u8 z] 5)) := by
  obtain ⟨i0, hi0, hz0, hz1, hz2⟩ := info_parts infoByteQ
  subst hzc
  refine wpList_append_any _ hgd s x 74 ho B 5 i0 (.int .u8 0) 1 1 Tryz.underlying74 hi0 hz0 hz1 hz2 rfl (by decide) v l.length (Lib.byteCells l) hs (World.ownsRow.alloc hown _) _ _ 1 1 [.int .u8 (c.toNat : Int)] hx (Reads.of_block (n := 1) (heap_alloc_new w _) rfl) (by intro u hu; obtain rfl := List.mem_singleton.1 hu; rfl) (by unfold maxLen; omega) (by omega) (by simp; omega) ?_
  intro v' w' h1 h2 _
  have h3 : OwnY w' B v' (l ++ [c]) := by
    unfold OwnY
    rw [List.length_append, byteCells_app]
    exact h1
  refine h v' w' _ rfl h3 (ownY_form h3) ?_
  exact ky_trans (ky_of ((Below.refl _ _).alloc (Nat.le_refl _) _) hB) (ky_grown (ownY_alloc hown _) h2 (by simp; omega))
end Js
end Go.Proofs.YtlfeddgpfaigkaaGreatDoor
namespace Go.Proofs.YtlfeddgpfaigkaaGreatDoor
open Go.RowKit
namespace Js
theorem dd_more {v : Nat} (h : 10 ≤ v) : Lib.decDigits v = Lib.decDigits (v / 10) ++ [UInt8.ofNat (48 + v % 10)] := by rw [Lib.decDigits, dif_neg (by omega)]
theorem dd_ne (v : Nat) : Lib.decDigits v ≠ [] := by
  by_cases h : v < 10
  · rw [Lib.decDigits_one h]; simp
  · rw [dd_more (by omega)]; simp
/-- What is left of a number, and the digits behind. -/
def DecI (m v : Nat) (t : List UInt8) : Prop := (t = [] ∧ v = m) ∨ (t ≠ [] ∧ (if v = 0 then t else Lib.decDigits v ++ t) = Lib.decDigits m)
theorem DecI.step {m v : Nat} {t : List UInt8} (h : DecI m v t) (hg : 0 < v ∨ t = []) : DecI m (v / 10) (UInt8.ofNat (48 + v % 10) :: t) := by
  refine .inr ⟨by simp, ?_⟩
  have key : (if v / 10 = 0 then UInt8.ofNat (48 + v % 10) :: t else Lib.decDigits (v / 10) ++ UInt8.ofNat (48 + v % 10) :: t) = Lib.decDigits v ++ t := by
    by_cases hv : v < 10
    · rw [if_pos (by omega), Lib.decDigits_one hv, Nat.mod_eq_of_lt hv]; rfl
    · rw [if_neg (by omega), dd_more (v := v) (by omega), List.append_assoc]; rfl
  rw [key]
  rcases h with ⟨rfl, rfl⟩ | ⟨ht, he⟩
  · rw [List.append_nil]
  · rcases hg with h0 | h0
    · rw [if_neg (by omega)] at he; exact he
    · exact absurd h0 ht
theorem DecI.done {m : Nat} {t : List UInt8} (h : DecI m 0 t) (ht : t ≠ []) : t = Lib.decDigits m := by
  rcases h with ⟨h0, _⟩ | ⟨_, he⟩
  · exact absurd h0 ht
  · rw [if_pos rfl] at he; exact he
theorem DecI.len {m v : Nat} {t : List UInt8} (h : DecI m v t) : t.length ≤ (Lib.decDigits m).length := by
  rcases h with ⟨rfl, _⟩ | ⟨_, he⟩
  · simp
  · rw [← he]
    split
    · exact Nat.le_refl _
    · rw [List.length_append]; omega
/-- One for the empty text. -/
def emp : Value → Nat
  | .string b => 1 - b.size
  | _ => 0
set_option maxHeartbeats 1600000 in
set_option maxRecDepth 100000 in
theorem decimalR_any (n : Int) (w : World) (h1 : -9223372036854775808 ≤ n) (h2 : n ≤ 9223372036854775807) :
    Calls Tryz.prog 85 #[.int .i64 n] w fun x w' => x = .returned (.string ⟨(decI n).toArray⟩) ∧ Below w.heap.size w w' := by
  by_cases hn : n < 0
  · obtain ⟨m, rfl⟩ : ∃ m : Nat, n = -(m : Int) := ⟨(-n).toNat, by omega⟩
    have l1 : (-(m : Int) < 0) = True := eq_true hn
    have hm1 : 1 ≤ m := by omega
    have l3 : (0 < (m : Int)) = True := eq_true (by omega)
    have l4 : ((m : Int) ≤ 0) = False := eq_false (by omega)
    have hw1 : IntKind.u64.wrap (-(m : Int)) = 18446744073709551616 - m := by rw [IntKind.wrap_u64]; omega
    have hw2 : IntKind.u64.wrap (-(18446744073709551616 - (m : Int))) = m := by rw [IntKind.wrap_u64]; omega
    have HD : Hid (decI (-(m : Int)) = 45 :: Lib.decDigits m) := Lib.hid (by unfold decI Lib.itoa; rw [if_pos hn]; simp)
    have HL : Hid ((Lib.decDigits m).length ≤ 20) := Lib.hid (by rw [Lib.decDigits_length]; exact Lib.nDigits_le20 m (by omega))
    go_enter Tryz.func85, Tryz.ntmps85
    go_wp2_with fail
    go_loopw [3, 4] (fun u s wr => ∃ (v : Nat) (t : List UInt8), v ≤ m ∧ u = .int .u64 v ∧ s = .string ⟨t.toArray⟩ ∧ Hid (DecI m v t) ∧ Hid (Below w.heap.size w wr)) (fun u s _ => (intOf u).toNat + emp s)
    case atStart => exact ⟨m, [], by omega, rfl, rfl, Lib.hid (.inl ⟨rfl, rfl⟩), Lib.hid (Below.refl _ _)⟩
    case round =>
      obtain ⟨v, t, hv, rfl, rfl, HI, HB⟩ := hrel
      have hlen : t.length ≤ 20 := Nat.le_trans HI.out.len HL.out
      have HCV := Lib.hid (run_convert_reads (P := Tryz.prog) Tryz.underlying74 Tryz.underlying5 Tryz.underlying9 1 (l := [UInt8.ofNat (48 + v % 10)]) (by
        have e : Lib.byteCells [UInt8.ofNat (48 + v % 10)] = [.int .u8 (48 + (v : Int) % 10)] := by simp [Lib.byteCells]; omega
        rw [e]
        exact Reads.of_block (n := 1) (size := 1) (heap_alloc_new wr (.cells #[.int .u8 (48 + (v : Int) % 10)] 5)) rfl))
      have hadd : (⟨#[UInt8.ofNat (48 + v % 10)]⟩ : ByteArray) ++ ⟨t.toArray⟩ = ⟨(UInt8.ofNat (48 + v % 10) :: t).toArray⟩ := by apply ByteArray.ext; simp
      by_cases hv0 : 0 < v
      · have l2 : (0 < (v : Int)) = True := eq_true (by omega)
        have H1 := Lib.hid (HI.out.step (.inl hv0))
        have HB1 := Lib.hid (HB.out.alloc HB.out.size (.cells #[.int .u8 (48 + (v : Int) % 10)] 5))
        have hcv := HCV.out
        generalize UInt8.ofNat (48 + v % 10) = d at hcv hadd H1
        clear HI HCV
        go_wp2_with fail
        go_roundw
        case rel => exact ⟨v / 10, d :: t, by omega, by push_cast; rfl, rfl, H1, HB1⟩
        case measure =>
          show ((v : Int) / 10).toNat + (1 - (⟨(d :: t).toArray⟩ : ByteArray).size) < ((v : Int)).toNat + (1 - (⟨t.toArray⟩ : ByteArray).size)
          simp only [ByteArray.size, List.size_toArray, List.length_cons]
          omega
      · have l2 : (0 < (v : Int)) = False := eq_false (by omega)
        by_cases ht : t = []
        · have c1 : t.isEmpty = true := by rw [ht]; rfl
          have hl0 : t.length = 0 := by rw [ht]; rfl
          have HL0 := Lib.hid hl0
          clear hl0
          have H1 := Lib.hid (HI.out.step (.inr ht))
          have HB1 := Lib.hid (HB.out.alloc HB.out.size (.cells #[.int .u8 (48 + (v : Int) % 10)] 5))
          have hcv := HCV.out
          generalize UInt8.ofNat (48 + v % 10) = d at hcv hadd H1
          clear HI HCV ht
          go_wp2_with fail
          go_roundw
          case rel => exact ⟨v / 10, d :: t, by omega, by push_cast; rfl, rfl, H1, HB1⟩
          case measure =>
            show ((v : Int) / 10).toNat + (1 - (⟨(d :: t).toArray⟩ : ByteArray).size) < ((v : Int)).toNat + (1 - (⟨t.toArray⟩ : ByteArray).size)
            simp only [ByteArray.size, List.size_toArray, List.length_cons]
            have := HL0.out; omega
        · have c1 : t.isEmpty = false := by cases t with
            | nil => exact absurd rfl ht
            | cons _ _ => rfl
          have HT : Hid (t = Lib.decDigits m) := Lib.hid (by
            have h := HI.out
            obtain rfl : v = 0 := by omega
            exact h.done ht)
          clear HI HCV hadd ht
          have hadd2 : (⟨#[45]⟩ : ByteArray) ++ ⟨t.toArray⟩ = ⟨(45 :: t).toArray⟩ := by apply ByteArray.ext; simp
          go_wp2
          go_ret
          exact ⟨by rw [HD.out, ← HT.out]; rfl, HB.out⟩
  · have l1 : (n < 0) = False := eq_false hn
    have hw1 : IntKind.u64.wrap n = n := IntWalk.u64_in _ (by omega)
    obtain ⟨m, rfl⟩ : ∃ m : Nat, n = m := ⟨n.toNat, by omega⟩
    have HD : Hid (decI (m : Int) = Lib.decDigits m) := Lib.hid (by unfold decI Lib.itoa; rw [if_neg hn]; rfl)
    have HL : Hid ((Lib.decDigits m).length ≤ 20) := Lib.hid (by rw [Lib.decDigits_length]; exact Lib.nDigits_le20 m (by omega))
    go_enter Tryz.func85, Tryz.ntmps85
    go_wp2_with fail
    go_loopw [3, 4] (fun u s wr => ∃ (v : Nat) (t : List UInt8), v ≤ m ∧ u = .int .u64 v ∧ s = .string ⟨t.toArray⟩ ∧ Hid (DecI m v t) ∧ Hid (Below w.heap.size w wr)) (fun u s _ => (intOf u).toNat + emp s)
    case atStart => exact ⟨m, [], by omega, rfl, rfl, Lib.hid (.inl ⟨rfl, rfl⟩), Lib.hid (Below.refl _ _)⟩
    case round =>
      obtain ⟨v, t, hv, rfl, rfl, HI, HB⟩ := hrel
      have hlen : t.length ≤ 20 := Nat.le_trans HI.out.len HL.out
      have HCV := Lib.hid (run_convert_reads (P := Tryz.prog) Tryz.underlying74 Tryz.underlying5 Tryz.underlying9 1 (l := [UInt8.ofNat (48 + v % 10)]) (by
        have e : Lib.byteCells [UInt8.ofNat (48 + v % 10)] = [.int .u8 (48 + (v : Int) % 10)] := by simp [Lib.byteCells]; omega
        rw [e]
        exact Reads.of_block (n := 1) (size := 1) (heap_alloc_new wr (.cells #[.int .u8 (48 + (v : Int) % 10)] 5)) rfl))
      have hadd : (⟨#[UInt8.ofNat (48 + v % 10)]⟩ : ByteArray) ++ ⟨t.toArray⟩ = ⟨(UInt8.ofNat (48 + v % 10) :: t).toArray⟩ := by apply ByteArray.ext; simp
      by_cases hv0 : 0 < v
      · have l2 : (0 < (v : Int)) = True := eq_true (by omega)
        have H1 := Lib.hid (HI.out.step (.inl hv0))
        have HB1 := Lib.hid (HB.out.alloc HB.out.size (.cells #[.int .u8 (48 + (v : Int) % 10)] 5))
        have hcv := HCV.out
        generalize UInt8.ofNat (48 + v % 10) = d at hcv hadd H1
        clear HI HCV
        go_wp2_with fail
        go_roundw
        case rel => exact ⟨v / 10, d :: t, by omega, by push_cast; rfl, rfl, H1, HB1⟩
        case measure =>
          show ((v : Int) / 10).toNat + (1 - (⟨(d :: t).toArray⟩ : ByteArray).size) < ((v : Int)).toNat + (1 - (⟨t.toArray⟩ : ByteArray).size)
          simp only [ByteArray.size, List.size_toArray, List.length_cons]
          omega
      · have l2 : (0 < (v : Int)) = False := eq_false (by omega)
        by_cases ht : t = []
        · have c1 : t.isEmpty = true := by rw [ht]; rfl
          have hl0 : t.length = 0 := by rw [ht]; rfl
          have HL0 := Lib.hid hl0
          clear hl0
          have H1 := Lib.hid (HI.out.step (.inr ht))
          have HB1 := Lib.hid (HB.out.alloc HB.out.size (.cells #[.int .u8 (48 + (v : Int) % 10)] 5))
          have hcv := HCV.out
          generalize UInt8.ofNat (48 + v % 10) = d at hcv hadd H1
          clear HI HCV ht
          go_wp2_with fail
          go_roundw
          case rel => exact ⟨v / 10, d :: t, by omega, by push_cast; rfl, rfl, H1, HB1⟩
          case measure =>
            show ((v : Int) / 10).toNat + (1 - (⟨(d :: t).toArray⟩ : ByteArray).size) < ((v : Int)).toNat + (1 - (⟨t.toArray⟩ : ByteArray).size)
            simp only [ByteArray.size, List.size_toArray, List.length_cons]
            have := HL0.out; omega
        · have c1 : t.isEmpty = false := by cases t with
            | nil => exact absurd rfl ht
            | cons _ _ => rfl
          have HT : Hid (t = Lib.decDigits m) := Lib.hid (by
            have h := HI.out
            obtain rfl : v = 0 := by omega
            exact h.done ht)
          clear HI HCV hadd ht
          go_wp2
          go_ret
          exact ⟨by rw [HD.out, ← HT.out]; rfl, HB.out⟩
end Js
end Go.Proofs.YtlfeddgpfaigkaaGreatDoor
