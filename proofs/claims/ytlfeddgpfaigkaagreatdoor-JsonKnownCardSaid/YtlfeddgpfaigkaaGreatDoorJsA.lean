/-
  The walks of package json's reader at this seat's translation: fault, blanks, next.
-/
import Derived.Test.YtlfeddgpfaigkaaGreatDoorJsPl
import Derived.Test.YtlfeddgpfaigkaaGreatDoorJsM
import Derived.Test.YtlfeddgpfaigkaaGreatDoorKit
import Derived.Test.YtlfeddgpfaigkaaGreatDoorLays
import Derived.Shelf.Small.Strs
import Derived.WalkSmall
import Derived.Deep.QuietTactic
import Derived.BigQuiet
import Derived.Deep.LoopGhost
import Derived.Deep.DeepCutAuto
import Derived.IntWalk
import Derived.RegionTactic
namespace Go.Proofs.YtlfeddgpfaigkaaGreatDoor
open Go.RowKit
namespace Js
theorem b8 (c d : UInt8) : ((c.toNat : Int) == (d.toNat : Int)) = decide (c = d) := by
  rw [Bool.eq_iff_iff, beq_iff_eq, decide_eq_true_iff]
  constructor
  · intro h; exact UInt8.toNat_inj.1 (by omega)
  · rintro rfl; rfl
theorem b8t {c d : UInt8} (h : c = d) : ((c.toNat : Int) == (d.toNat : Int)) = true := by rw [b8, decide_eq_true h]
theorem b8f {c d : UInt8} (h : c ≠ d) : ((c.toNat : Int) == (d.toNat : Int)) = false := by rw [b8, decide_eq_false h]
theorem n8t {c d : UInt8} (h : c = d) : ((c.toNat : Int) != (d.toNat : Int)) = false := by rw [bne, b8t h]; rfl
theorem n8f {c d : UInt8} (h : c ≠ d) : ((c.toNat : Int) != (d.toNat : Int)) = true := by rw [bne, b8f h]; rfl
theorem drop_at {s : List UInt8} {i : Nat} (h : i < s.length) : s.drop i = s.getD i 0 :: s.drop (i + 1) := by
  rw [List.drop_eq_getElem_cons h]; simp [List.getD, List.getElem?_eq_getElem h]
theorem run_slice_to_list {P : Program} {t : TypeId} (ht : P.underlying t = some .string) (T : List UInt8) (kh : IntKind) (j : Int) (b : Nat) (hj : j = b) (hb : b ≤ T.length) (w : World) :
    (Instr.slice t (.string ⟨T.toArray⟩) none (some (.int kh j)) none).run P w = .ok (.string ⟨(T.take b).toArray⟩) w := by
  subst hj
  rw [run_slice_string_h _ _ _ ht _ _ (by omega) (by simp only [ByteArray.size, List.size_toArray]; omega)]
  congr 2
  apply ByteArray.ext
  simp [ByteArray.data_extract, List.extract]
theorem run_slice_from_list {P : Program} {t : TypeId} (ht : P.underlying t = some .string) (T : List UInt8) (kh : IntKind) (i : Int) (a : Nat) (hi : i = a) (ha : a ≤ T.length) (w : World) :
    (Instr.slice t (.string ⟨T.toArray⟩) (some (.int kh i)) none none).run P w = .ok (.string ⟨(T.drop a).toArray⟩) w := by
  subst hi
  rw [run_slice_string_l _ _ _ ht _ _ (by omega) (by simp only [ByteArray.size, List.size_toArray]; omega)]
  congr 2
  apply ByteArray.ext
  simp [ByteArray.data_extract, List.extract, ByteArray.size]
  exact List.take_of_length_le (by simp)

/-- A fault's value: its number, its place. -/
def faultV (no at_ : Int) : Value := .iface 98 (.agg #[.int .i64 no, .int .i64 0, .int .i64 at_])
set_option maxHeartbeats 1000000 in
theorem fault_any (no at_ : Int) (w : World) : Calls Tryz.prog 50 #[.int .i64 no, .int .i64 at_] w fun e w' => e = .returned (faultV no at_) ∧ Below w.heap.size w w' := by
  go_enter Tryz.func50, Tryz.ntmps50
  go_wp2
  go_ret
  exact ⟨rfl, Below.refl _ _⟩

/-- The reader: a text, a place in it. -/
def rcells (s : List UInt8) (p : Nat) : Array Value := #[.string ⟨s.toArray⟩, .int .i64 p]
abbrev Rdr (w : World) (rb : Nat) (s : List UInt8) (p : Nat) : Prop := Blk w rb 115 (rcells s p)
section
variable {w : World} {rb p : Nat} {s : List UInt8}
theorem Rdr.c0 (h : Rdr w rb s p) : w.cell? ⟨rb, 0, none⟩ = some (.string ⟨s.toArray⟩) := Blk.cell h 0
theorem Rdr.c1 (h : Rdr w rb s p) : w.cell? ⟨rb, 1, none⟩ = some (.int .i64 p) := Blk.cell h 1
theorem Rdr.go (h : Rdr w rb s p) (q : Nat) : Rdr (w.setCell ⟨rb, 1, none⟩ (.int .i64 q)) rb s q := by
  have := h.set_ 1 (.int .i64 q)
  exact this
theorem Rdr.to (h : Rdr w rb s p) (q : Nat) (z : Int) (hz : z = q) : Rdr (w.setCell ⟨rb, 1, none⟩ (.int .i64 z)) rb s q := by subst hz; exact h.go q
theorem Kp.rdr {w w' : World} {B rb : Nat} (h : Kp B (· = rb) w w') (u : Value) : Kp B (· = rb) w (w'.setCell ⟨rb, 1, none⟩ u) := Kp.setCell (X := (· = rb)) (p := ⟨rb, 1, none⟩) h (.inr rfl) u
end
/-- Where the library finds a byte. -/
theorem index_any (t : List UInt8) (c : UInt8) (w : World) : Calls Tryz.prog 115 #[.string ⟨t.toArray⟩, .int .u8 c.toNat] w fun x w' => x = .returned (.int .i64 (Lib.indexByte t c)) ∧ w = w' := by
  refine (Any.strings_IndexByte lays137 ⟨t.toArray⟩ c.toNat w).mono fun e w' ⟨h, hw⟩ => ⟨?_, hw.symm⟩
  rw [h]
  simp
theorem bl_at {s : List UInt8} {i : Nat} (h : i < s.length) : bl (s.drop i) = if blank (s.getD i 0) then bl (s.drop (i + 1)) else s.drop i := by rw [drop_at h, bl]
/-- What blanks leaves. -/
def BlPost (rb : Nat) (s : List UInt8) (p : Nat) (w : World) (x : Ending) (w' : World) : Prop :=
  ∃ q, x = .returned (.bool (decide (q < s.length))) ∧ p ≤ q ∧ q ≤ s.length ∧ s.drop q = bl (s.drop p) ∧ Rdr w' rb s q ∧ Kp w.heap.size (· = rb) w w'
set_option maxHeartbeats 2000000 in
theorem blanks_any (s : List UInt8) (hs : s.length ≤ 4398046511104) (p rb : Nat) (hp : p ≤ s.length) (w : World) (h : Rdr w rb s p) :
    Calls Tryz.prog 53 #[.pointer (some ⟨rb, 0, none⟩)] w (BlPost rb s p w) := by
  have HR0 := Lib.hid h
  clear h
  go_enter Tryz.func53, Tryz.ntmps53
  go_wp2_with fail
  go_loopg [3] (s.length + 1) (fun gk _ wr => ∃ q : Nat, p ≤ q ∧ q ≤ s.length ∧ s.length - q < gk ∧ Hid (bl (s.drop q) = bl (s.drop p)) ∧ Hid (Rdr wr rb s q) ∧ Hid (Kp w.heap.size (· = rb) w wr))
  case atStart => exact ⟨p, Nat.le_refl _, hp, by omega, Lib.hid rfl, HR0, Lib.hid (Kp.refl _ _ _)⟩
  case round =>
    obtain ⟨q, hpq, hq, hgk, HE, HR, HK⟩ := hrel
    have c0 := HR.out.c0
    have c1 := HR.out.c1
    by_cases hlt : q < s.length
    · have hidx := run_index_list Tryz.underlying9 s q hlt
      have HB := Lib.hid (bl_at hlt)
      generalize s.getD q 0 = c at hidx HB
      have HI : Hid (∀ w, Calls Tryz.prog 115 #[.string ⟨#[32, 9, 10, 13]⟩, .int .u8 c.toNat] w fun x w' => x = .returned (.int .i64 (Lib.indexByte [32, 9, 10, 13] c)) ∧ w = w') := Lib.hid (index_any [32, 9, 10, 13] c)
      have q2 := blank_idx c
      generalize Lib.indexByte [32, 9, 10, 13] c = z at HI q2
      by_cases hb : blank c = true
      · rw [hb] at q2
        have HE1 : Hid (bl (s.drop (q + 1)) = bl (s.drop p)) := Lib.hid (by have := HB.out; rw [if_pos hb] at this; rw [← this]; exact HE.out)
        clear HB hb
        go_wp2_with fail
        go_quiet (exact Calls.quiet_of ((HI.out _).mono (by rintro e w' ⟨rfl, rfl⟩; exact ⟨rfl, 0, rfl⟩)))
        have HR1 : Hid (Rdr (wr.drewN nq) rb s q) := Lib.hid HR.out
        have HK1 := Lib.hid (HK.out.drewN nq)
        clear c0 c1
        generalize wr.drewN nq = w1 at HR1 HK1 ⊢
        have c1 := HR1.out.c1
        have f1 := Blk.frozen HR1.out 1
        go_wp2_with fail
        go_roundg (gk - 1)
        case measure => omega
        case rel => exact ⟨q + 1, by omega, by omega, by omega, HE1, Lib.hid (HR1.out.to (q + 1) _ (by omega)), Lib.hid (HK1.out.rdr _)⟩
      · rw [Bool.not_eq_true] at hb
        rw [hb] at q2
        have HE1 : Hid (s.drop q = bl (s.drop p)) := Lib.hid (by have := HB.out; rw [if_neg (by rw [hb]; decide)] at this; rw [← this]; exact HE.out)
        clear HB hb
        go_wp2_with fail
        go_quiet (exact Calls.quiet_of ((HI.out _).mono (by rintro e w' ⟨rfl, rfl⟩; exact ⟨rfl, 0, rfl⟩)))
        have HR1 : Hid (Rdr (wr.drewN nq) rb s q) := Lib.hid HR.out
        have HK1 := Lib.hid (HK.out.drewN nq)
        clear c0 c1
        generalize wr.drewN nq = w1 at HR1 HK1 ⊢
        have c0 := HR1.out.c0
        have c1 := HR1.out.c1
        go_wp2_with fail
        go_quiet (fail)
        go_wp2
        go_ret
        exact ⟨q, by simp; omega, hpq, hq, HE1.out, HR1.out, HK1.out.drewN _⟩
    · have HE1 : Hid (s.drop q = bl (s.drop p)) := Lib.hid (by rw [← HE.out, List.drop_eq_nil_of_le (by omega)]; rfl)
      go_wp2_with fail
      go_quiet (fail)
      have HR1 : Hid (Rdr (wr.drewN nq) rb s q) := Lib.hid HR.out
      have HK1 := Lib.hid (HK.out.drewN nq)
      clear c0 c1
      generalize wr.drewN nq = w1 at HR1 HK1 ⊢
      have c0 := HR1.out.c0
      have c1 := HR1.out.c1
      go_wp2_with fail
      go_quiet (fail)
      go_wp2
      go_ret
      exact ⟨q, by simp; omega, hpq, hq, HE1.out, HR1.out, HK1.out.drewN _⟩
/-- What next leaves: a byte and no error, or no byte and a fault; the reader's place. -/
def NxPost (rb : Nat) (s : List UInt8) (p : Nat) (c : Int) (ev : Value) (w : World) (x : Ending) (w' : World) : Prop :=
  ∃ q, x = .returned (.tuple #[.int .u8 c, ev]) ∧ p ≤ q ∧ q ≤ s.length ∧ Rdr w' rb s q ∧ Kp w.heap.size (· = rb) w w'
/-- .. the byte that was looked for. -/
def NyPost (rb : Nat) (s : List UInt8) (p : Nat) (c : UInt8) (r : List UInt8) (w : World) (x : Ending) (w' : World) : Prop :=
  ∃ q, x = .returned (.tuple #[.int .u8 c.toNat, .nilIface]) ∧ p < q ∧ q ≤ s.length ∧ s.drop q = r ∧ s.drop (q - 1) = c :: r ∧ Rdr w' rb s q ∧ Kp w.heap.size (· = rb) w w'
theorem drop_nil_len {s : List UInt8} {q : Nat} (hq : q ≤ s.length) (h : s.drop q = []) : q = s.length := by
  have := congrArg List.length h
  rw [List.length_drop] at this
  simp at this; omega
theorem drop_cons_at {s : List UInt8} {q : Nat} {c : UInt8} {r : List UInt8} (h : s.drop q = c :: r) : q < s.length ∧ s.getD q 0 = c ∧ s.drop (q + 1) = r ∧ s.length = q + r.length + 1 := by
  have hl := congrArg List.length h
  rw [List.length_drop, List.length_cons] at hl
  have hq : q < s.length := by omega
  rw [drop_at hq] at h
  injection h with h1 h2
  exact ⟨hq, h1, h2, by omega⟩
-- <
set_option maxHeartbeats 2000000 in
theorem next_short (s : List UInt8) (hs : s.length ≤ 4398046511104) (p rb : Nat) (hp : p ≤ s.length) (L : List UInt8) (hb : bl (s.drop p) = []) (w : World) (h : Rdr w rb s p) :
    Calls Tryz.prog 150 #[.pointer (some ⟨rb, 0, none⟩), .string ⟨L.toArray⟩] w (NxPost rb s p 0 (faultV 2 s.length) w) := by
  have HBL := Lib.hid (blanks_any s hs p rb hp w h)
  have HB := Lib.hid hb
  have HF := Lib.hid (fault_any 2 s.length)
  unfold faultV at HF ⊢
  clear h hb
  go_enter Tryz.func150, Tryz.ntmps150
  go_wp2_with fail
  refine HBL.out.mono ?_
  rintro x w1 ⟨q, rfl, hpq, hq, he, hr, hk⟩
  obtain rfl : q = s.length := drop_nil_len hq (he.trans HB.out)
  have h0 : decide (s.length < s.length) = false := by simp
  rw [h0]
  have HR1 := Lib.hid hr
  have HK1 := Lib.hid hk
  clear hr hk h0 he
  have c1 := HR1.out.c1
  go_wp2_with fail
  refine (HF.out _).mono ?_
  rintro x w2 ⟨rfl, hb2⟩
  have HR2 : Hid (Rdr w2 rb s s.length) := Lib.hid (HR1.out.below hb2 HR1.out.lt)
  have HK2 := Lib.hid (HK1.out.step hb2 HK1.out.size)
  clear hb2 c1
  go_wp2
  go_ret2
  exact ⟨_, rfl, hpq, Nat.le_refl _, HR2.out, HK2.out⟩
theorem next_bad (s : List UInt8) (hs : s.length ≤ 4398046511104) (p rb : Nat) (hp : p ≤ s.length) (L : List UInt8) (c : UInt8) (r : List UInt8) (hb : bl (s.drop p) = c :: r) (hc : Lib.indexByte L c < 0) (a : Nat) (ha : a + r.length + 1 = s.length) (w : World) (h : Rdr w rb s p) :
    Calls Tryz.prog 150 #[.pointer (some ⟨rb, 0, none⟩), .string ⟨L.toArray⟩] w (NxPost rb s p 0 (faultV 4 a) w) := by
  have HBL := Lib.hid (blanks_any s hs p rb hp w h)
  have HB := Lib.hid hb
  have HI := Lib.hid (index_any L c)
  have q2 : decide (Lib.indexByte L c < 0) = true := decide_eq_true hc
  generalize Lib.indexByte L c = z at HI q2
  clear h hb hc
  go_enter Tryz.func150, Tryz.ntmps150
  go_wp2_with fail
  refine HBL.out.mono ?_
  rintro x w1 ⟨q, rfl, hpq, hq, he, hr, hk⟩
  obtain ⟨hlt, hg, _, hlen⟩ := drop_cons_at (he.trans HB.out)
  have hidx := run_index_list Tryz.underlying9 s q hlt
  rw [hg] at hidx
  have h0 : decide (q < s.length) = true := decide_eq_true hlt
  rw [h0]
  obtain rfl : q = a := by omega
  have HF := Lib.hid (fault_any 4 q)
  unfold faultV at HF ⊢
  have HR1 := Lib.hid hr
  have HK1 := Lib.hid hk
  clear hr hk h0 he hg hlen ha
  have c0 := HR1.out.c0
  have c1 := HR1.out.c1
  go_wp2_with fail
  go_quiet (fail)
  have HR2 : Hid (Rdr (w1.drewN nq) rb s q) := Lib.hid HR1.out
  have HK2 := Lib.hid (HK1.out.drewN nq)
  clear c0 c1
  generalize w1.drewN nq = w2 at HR2 HK2 ⊢
  have c1 := HR2.out.c1
  go_wp2_with fail
  refine (HI.out _).mono ?_
  rintro x w3 ⟨rfl, rfl⟩
  go_wp2_with fail
  refine (HF.out _).mono ?_
  rintro x w3 ⟨rfl, hb2⟩
  have HR3 : Hid (Rdr w3 rb s q) := Lib.hid (HR2.out.below hb2 HR2.out.lt)
  have HK3 := Lib.hid (HK2.out.step hb2 HK2.out.size)
  clear hb2 c1
  go_wp2
  go_ret2
  exact ⟨q, rfl, hpq, hq, HR3.out, HK3.out⟩
theorem next_ok (s : List UInt8) (hs : s.length ≤ 4398046511104) (p rb : Nat) (hp : p ≤ s.length) (L : List UInt8) (c : UInt8) (r : List UInt8) (hb : bl (s.drop p) = c :: r) (hc : 0 ≤ Lib.indexByte L c) (w : World) (h : Rdr w rb s p) :
    Calls Tryz.prog 150 #[.pointer (some ⟨rb, 0, none⟩), .string ⟨L.toArray⟩] w (NyPost rb s p c r w) := by
  have HBL := Lib.hid (blanks_any s hs p rb hp w h)
  have HB := Lib.hid hb
  have HI := Lib.hid (index_any L c)
  have q2 : decide (Lib.indexByte L c < 0) = false := decide_eq_false (by omega)
  generalize Lib.indexByte L c = z at HI q2
  clear h hb hc
  go_enter Tryz.func150, Tryz.ntmps150
  go_wp2_with fail
  refine HBL.out.mono ?_
  rintro x w1 ⟨q, rfl, hpq, hq, he, hr, hk⟩
  have he' := he.trans HB.out
  obtain ⟨hlt, hg, hd, _⟩ := drop_cons_at he'
  have hidx := run_index_list Tryz.underlying9 s q hlt
  rw [hg] at hidx
  have h0 : decide (q < s.length) = true := decide_eq_true hlt
  rw [h0]
  have HE : Hid (s.drop (q + 1) = r ∧ s.drop (q + 1 - 1) = c :: r) := Lib.hid ⟨hd, by rw [Nat.add_sub_cancel]; exact he'⟩
  have HR1 := Lib.hid hr
  have HK1 := Lib.hid hk
  clear hr hk h0 he hg hd he'
  have c0 := HR1.out.c0
  have c1 := HR1.out.c1
  go_wp2_with fail
  go_quiet (fail)
  have HR2 : Hid (Rdr (w1.drewN nq) rb s q) := Lib.hid HR1.out
  have HK2 := Lib.hid (HK1.out.drewN nq)
  clear c0 c1
  generalize w1.drewN nq = w2 at HR2 HK2 ⊢
  have c1 := HR2.out.c1
  have f1 := Blk.frozen HR2.out 1
  go_wp2_with fail
  refine (HI.out _).mono ?_
  rintro x w3 ⟨rfl, rfl⟩
  go_wp2
  go_ret2
  exact ⟨q + 1, rfl, by omega, by omega, HE.out.1, HE.out.2, HR2.out.to (q + 1) _ (by omega), HK2.out.rdr _⟩
-- >
end Js
end Go.Proofs.YtlfeddgpfaigkaaGreatDoor
