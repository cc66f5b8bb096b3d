/-
  Parts of the proof: JsAx.
-/
import Derived.Test.YtjohdaobhonioaaGreatDoorPkFo0
import Derived.Test.YtjohdaobhonioaaGreatDoorPkFo2
import Derived.Test.YtjohdaobhonioaaGreatDoorPkFo3
import Derived.Shelf.Small.Strs
import Derived.WalkSmall
import Derived.Deep.QuietTactic
import Derived.BigQuiet
import Derived.Deep.LoopGhost
import Derived.Deep.DeepCutAuto
import Derived.IntWalk
import Derived.RegionTactic
import Derived.Laws.BitsAllLaws
import Derived.Laws.Runes
import Derived.OwnWalk
import Derived.Test.YtjohdaobhonioaaGreatDoorPkFo4
namespace Go.Proofs.YtjohdaobhonioaaGreatDoor
open Go.RowKit
namespace Js
theorem b8 (c d : UInt8) : ((c.toNat : Int) == (d.toNat : Int)) = decide (c = d) := by
 rw [Bool.eq_iff_iff, beq_iff_eq, decide_eq_true_iff]
 constructor
 . intro h; exact UInt8.toNat_inj.1 (by omega)
 . rintro rfl; rfl
theorem b8t {c d : UInt8} (h : c = d) : ((c.toNat : Int) == (d.toNat : Int)) = true := by rw [b8, decide_eq_true h]
theorem b8f {c d : UInt8} (h : c ≠ d) : ((c.toNat : Int) == (d.toNat : Int)) = false := by rw [b8, decide_eq_false h]
theorem n8t {c d : UInt8} (h : c = d) : ((c.toNat : Int) != (d.toNat : Int)) = false := by rw [bne, b8t h]; rfl
theorem n8f {c d : UInt8} (h : c ≠ d) : ((c.toNat : Int) != (d.toNat : Int)) = true := by rw [bne, b8f h]; rfl
theorem drop_at {s : List UInt8} {i : Nat} (h : i < s.length) : s.drop i = s.getD i 0 :: s.drop (i + 1) := by
 rw [List.drop_eq_getElem_cons h]; simp [List.getD, List.getElem?_eq_getElem h]
theorem run_slice_to_list {P : Program} {t : TypeId} (ht : P.underlying t = some .string) (T : List UInt8) (kh : IntKind) (j : Int) (b : Nat) (hj : j = b) (hb : b ≤ T.length) (w : World) :
  (Instr.slice t (.string ⟨T.toArray⟩) none (some (.int kh j)) none).run P w = .ok (.string ⟨(T.take b).toArray⟩) w := by
 subst hj
 rw [run_slice_string_h _ _ _ ht _ _ (by omega) (by simp only [ByteArray.size, List.size_toArray]; omega)]
 congr 2
 apply ByteArray.ext
 simp [ByteArray.data_extract, List.extract]
theorem run_slice_from_list {P : Program} {t : TypeId} (ht : P.underlying t = some .string) (T : List UInt8) (kh : IntKind) (i : Int) (a : Nat) (hi : i = a) (ha : a ≤ T.length) (w : World) :
  (Instr.slice t (.string ⟨T.toArray⟩) (some (.int kh i)) none none).run P w = .ok (.string ⟨(T.drop a).toArray⟩) w := by
 subst hi
 rw [run_slice_string_l _ _ _ ht _ _ (by omega) (by simp only [ByteArray.size, List.size_toArray]; omega)]
 congr 2
 apply ByteArray.ext
 simp [ByteArray.data_extract, List.extract, ByteArray.size]
 exact List.take_of_length_le (by simp)
def faultV (no at_ : Int) : Value := .iface 143 (.agg #[.int .i64 no, .int .i64 0, .int .i64 at_])
set_option maxHeartbeats 1000000 in
theorem fault_any (no at_ : Int) (w : World) : Calls Tryz.prog 53 #[.int .i64 no, .int .i64 at_] w fun e w' => e = .returned (faultV no at_) /\ Below w.heap.size w w' := by
 go_enter Tryz.func53, Tryz.ntmps53
 go_wp2
 go_ret
 exact ⟨rfl, Below.refl _ _⟩
def rcells (s : List UInt8) (p : Nat) : Array Value := #[.string ⟨s.toArray⟩, .int .i64 p]
abbrev Rdr (w : World) (rb : Nat) (s : List UInt8) (p : Nat) : Prop := Blk w rb 127 (rcells s p)
section
variable {w : World} {rb p : Nat} {s : List UInt8}
theorem Rdr.c0 (h : Rdr w rb s p) : w.cell? ⟨rb, 0, none⟩ = some (.string ⟨s.toArray⟩) := Blk.cell h 0
theorem Rdr.c1 (h : Rdr w rb s p) : w.cell? ⟨rb, 1, none⟩ = some (.int .i64 p) := Blk.cell h 1
theorem Rdr.go (h : Rdr w rb s p) (q : Nat) : Rdr (w.setCell ⟨rb, 1, none⟩ (.int .i64 q)) rb s q := by
 have := h.set_ 1 (.int .i64 q)
 exact this
theorem Rdr.to (h : Rdr w rb s p) (q : Nat) (z : Int) (hz : z = q) : Rdr (w.setCell ⟨rb, 1, none⟩ (.int .i64 z)) rb s q := by subst hz; exact h.go q
theorem Kp.rdr {w w' : World} {B rb : Nat} (h : Kp B (· = rb) w w') (u : Value) : Kp B (· = rb) w (w'.setCell ⟨rb, 1, none⟩ u) := Kp.setCell (X := (· = rb)) (p := ⟨rb, 1, none⟩) h (.inr rfl) u
end
theorem index_any (t : List UInt8) (c : UInt8) (w : World) : Calls Tryz.prog 151 #[.string ⟨t.toArray⟩, .int .u8 c.toNat] w fun x w' => x = .returned (.int .i64 (Lib.indexByte t c)) /\ w = w' := by
 refine (Any.strings_IndexByte lays137 ⟨t.toArray⟩ c.toNat w).mono fun e w' ⟨h, hw⟩ => ⟨?_, hw.symm⟩
 rw [h]
 simp
theorem bl_at {s : List UInt8} {i : Nat} (h : i < s.length) : bl (s.drop i) = if blank (s.getD i 0) then bl (s.drop (i + 1)) else s.drop i := by rw [drop_at h, bl]
def BlPost (rb : Nat) (s : List UInt8) (p : Nat) (w : World) (x : Ending) (w' : World) : Prop :=
 ∃ q, x = .returned (.bool (decide (q < s.length))) /\ p ≤ q /\ q ≤ s.length /\ s.drop q = bl (s.drop p) /\ Rdr w' rb s q /\ Kp w.heap.size (· = rb) w w'
set_option maxHeartbeats 2000000 in
theorem blanks_any (s : List UInt8) (hs : s.length ≤ 4398046511104) (p rb : Nat) (hp : p ≤ s.length) (w : World) (h : Rdr w rb s p) :
  Calls Tryz.prog 56 #[.pointer (some ⟨rb, 0, none⟩)] w (BlPost rb s p w) := by
 have HR0 := Lib.hid h
 clear h
 go_enter Tryz.func56, Tryz.ntmps56
 go_wp2_with fail
 go_loopg [3] (s.length + 1) (fun gk _ wr => ∃ q : Nat, p ≤ q /\ q ≤ s.length /\ s.length - q < gk /\ Hid (bl (s.drop q) = bl (s.drop p)) /\ Hid (Rdr wr rb s q) /\ Hid (Kp w.heap.size (· = rb) w wr))
 case atStart => exact ⟨p, Nat.le_refl _, hp, by omega, Lib.hid rfl, HR0, Lib.hid (Kp.refl _ _ _)⟩
 case round =>
  obtain ⟨q, hpq, hq, hgk, HE, HR, HK⟩ := hrel
  have c0 := HR.out.c0
  have c1 := HR.out.c1
  by_cases hlt : q < s.length
  . have hidx := run_index_list Tryz.underlying9 s q hlt
    have HB := Lib.hid (bl_at hlt)
    generalize s.getD q 0 = c at hidx HB
    have HI : Hid (∀ w, Calls Tryz.prog 151 #[.string ⟨#[32, 9, 10, 13]⟩, .int .u8 c.toNat] w fun x w' => x = .returned (.int .i64 (Lib.indexByte [32, 9, 10, 13] c)) /\ w = w') := Lib.hid (index_any [32, 9, 10, 13] c)
    have q2 := blank_idx c
    generalize Lib.indexByte [32, 9, 10, 13] c = z at HI q2
    by_cases hb : blank c = true
    . rw [hb] at q2
      have HE1 : Hid (bl (s.drop (q + 1)) = bl (s.drop p)) := Lib.hid (by have := HB.out; rw [if_pos hb] at this; rw [<- this]; exact HE.out)
      clear HB hb
      go_wp2_with fail
      go_quiet (exact Calls.quiet_of ((HI.out _).mono (by rintro e w' ⟨rfl, rfl⟩; exact ⟨rfl, 0, rfl⟩)))
      have HR1 : Hid (Rdr (wr.drewN nq) rb s q) := Lib.hid HR.out
      have HK1 := Lib.hid (HK.out.drewN nq)
      clear c0 c1
      generalize wr.drewN nq = w1 at HR1 HK1 ⊢
      have c1 := HR1.out.c1
      have f1 := Blk.frozen HR1.out 1
      go_wp2_with fail
      go_roundg (gk - 1)
      case measure => omega
      case rel => exact ⟨q + 1, by omega, by omega, by omega, HE1, Lib.hid (HR1.out.to (q + 1) _ (by omega)), Lib.hid (HK1.out.rdr _)⟩
    . rw [Bool.not_eq_true] at hb
      rw [hb] at q2
      have HE1 : Hid (s.drop q = bl (s.drop p)) := Lib.hid (by have := HB.out; rw [if_neg (by rw [hb]; decide)] at this; rw [<- this]; exact HE.out)
      clear HB hb
      go_wp2_with fail
      go_quiet (exact Calls.quiet_of ((HI.out _).mono (by rintro e w' ⟨rfl, rfl⟩; exact ⟨rfl, 0, rfl⟩)))
      have HR1 : Hid (Rdr (wr.drewN nq) rb s q) := Lib.hid HR.out
      have HK1 := Lib.hid (HK.out.drewN nq)
      clear c0 c1
      generalize wr.drewN nq = w1 at HR1 HK1 ⊢
      have c0 := HR1.out.c0
      have c1 := HR1.out.c1
      go_wp2_with fail
      go_quiet (fail)
      go_wp2
      go_ret
      exact ⟨q, by simp; omega, hpq, hq, HE1.out, HR1.out, HK1.out.drewN _⟩
  . have HE1 : Hid (s.drop q = bl (s.drop p)) := Lib.hid (by rw [<- HE.out, List.drop_eq_nil_of_le (by omega)]; rfl)
    go_wp2_with fail
    go_quiet (fail)
    have HR1 : Hid (Rdr (wr.drewN nq) rb s q) := Lib.hid HR.out
    have HK1 := Lib.hid (HK.out.drewN nq)
    clear c0 c1
    generalize wr.drewN nq = w1 at HR1 HK1 ⊢
    have c0 := HR1.out.c0
    have c1 := HR1.out.c1
    go_wp2_with fail
    go_quiet (fail)
    go_wp2
    go_ret
    exact ⟨q, by simp; omega, hpq, hq, HE1.out, HR1.out, HK1.out.drewN _⟩
def NxPost (rb : Nat) (s : List UInt8) (p : Nat) (c : Int) (ev : Value) (w : World) (x : Ending) (w' : World) : Prop :=
 ∃ q, x = .returned (.tuple #[.int .u8 c, ev]) /\ p ≤ q /\ q ≤ s.length /\ Rdr w' rb s q /\ Kp w.heap.size (· = rb) w w'
def NyPost (rb : Nat) (s : List UInt8) (p : Nat) (c : UInt8) (r : List UInt8) (w : World) (x : Ending) (w' : World) : Prop :=
 ∃ q, x = .returned (.tuple #[.int .u8 c.toNat, .nilIface]) /\ p < q /\ q ≤ s.length /\ s.drop q = r /\ s.drop (q - 1) = c :: r /\ Rdr w' rb s q /\ Kp w.heap.size (· = rb) w w'
theorem drop_nil_len {s : List UInt8} {q : Nat} (hq : q ≤ s.length) (h : s.drop q = []) : q = s.length := by
 have := congrArg List.length h
 rw [List.length_drop] at this
 simp at this; omega
theorem drop_cons_at {s : List UInt8} {q : Nat} {c : UInt8} {r : List UInt8} (h : s.drop q = c :: r) : q < s.length /\ s.getD q 0 = c /\ s.drop (q + 1) = r /\ s.length = q + r.length + 1 := by
 have hl := congrArg List.length h
 rw [List.length_drop, List.length_cons] at hl
 have hq : q < s.length := by omega
 rw [drop_at hq] at h
 injection h with h1 h2
 exact ⟨hq, h1, h2, by omega⟩
set_option maxHeartbeats 2000000 in
theorem next_short (s : List UInt8) (hs : s.length ≤ 4398046511104) (p rb : Nat) (hp : p ≤ s.length) (L : List UInt8) (hb : bl (s.drop p) = []) (w : World) (h : Rdr w rb s p) :
  Calls Tryz.prog 217 #[.pointer (some ⟨rb, 0, none⟩), .string ⟨L.toArray⟩] w (NxPost rb s p 0 (faultV 2 s.length) w) := by
 have HBL := Lib.hid (blanks_any s hs p rb hp w h)
 have HB := Lib.hid hb
 have HF := Lib.hid (fault_any 2 s.length)
 unfold faultV at HF ⊢
 clear h hb
 go_enter Tryz.func217, Tryz.ntmps217
 go_wp2_with fail
 refine HBL.out.mono ?_
 rintro x w1 ⟨q, rfl, hpq, hq, he, hr, hk⟩
 obtain rfl : q = s.length := drop_nil_len hq (he.trans HB.out)
 have h0 : decide (s.length < s.length) = false := by simp
 rw [h0]
 have HR1 := Lib.hid hr
 have HK1 := Lib.hid hk
 clear hr hk h0 he
 have c1 := HR1.out.c1
 go_wp2_with fail
 refine (HF.out _).mono ?_
 rintro x w2 ⟨rfl, hb2⟩
 have HR2 : Hid (Rdr w2 rb s s.length) := Lib.hid (HR1.out.below hb2 HR1.out.lt)
 have HK2 := Lib.hid (HK1.out.step hb2 HK1.out.size)
 clear hb2 c1
 go_wp2
 go_ret2
 exact ⟨_, rfl, hpq, Nat.le_refl _, HR2.out, HK2.out⟩
theorem next_bad (s : List UInt8) (hs : s.length ≤ 4398046511104) (p rb : Nat) (hp : p ≤ s.length) (L : List UInt8) (c : UInt8) (r : List UInt8) (hb : bl (s.drop p) = c :: r) (hc : Lib.indexByte L c < 0) (a : Nat) (ha : a + r.length + 1 = s.length) (w : World) (h : Rdr w rb s p) :
  Calls Tryz.prog 217 #[.pointer (some ⟨rb, 0, none⟩), .string ⟨L.toArray⟩] w (NxPost rb s p 0 (faultV 4 a) w) := by
 have HBL := Lib.hid (blanks_any s hs p rb hp w h)
 have HB := Lib.hid hb
 have HI := Lib.hid (index_any L c)
 have q2 : decide (Lib.indexByte L c < 0) = true := decide_eq_true hc
 generalize Lib.indexByte L c = z at HI q2
 clear h hb hc
 go_enter Tryz.func217, Tryz.ntmps217
 go_wp2_with fail
 refine HBL.out.mono ?_
 rintro x w1 ⟨q, rfl, hpq, hq, he, hr, hk⟩
 obtain ⟨hlt, hg, _, hlen⟩ := drop_cons_at (he.trans HB.out)
 have hidx := run_index_list Tryz.underlying9 s q hlt
 rw [hg] at hidx
 have h0 : decide (q < s.length) = true := decide_eq_true hlt
 rw [h0]
 obtain rfl : q = a := by omega
 have HF := Lib.hid (fault_any 4 q)
 unfold faultV at HF ⊢
 have HR1 := Lib.hid hr
 have HK1 := Lib.hid hk
 clear hr hk h0 he hg hlen ha
 have c0 := HR1.out.c0
 have c1 := HR1.out.c1
 go_wp2_with fail
 go_quiet (fail)
 have HR2 : Hid (Rdr (w1.drewN nq) rb s q) := Lib.hid HR1.out
 have HK2 := Lib.hid (HK1.out.drewN nq)
 clear c0 c1
 generalize w1.drewN nq = w2 at HR2 HK2 ⊢
 have c1 := HR2.out.c1
 go_wp2_with fail
 refine (HI.out _).mono ?_
 rintro x w3 ⟨rfl, rfl⟩
 go_wp2_with fail
 refine (HF.out _).mono ?_
 rintro x w3 ⟨rfl, hb2⟩
 have HR3 : Hid (Rdr w3 rb s q) := Lib.hid (HR2.out.below hb2 HR2.out.lt)
 have HK3 := Lib.hid (HK2.out.step hb2 HK2.out.size)
 clear hb2 c1
 go_wp2
 go_ret2
 exact ⟨q, rfl, hpq, hq, HR3.out, HK3.out⟩
theorem next_ok (s : List UInt8) (hs : s.length ≤ 4398046511104) (p rb : Nat) (hp : p ≤ s.length) (L : List UInt8) (c : UInt8) (r : List UInt8) (hb : bl (s.drop p) = c :: r) (hc : 0 ≤ Lib.indexByte L c) (w : World) (h : Rdr w rb s p) :
  Calls Tryz.prog 217 #[.pointer (some ⟨rb, 0, none⟩), .string ⟨L.toArray⟩] w (NyPost rb s p c r w) := by
 have HBL := Lib.hid (blanks_any s hs p rb hp w h)
 have HB := Lib.hid hb
 have HI := Lib.hid (index_any L c)
 have q2 : decide (Lib.indexByte L c < 0) = false := decide_eq_false (by omega)
 generalize Lib.indexByte L c = z at HI q2
 clear h hb hc
 go_enter Tryz.func217, Tryz.ntmps217
 go_wp2_with fail
 refine HBL.out.mono ?_
 rintro x w1 ⟨q, rfl, hpq, hq, he, hr, hk⟩
 have he' := he.trans HB.out
 obtain ⟨hlt, hg, hd, _⟩ := drop_cons_at he'
 have hidx := run_index_list Tryz.underlying9 s q hlt
 rw [hg] at hidx
 have h0 : decide (q < s.length) = true := decide_eq_true hlt
 rw [h0]
 have HE : Hid (s.drop (q + 1) = r /\ s.drop (q + 1 - 1) = c :: r) := Lib.hid ⟨hd, by rw [Nat.add_sub_cancel]; exact he'⟩
 have HR1 := Lib.hid hr
 have HK1 := Lib.hid hk
 clear hr hk h0 he hg hd he'
 have c0 := HR1.out.c0
 have c1 := HR1.out.c1
 go_wp2_with fail
 go_quiet (fail)
 have HR2 : Hid (Rdr (w1.drewN nq) rb s q) := Lib.hid HR1.out
 have HK2 := Lib.hid (HK1.out.drewN nq)
 clear c0 c1
 generalize w1.drewN nq = w2 at HR2 HK2 ⊢
 have c1 := HR2.out.c1
 have f1 := Blk.frozen HR2.out 1
 go_wp2_with fail
 refine (HI.out _).mono ?_
 rintro x w3 ⟨rfl, rfl⟩
 go_wp2
 go_ret2
 exact ⟨q + 1, rfl, by omega, by omega, HE.out.1, HE.out.2, HR2.out.to (q + 1) _ (by omega), HK2.out.rdr _⟩
end Js
end Go.Proofs.YtjohdaobhonioaaGreatDoor
namespace Go.Proofs.YtjohdaobhonioaaGreatDoor
open Go.RowKit
namespace Js
def unitR (k v : Nat) (t : List UInt8) : U := if k = 0 then unit t else if k = 1 then (match t with
 | [] => .short
 | d :: t => if d = 117 then unitD 4 0 t else .bad) else unitD (6 - k) v t
theorem unitR0 (v : Nat) (c : UInt8) (r : List UInt8) : unitR 0 v (c :: r) = if c = 92 then unitR 1 0 r else .bad := by
 unfold unitR unit
 rfl
theorem unitR1 (v : Nat) (c : UInt8) (r : List UInt8) : unitR 1 v (c :: r) = if c = 117 then unitR 2 0 r else .bad := rfl
theorem unitR2 {k : Nat} (h2 : 2 ≤ k) (h6 : k < 6) (v : Nat) (c : UInt8) (r : List UInt8) : unitR k v (c :: r) = match hexd c with
  | none => .bad
  | some d => unitR (k + 1) (16 * v + d) r := by
 unfold unitR
 rw [if_neg (by omega), if_neg (by omega), show 6 - k = (5 - k) + 1 by omega]
 simp only [unitD]
 cases hexd c with
 | none => rfl
 | some d => simp only; rw [if_neg (by omega), if_neg (by omega), show 6 - (k + 1) = 5 - k by omega]
theorem unitRn {k : Nat} (h6 : k < 6) (v : Nat) : unitR k v [] = .short := by
 unfold unitR
 split
 . rfl
 . split
   . rfl
   . rw [show 6 - k = (5 - k) + 1 by omega]; rfl
theorem unitR6 (v : Nat) (t : List UInt8) : unitR 6 v t = .val v := rfl
theorem wrap_i32 {n : Int} (h0 : 0 ≤ n) (h1 : n < 2147483648) : IntKind.i32.wrap n = n := by
 have hm : n % 4294967296 = n := by omega
 unfold IntKind.wrap
 simp [IntKind.bits, IntKind.signed, hm]
 omega
theorem ofInt_i32 (a : Nat) (ha : a < 4294967296) : (BitVec.ofInt 32 (a : Int)).toNat = a := by
 rw [BitVec.ofInt_natCast, BitVec.toNat_ofNat]; exact Nat.mod_eq_of_lt (by omega)
theorem i32_or_nat (a b : Nat) (ha : a < 2147483648) (hb : b < 2147483648) : bits .or .i32 (a : Int) (b : Int) = ((a ||| b : Nat) : Int) := by
 have hx : a ||| b < 2 ^ 31 := Nat.or_lt_two_pow (by omega) (by omega)
 show IntKind.i32.wrap ((BitVec.ofInt 32 (a : Int) ||| BitVec.ofInt 32 (b : Int)).toNat : Int) = _
 rw [BitVec.toNat_or, ofInt_i32 a (by omega), ofInt_i32 b (by omega), wrap_i32 (by omega) (by omega)]
theorem or_add (a d : Nat) (hd : d < 16) : (16 * a) ||| d = 16 * a + d := by
 have := Nat.two_pow_add_eq_or_of_lt (i := 4) (b := d) (by omega) a
 exact this.symm
def UnPost (u : U) (w : World) (x : Ending) (w' : World) : Prop :=
 match u with
 | .val v => x = .returned (.tuple #[.int .i32 v, .int .i64 6, .bool true]) /\ w = w'
 | .short => ∃ v n : Nat, n < 6 /\ x = .returned (.tuple #[.int .i32 v, .int .i64 n, .bool true]) /\ w = w'
 | .bad => ∃ n : Nat, x = .returned (.tuple #[.int .i32 0, .int .i64 n, .bool false]) /\ w = w'
theorem or32 (c : UInt8) : bits .or .u8 (c.toNat : Int) 32 = ((c ||| 32).toNat : Int) := by
 have h := u8_or_nat c.toNat 32 c.toNat_lt (by omega)
 have e : ((32 : Nat) : Int) = 32 := rfl
 rw [e] at h
 rw [h, UInt8.toNat_or]
 rfl
set_option maxHeartbeats 4000000 in
set_option maxRecDepth 100000 in
theorem unit_any (s : List UInt8) (hs : s.length ≤ 4398046511104) (w : World) :
  Calls Tryz.prog 252 #[.string ⟨s.toArray⟩] w (UnPost (unit s) w) := by
 go_enter Tryz.func252, Tryz.ntmps252
 go_wp2_with fail
 go_loop [5, 8] (fun v k => ∃ a i : Nat, i ≤ 6 /\ k = .int .i64 i /\ v = .int .i32 a /\ Hid (unit s = unitR i a (s.drop i)) /\ Hid ((i ≤ 2 -> a = 0) /\ (i = 3 -> a < 16) /\ (i = 4 -> a < 256) /\ (i = 5 -> a < 4096) /\ a < 65536)) (fun _ k => 6 - (intOf k).toNat)
 case atStart => exact ⟨0, 0, by omega, rfl, rfl, Lib.hid rfl, Lib.hid ⟨fun _ => rfl, by omega, by omega, by omega, by omega⟩⟩
 case round =>
  obtain ⟨a, i, hi, rfl, rfl, HU, HA⟩ := hrel
  by_cases h6 : i = 6
  . subst h6
    have HP : Hid (UnPost (unit s) w (.returned (.tuple #[.int .i32 a, .int .i64 6, .bool true])) w) := Lib.hid (by rw [HU.out, unitR6]; exact ⟨rfl, rfl⟩)
    go_wp2
    go_ret3
    exact HP.out
  . have hi6 : (i : Int) < 6 := by omega
    by_cases hlt : i < s.length
    . have hidx := run_index_list Tryz.underlying9 s i hlt
      have HD := Lib.hid (drop_at hlt)
      generalize s.getD i 0 = c at hidx HD
      have ho := or32 c
      have HI := Lib.hid (index_any hexL (c ||| 32))
      unfold hexL at HI
      rw [show Lib.indexByte [48, 49, 50, 51, 52, 53, 54, 55, 56, 57, 97, 98, 99, 100, 101, 102] (c ||| 32) = hexI c from rfl] at HI
      have HX := Lib.hid (hex_idx c)
      obtain ⟨o, ho2⟩ : ∃ o, (c ||| 32) = o := ⟨_, rfl⟩
      rw [ho2] at ho HI
      clear ho2
      by_cases hi0 : i = 0
      . subst hi0
        have hne : ¬ s = [] := by rintro rfl; simp at hlt
        have hidx : ∀ w, (Instr.index 9 (.string ⟨s.toArray⟩) (.int .i64 0)).run Tryz.prog w = .ok (.int .u8 c.toNat) w := hidx
        by_cases hc : c = 92
        . have q1 : ((c.toNat : Int) != 92) = false := n8t hc
          have q2 : ((c.toNat : Int) == 92) = true := b8t hc
          have HU1 : Hid (unit s = unitR (0 + 1) a (s.drop (0 + 1))) := Lib.hid (by
            have h := HU.out
            rw [HD.out, unitR0, if_pos hc] at h
            rw [h, (HA.out).1 (by omega)])
          have HA1 : Hid ((0 + 1 ≤ 2 -> a = 0) /\ (0 + 1 = 3 -> a < 16) /\ (0 + 1 = 4 -> a < 256) /\ (0 + 1 = 5 -> a < 4096) /\ a < 65536) := Lib.hid (by have := HA.out; omega)
          clear HU HA HD hc HX
          go_wp2_with fail
          refine (HI.out _).mono ?_
          rintro x w1 ⟨rfl, rfl⟩
          go_wp2
          go_round
          case rel => exact ⟨a, 0 + 1, by omega, rfl, rfl, HU1, HA1⟩
          case measure => simp [intOf]
        . have q1 : ((c.toNat : Int) != 92) = true := n8f hc
          have q2 : ((c.toNat : Int) == 92) = false := b8f hc
          have HP : Hid (UnPost (unit s) w (.returned (.tuple #[.int .i32 0, .int .i64 0, .bool false])) w) := Lib.hid (by
            rw [HU.out, HD.out, unitR0, if_neg hc]; exact ⟨0, rfl, rfl⟩)
          clear HU HA HD hc HX
          go_wp2_with fail
          refine (HI.out _).mono ?_
          rintro x w1 ⟨rfl, rfl⟩
          go_wp2
          go_ret3
          exact HP.out
      . by_cases hi1 : i = 1
        . subst hi1
          have hidx : ∀ w, (Instr.index 9 (.string ⟨s.toArray⟩) (.int .i64 1)).run Tryz.prog w = .ok (.int .u8 c.toNat) w := hidx
          by_cases hc : c = 117
          . have q1 : ((c.toNat : Int) != 117) = false := n8t hc
            have q2 : ((c.toNat : Int) == 117) = true := b8t hc
            have HU1 : Hid (unit s = unitR (1 + 1) a (s.drop (1 + 1))) := Lib.hid (by
              have h := HU.out
              rw [HD.out, unitR1, if_pos hc] at h
              rw [h, (HA.out).1 (by omega)])
            have HA1 : Hid ((1 + 1 ≤ 2 -> a = 0) /\ (1 + 1 = 3 -> a < 16) /\ (1 + 1 = 4 -> a < 256) /\ (1 + 1 = 5 -> a < 4096) /\ a < 65536) := Lib.hid (by have := HA.out; omega)
            clear HU HA HD hc HX
            go_wp2_with fail
            refine (HI.out _).mono ?_
            rintro x w1 ⟨rfl, rfl⟩
            go_wp2
            go_round
            case rel => exact ⟨a, 1 + 1, by omega, rfl, rfl, HU1, HA1⟩
            case measure => simp [intOf]
          . have q1 : ((c.toNat : Int) != 117) = true := n8f hc
            have q2 : ((c.toNat : Int) == 117) = false := b8f hc
            have HP : Hid (UnPost (unit s) w (.returned (.tuple #[.int .i32 0, .int .i64 1, .bool false])) w) := Lib.hid (by
              rw [HU.out, HD.out, unitR1, if_neg hc]; exact ⟨1, rfl, rfl⟩)
            clear HU HA HD hc HX
            go_wp2_with fail
            refine (HI.out _).mono ?_
            rintro x w1 ⟨rfl, rfl⟩
            go_wp2
            go_ret3
            exact HP.out
        . have p0 : ((i : Int) == 0) = false := by rw [beq_eq_false_iff_ne]; omega
          have p1 : ((i : Int) == 1) = false := by rw [beq_eq_false_iff_ne]; omega
          have p2 : (1 : Int) < i := by omega
          cases hx : hexd c with
          | none =>
            have HP : Hid (UnPost (unit s) w (.returned (.tuple #[.int .i32 0, .int .i64 i, .bool false])) w) := Lib.hid (by
              rw [HU.out, HD.out, unitR2 (by omega) (by omega), hx]; exact ⟨i, rfl, rfl⟩)
            have hb := HX.out.1.1 hx
            generalize hexI c = z at HI hb
            clear HU HA HD HX hx
            by_cases hz : z < 0
            . clear hb
              go_wp2_with fail
              refine (HI.out _).mono ?_
              rintro x w1 ⟨rfl, rfl⟩
              go_wp2
              go_ret3
              exact HP.out
            . have h48 : (c.toNat : Int) < 48 := by omega
              clear hb
              go_wp2_with fail
              refine (HI.out _).mono ?_
              rintro x w1 ⟨rfl, rfl⟩
              go_wp2
              go_ret3
              exact HP.out
          | some d =>
            have hd := hexd_lt hx
            have hz := HX.out.2 d hx
            have h48 : ¬ (c.toNat : Int) < 48 := by
              have : ¬ (hexI c < 0 ∨ c.toNat < 48) := fun h => by have := HX.out.1.2 h; rw [hx] at this; cases this
              omega
            rw [hz] at HI
            have hz0 : ¬ (d : Int) < 0 := by omega
            have HU1 : Hid (unit s = unitR (i + 1) (16 * a + d) (s.drop (i + 1))) := Lib.hid (by
              have h := HU.out
              rw [HD.out, unitR2 (by omega) (by omega), hx] at h
              exact h)
            have hb := HA.out
            have HA1 : Hid ((i + 1 ≤ 2 -> 16 * a + d = 0) /\ (i + 1 = 3 -> 16 * a + d < 16) /\ (i + 1 = 4 -> 16 * a + d < 256) /\ (i + 1 = 5 -> 16 * a + d < 4096) /\ 16 * a + d < 65536) := Lib.hid (by omega)
            have e1 : IntKind.i32.wrap ((a : Int) * 16) = ((16 * a : Nat) : Int) := by rw [wrap_i32 (by omega) (by omega)]; omega
            have e2 : bits .or .i32 ((16 * a : Nat) : Int) (d : Int) = ((16 * a + d : Nat) : Int) := by rw [i32_or_nat _ _ (by omega) (by omega), or_add _ _ hd]
            have e3 : IntKind.i32.wrap (d : Int) = d := wrap_i32 (by omega) (by omega)
            obtain ⟨a1, ha1⟩ : ∃ a1, 16 * a + d = a1 := ⟨_, rfl⟩
            obtain ⟨a2, ha2⟩ : ∃ a2, 16 * a = a2 := ⟨_, rfl⟩
            rw [ha1] at e2 HU1 HA1
            rw [ha2] at e1 e2
            clear HU HA HD HX hx hb hz ha1 ha2
            go_wp2_with fail
            refine (HI.out _).mono ?_
            rintro x w1 ⟨rfl, rfl⟩
            go_wp2
            go_round
            case rel => exact ⟨a1, i + 1, by omega, by go_num, rfl, HU1, HA1⟩
            case measure => simp [intOf]; omega
    . have HP : Hid (UnPost (unit s) w (.returned (.tuple #[.int .i32 a, .int .i64 i, .bool true])) w) := Lib.hid (by
        rw [HU.out, List.drop_eq_nil_of_le (by omega), unitRn (by omega)]; exact ⟨a, i, by omega, rfl, rfl⟩)
      go_wp2
      go_ret3
      exact HP.out
def EscPost (t : List UInt8) (w : World) (x : Ending) (w' : World) : Prop :=
 match esc t with
 | .emit b r => ∃ n k : Nat, x = .returned (.tuple #[.int .i64 n, .string ⟨b.toArray⟩, .int .i64 0]) /\ r = t.drop n /\ 2 ≤ n /\ n ≤ t.length /\ w' = w.drewN k
 | .err no _ => ∃ k : Nat, x = .returned (.tuple #[.int .i64 0, .string ⟨#[]⟩, .int .i64 no]) /\ w' = w.drewN k
 | .fin _ => False
set_option maxHeartbeats 4000000 in
set_option maxRecDepth 100000 in
theorem escape_any (t : List UInt8) (hs : t.length ≤ 4398046511104) (w : World) :
   Calls Tryz.prog 216 #[.string ⟨t.toArray⟩] w (EscPost t w) := by
 by_cases h2 : t.length < 2
 . have HP : Hid (EscPost t w (.returned (.tuple #[.int .i64 0, .string ⟨#[]⟩, .int .i64 2])) w) := Lib.hid (by
    unfold EscPost
    rw [show esc t = .err 2 [] by match t, h2 with | [], _ => rfl | [c], _ => rfl]
    exact ⟨0, rfl, rfl⟩)
   have h2' : (t.length : Int) < 2 := by omega
   clear h2
   go_enter Tryz.func216, Tryz.ntmps216
   go_wp2
   go_ret3
   exact HP.out
 . have h2' : ¬ (t.length : Int) < 2 := by omega
   have hidx : ∀ w, (Instr.index 9 (.string ⟨t.toArray⟩) (.int .i64 1)).run Tryz.prog w = .ok (.int .u8 (t.getD 1 0).toNat) w := run_index_list Tryz.underlying9 t 1 (by omega)
   obtain ⟨a, c, r, ht⟩ : ∃ a c r, t = a :: c :: r := by
    match t, h2 with
    | a :: c :: r, _ => exact ⟨a, c, r, rfl⟩
    | [], h => simp at h
    | [_], h => simp at h
   have hg : t.getD 1 0 = c := by rw [ht]; rfl
   rw [hg] at hidx
   have HI := Lib.hid (index_any escF c)
   unfold escF at HI
   rw [show Lib.indexByte [34, 92, 47, 98, 102, 110, 114, 116] c = Lib.indexByte escF c from rfl] at HI
   have he := esc_idx c
   cases hsm : simple c with
   | some b =>
    obtain ⟨i, hi, hi8, hsl⟩ := he.2 b hsm
    rw [hi] at HI
    have hsc := fun wx => run_slice_list Tryz.underlying9 escT .i64 .i64 (i : Int) ((i : Int) + 1) i (i + 1) rfl (by omega) (by omega) (by simp [escT]; omega) wx
    rw [show i + 1 - i = 1 by omega, hsl] at hsc
    unfold escT at hsc
    have HP : Hid (∀ k, EscPost t w (.returned (.tuple #[.int .i64 2, .string ⟨#[b]⟩, .int .i64 0])) (w.drewN k)) := Lib.hid (by
     intro k
     unfold EscPost
     rw [show esc t = .emit [b] r by rw [ht]; unfold esc; simp only [hsm]]
     exact ⟨2, k, rfl, by rw [ht]; rfl, Nat.le_refl _, by omega, rfl⟩)
    have p1 : (0 : Int) ≤ i := by omega
    clear he hsm hi hsl ht hg h2
    go_enter Tryz.func216, Tryz.ntmps216
    go_wp2_with fail
    refine (HI.out _).mono ?_
    rintro x w1 ⟨rfl, rfl⟩
    go_wp2_with fail
    go_quiet (fail)
    go_wp2
    go_ret3
    exact HP.out _
   | none =>
    rw [he.1 hsm] at HI
    have HE : Hid (esc t = esc1 t) := Lib.hid (by rw [ht]; unfold esc; simp only [hsm])
    have HU := Lib.hid (unit_any t hs)
    clear he hsm ht hg
    cases hu : unit t with
    | bad =>
     have HP : Hid (EscPost t w (.returned (.tuple #[.int .i64 0, .string ⟨#[]⟩, .int .i64 4])) w) := Lib.hid (by
       unfold EscPost; rw [HE.out]; unfold esc1; rw [hu]; exact ⟨0, rfl, rfl⟩)
     rw [hu] at HU
     clear hu HE
     go_enter Tryz.func216, Tryz.ntmps216
     go_wp2_with fail
     refine (HI.out _).mono ?_
     rintro x w1 ⟨rfl, rfl⟩
     go_wp2_with fail
     refine (HU.out _).mono ?_
     rintro x w1 ⟨n, rfl, rfl⟩
     go_wp2
     go_ret3
     exact HP.out
    | short =>
     have HP : Hid (EscPost t w (.returned (.tuple #[.int .i64 0, .string ⟨#[]⟩, .int .i64 2])) w) := Lib.hid (by
       unfold EscPost; rw [HE.out]; unfold esc1; rw [hu]; exact ⟨0, rfl, rfl⟩)
     rw [hu] at HU
     clear hu HE
     go_enter Tryz.func216, Tryz.ntmps216
     go_wp2_with fail
     refine (HI.out _).mono ?_
     rintro x w1 ⟨rfl, rfl⟩
     go_wp2_with fail
     refine (HU.out _).mono ?_
     rintro x w1 ⟨v, n, hn, rfl, rfl⟩
     have hn6 : (n : Int) < 6 := by omega
     go_wp2
     go_ret3
     exact HP.out
    | val v =>
     obtain ⟨h6, hv⟩ := unit_val hu
     by_cases hr1 : v < 55296 ∨ 57343 < v
     . have hcv := encode_utf8 (show v < 1114112 by omega) hr1
       have HP : Hid (EscPost t w (.returned (.tuple #[.int .i64 6, .string ⟨(utf8 v).toArray⟩, .int .i64 0])) w) := Lib.hid (by
         unfold EscPost; rw [HE.out]; unfold esc1; rw [hu]; simp only; rw [if_pos hr1]
         exact ⟨6, 0, rfl, rfl, by omega, h6, rfl⟩)
       rw [hu] at HU
       generalize utf8 v = bs at hcv HP
       clear hu HE
       by_cases hlo : (v : Int) < 55296
       . clear hr1
         go_enter Tryz.func216, Tryz.ntmps216
         go_wp2_with fail
         refine (HI.out _).mono ?_
         rintro x w1 ⟨rfl, rfl⟩
         go_wp2_with fail
         refine (HU.out _).mono ?_
         rintro x w1 ⟨rfl, rfl⟩
         go_wp2
         go_ret3
         exact HP.out
       . have hhi : (57343 : Int) < v := by omega
         clear hr1
         go_enter Tryz.func216, Tryz.ntmps216
         go_wp2_with fail
         refine (HI.out _).mono ?_
         rintro x w1 ⟨rfl, rfl⟩
         go_wp2_with fail
         refine (HU.out _).mono ?_
         rintro x w1 ⟨rfl, rfl⟩
         go_wp2
         go_ret3
         exact HP.out
     . have q1 : ((v : Int) < 55296) = False := eq_false (by omega)
       have q2 : ((57343 : Int) < v) = False := eq_false (by omega)
       by_cases hlow : 56320 ≤ v
       . have q3 : ((56320 : Int) ≤ v) = True := eq_true (by omega)
         have HP : Hid (EscPost t w (.returned (.tuple #[.int .i64 0, .string ⟨#[]⟩, .int .i64 4])) w) := Lib.hid (by
          unfold EscPost; rw [HE.out]; unfold esc1; rw [hu]; simp only; rw [if_neg hr1, if_pos hlow]
          exact ⟨0, rfl, rfl⟩)
         rw [hu] at HU
         clear hu HE hr1 hlow
         go_enter Tryz.func216, Tryz.ntmps216
         go_wp2_with fail
         refine (HI.out _).mono ?_
         rintro x w1 ⟨rfl, rfl⟩
         go_wp2_with fail
         refine (HU.out _).mono ?_
         rintro x w1 ⟨rfl, rfl⟩
         go_wp2
         go_ret3
         exact HP.out
       . have q3 : ((56320 : Int) ≤ v) = False := eq_false (by omega)
         have HE2 : Hid (esc t = esc2 t v) := Lib.hid (by rw [HE.out]; unfold esc1; rw [hu]; simp only; rw [if_neg hr1, if_neg hlow])
         have hsl := fun wx => run_slice_from_list Tryz.underlying9 t .i64 (6 : Int) 6 rfl h6 wx
         have HV := Lib.hid (unit_any (t.drop 6) (by rw [List.length_drop]; omega))
         rw [hu] at HU
         clear hu HE
         cases hx : unit (t.drop 6) with
         | bad =>
          have HP : Hid (EscPost t w (.returned (.tuple #[.int .i64 0, .string ⟨#[]⟩, .int .i64 4])) w) := Lib.hid (by
            unfold EscPost; rw [HE2.out]; unfold esc2; rw [hx]; exact ⟨0, rfl, rfl⟩)
          rw [hx] at HV
          clear hx HE2 hr1 hlow
          generalize t.drop 6 = t6 at hsl HV
          go_enter Tryz.func216, Tryz.ntmps216
          go_wp2_with fail
          refine (HI.out _).mono ?_
          rintro x w1 ⟨rfl, rfl⟩
          go_wp2_with fail
          refine (HU.out _).mono ?_
          rintro x w1 ⟨rfl, rfl⟩
          go_wp2_with fail
          refine (HV.out _).mono ?_
          rintro x w1 ⟨n, rfl, rfl⟩
          go_wp2
          go_ret3
          exact HP.out
         | short =>
          have HP : Hid (EscPost t w (.returned (.tuple #[.int .i64 0, .string ⟨#[]⟩, .int .i64 2])) w) := Lib.hid (by
            unfold EscPost; rw [HE2.out]; unfold esc2; rw [hx]; exact ⟨0, rfl, rfl⟩)
          rw [hx] at HV
          clear hx HE2 hr1 hlow
          generalize t.drop 6 = t6 at hsl HV
          go_enter Tryz.func216, Tryz.ntmps216
          go_wp2_with fail
          refine (HI.out _).mono ?_
          rintro x w1 ⟨rfl, rfl⟩
          go_wp2_with fail
          refine (HU.out _).mono ?_
          rintro x w1 ⟨rfl, rfl⟩
          go_wp2_with fail
          refine (HV.out _).mono ?_
          rintro x w1 ⟨y, n, hn, rfl, rfl⟩
          have hn6 : (n : Int) < 6 := by omega
          go_wp2
          go_ret3
          exact HP.out
         | val y =>
          obtain ⟨h12, hy⟩ := unit_val hx
          rw [List.length_drop] at h12
          by_cases hr2 : 56320 ≤ y /\ y ≤ 57343
          . obtain ⟨z, hz⟩ : ∃ z, z = 65536 + (v - 55296) * 1024 + (y - 56320) := ⟨_, rfl⟩
            have hcv := encode_utf8 (show z < 1114112 by omega) (.inr (by omega))
            have HP : Hid (EscPost t w (.returned (.tuple #[.int .i64 12, .string ⟨(utf8 z).toArray⟩, .int .i64 0])) w) := Lib.hid (by
              unfold EscPost; rw [HE2.out]; unfold esc2; rw [hx]; simp only; rw [if_pos hr2, <- hz]
              exact ⟨12, 0, rfl, rfl, by omega, by omega, rfl⟩)
            have e0 : IntKind.i32.wrap ((v : Int) - 55296) = ((v - 55296 : Nat) : Int) := by rw [wrap_i32 (by omega) (by omega)]; omega
            have e1 : IntKind.i32.wrap (((v - 55296 : Nat) : Int) * 1024) = (((v - 55296) * 1024 : Nat) : Int) := by rw [wrap_i32 (by omega) (by omega)]; omega
            have e2 : IntKind.i32.wrap ((y : Int) - 56320) = ((y - 56320 : Nat) : Int) := by rw [wrap_i32 (by omega) (by omega)]; omega
            have e3 : IntKind.i32.wrap ((((v - 55296) * 1024 : Nat) : Int) + ((y - 56320 : Nat) : Int)) = (((v - 55296) * 1024 + (y - 56320) : Nat) : Int) := by rw [wrap_i32 (by omega) (by omega)]; omega
            have e4 : IntKind.i32.wrap ((((v - 55296) * 1024 + (y - 56320) : Nat) : Int) + 65536) = (z : Int) := by rw [wrap_i32 (by omega) (by omega)]; omega
            rw [hx] at HV
            generalize utf8 z = bs at hcv HP
            have p1 : ((y : Int) < 56320) = False := eq_false (by omega)
            have p2 : ((57343 : Int) < y) = False := eq_false (by omega)
            clear hx HE2 hr1 hlow hr2 hz
            generalize t.drop 6 = t6 at hsl HV
            generalize (v - 55296) * 1024 + (y - 56320) = z3 at e3 e4
            generalize (v - 55296) * 1024 = z1 at e1 e3
            generalize v - 55296 = z0 at e0 e1
            generalize y - 56320 = z2 at e2 e3
            go_enter Tryz.func216, Tryz.ntmps216
            go_wp2_with fail
            refine (HI.out _).mono ?_
            rintro x w1 ⟨rfl, rfl⟩
            go_wp2_with fail
            refine (HU.out _).mono ?_
            rintro x w1 ⟨rfl, rfl⟩
            go_wp2_with fail
            refine (HV.out _).mono ?_
            rintro x w1 ⟨rfl, rfl⟩
            go_wp2
            go_ret3
            exact HP.out
          . have HP : Hid (EscPost t w (.returned (.tuple #[.int .i64 0, .string ⟨#[]⟩, .int .i64 4])) w) := Lib.hid (by
              unfold EscPost; rw [HE2.out]; unfold esc2; rw [hx]; simp only; rw [if_neg hr2]; exact ⟨0, rfl, rfl⟩)
            rw [hx] at HV
            by_cases p1' : (y : Int) < 56320
            . have p1 : ((y : Int) < 56320) = True := eq_true p1'
              clear p1'
              clear hx HE2 hr1 hlow hr2
              generalize t.drop 6 = t6 at hsl HV
              go_enter Tryz.func216, Tryz.ntmps216
              go_wp2_with fail
              refine (HI.out _).mono ?_
              rintro x w1 ⟨rfl, rfl⟩
              go_wp2_with fail
              refine (HU.out _).mono ?_
              rintro x w1 ⟨rfl, rfl⟩
              go_wp2_with fail
              refine (HV.out _).mono ?_
              rintro x w1 ⟨rfl, rfl⟩
              go_wp2
              go_ret3
              exact HP.out
            . have p1 : ((y : Int) < 56320) = False := eq_false p1'
              have p2 : ((57343 : Int) < y) = True := eq_true (by omega)
              clear p1'
              clear hx HE2 hr1 hlow hr2
              generalize t.drop 6 = t6 at hsl HV
              go_enter Tryz.func216, Tryz.ntmps216
              go_wp2_with fail
              refine (HI.out _).mono ?_
              rintro x w1 ⟨rfl, rfl⟩
              go_wp2_with fail
              refine (HU.out _).mono ?_
              rintro x w1 ⟨rfl, rfl⟩
              go_wp2_with fail
              refine (HV.out _).mono ?_
              rintro x w1 ⟨rfl, rfl⟩
              go_wp2
              go_ret3
              exact HP.out
end Js
end Go.Proofs.YtjohdaobhonioaaGreatDoor
namespace Go.Proofs.YtjohdaobhonioaaGreatDoor
open Go.RowKit
namespace Js
theorem Bd.kept {b : Nat} {l : List UInt8} {w w' : World} (h : Bd b l w) (hk : ∀ k, b ≤ k -> k < w.heap.size -> w'.heap[k]? = w.heap[k]?) : Bd b l w' := by
 have hc : ∀ p, Lib.BuilderAtF 196 5 b b p (Lib.byteCells l) w -> Lib.BuilderAtF 196 5 b b p (Lib.byteCells l) w' := by
   rintro p ⟨hB, v, hb, ⟨hl, ho⟩, hne⟩
   refine ⟨hB, v, (hk b hB (Array.getElem?_eq_some_iff.1 hb).1).trans hb, ⟨hl, ?_⟩, hne⟩
   rcases ho with ho | ⟨g, cap, cur, fz, rfl, hg, hgg, r⟩
   . exact .inl ho
   . exact .inr ⟨g, cap, cur, fz, rfl, hg, (hk g hg (Array.getElem?_eq_some_iff.1 hgg).1).trans hgg, r⟩
 rcases h with h | h
 . exact .inl (hc _ h)
 . exact .inr (hc _ h)
theorem Bd.setCell {b : Nat} {l : List UInt8} {w : World} (h : Bd b l w) {p : Addr} (hp : p.block < b) (u : Value) : Bd b l (w.setCell p u) := Bd.kept h fun k hk _ => Below.heap_setCell w p u k (by omega)
theorem Bd.drewN {b : Nat} {l : List UInt8} {w : World} (h : Bd b l w) (n : Nat) : Bd b l (w.drewN n) := Bd.kept h fun _ _ _ => rfl
theorem Bd.step {b : Nat} {l : List UInt8} {w w' : World} (h : Bd b l w) (hb : Below w.heap.size w w') : Bd b l w' := Bd.kept h fun k _ hk => hb.block k hk
theorem esc_drop {t b r : List UInt8} (h : esc t = .emit b r) : ∃ n, r = t.drop n /\ 2 ≤ n /\ n ≤ t.length := by
 unfold esc at h
 split at h
 . rename_i a c q
   split at h
   . injection h with h1 h2
     subst h1 h2
     exact ⟨2, rfl, Nat.le_refl _, by simp⟩
   . unfold esc1 at h
     split at h
     . cases h
     . cases h
     . rename_i v hv
       obtain ⟨h6, _⟩ := unit_val hv
       split at h
       . injection h with h1 h2
         subst h1 h2
         exact ⟨6, rfl, by omega, h6⟩
       . split at h
         . cases h
         . unfold esc2 at h
           split at h
           . cases h
           . cases h
           . rename_i y hy
             obtain ⟨h12, _⟩ := unit_val hy
             rw [List.length_drop] at h12
             split at h
             . injection h with h1 h2
               subst h1 h2
               exact ⟨12, rfl, by omega, by omega⟩
             . cases h
 . cases h
theorem esc_err {t r : List UInt8} {no : Nat} (h : esc t = .err no r) : (no = 2 /\ r = []) ∨ (no = 4 /\ r = t) := by
 unfold esc esc1 esc2 at h
 repeat' split at h
 all_goals first
  | (injection h with h1 h2; subst h1 h2; exact .inl ⟨rfl, rfl⟩)
  | (injection h with h1 h2; subst h1 h2; exact .inr ⟨rfl, rfl⟩)
  | cases h
theorem esc_fin {t r : List UInt8} (h : esc t = .fin r) : False := by
 unfold esc esc1 esc2 at h
 repeat' split at h
 all_goals cases h
theorem escape_emit {t b r : List UInt8} (hs : t.length ≤ 4398046511104) (h : esc t = .emit b r) : ∃ n : Nat, r = t.drop n /\ 2 ≤ n /\ n ≤ t.length /\
  ∀ w, Calls Tryz.prog 216 #[.string ⟨t.toArray⟩] w fun x w' => x = .returned (.tuple #[.int .i64 n, .string ⟨b.toArray⟩, .int .i64 0]) /\ ∃ k, w' = w.drewN k := by
 obtain ⟨n, hn, h2, hl⟩ := esc_drop h
 refine ⟨n, hn, h2, hl, fun w => (escape_any t hs w).mono ?_⟩
 intro x w' hp
 unfold EscPost at hp
 rw [h] at hp
 obtain ⟨n', k, rfl, hn', h2', hl', hw⟩ := hp
 have : n' = n := by
  have e := congrArg List.length (hn.symm.trans hn')
  rw [List.length_drop, List.length_drop] at e; omega
 subst this
 exact ⟨rfl, k, hw⟩
theorem escape_err {t r : List UInt8} {no : Nat} (hs : t.length ≤ 4398046511104) (h : esc t = .err no r) (w : World) :
  Calls Tryz.prog 216 #[.string ⟨t.toArray⟩] w fun x w' => x = .returned (.tuple #[.int .i64 0, .string ⟨#[]⟩, .int .i64 no]) /\ ∃ k, w' = w.drewN k := by
 refine (escape_any t hs w).mono ?_
 intro x w' hp
 unfold EscPost at hp
 rw [h] at hp
 obtain ⟨k, rfl, hw⟩ := hp
 exact ⟨rfl, k, hw⟩
def TxPost (rb : Nat) (s : List UInt8) (O : TO) (w : World) (x : Ending) (w' : World) : Prop :=
 match O with
 | .ok t r => ∃ q, x = .returned (.tuple #[.string ⟨t.toArray⟩, .nilIface]) /\ q ≤ s.length /\ r = s.drop q /\ Rdr w' rb s q /\ Kp w.heap.size (· = rb) w w'
 | .err no r => ∃ q a : Nat, x = .returned (.tuple #[.string ⟨#[]⟩, faultV no a]) /\ a + r.length = s.length /\ q ≤ s.length /\ Rdr w' rb s q /\ Kp w.heap.size (· = rb) w w'
set_option maxHeartbeats 8000000 in
set_option maxRecDepth 100000 in
theorem text_any (s : List UInt8) (hs : s.length ≤ 4398046511104) (p rb : Nat) (hp : p < s.length) (w : World) (h : Rdr w rb s p) :
  Calls Tryz.prog 148 #[.pointer (some ⟨rb, 0, none⟩)] w (TxPost rb s (txt (s.drop (p + 1))) w) := by
 obtain ⟨O, hO⟩ : ∃ O, O = txt (s.drop (p + 1)) := ⟨_, rfl⟩
 rw [<- hO]
 have hrl := Blk.lt h
 have HRL : Hid (rb < w.heap.size) := Lib.hid hrl
 have hrne : ¬ rb = w.heap.size := by omega
 have hrne2 : ¬ w.heap.size = rb := by omega
 have HR0 : Hid (Rdr ((w.setCell ⟨rb, 1, none⟩ (.int .i64 ((p : Int) + 1))).alloc (.cells #[.pointer none, .slice none 0 0] 196)) rb s (p + 1)) := Lib.hid (Blk.alloc (Rdr.to h (p + 1) _ (by omega)) _)
 have HB0 : Hid (Bd w.heap.size [] ((w.setCell ⟨rb, 1, none⟩ (.int .i64 ((p : Int) + 1))).alloc (.cells #[.pointer none, .slice none 0 0] 196))) := Lib.hid (by simpa using Bd.fresh (w.setCell ⟨rb, 1, none⟩ (.int .i64 ((p : Int) + 1))))
 have HK0 : Hid (Kp w.heap.size (· = rb) w ((w.setCell ⟨rb, 1, none⟩ (.int .i64 ((p : Int) + 1))).alloc (.cells #[.pointer none, .slice none 0 0] 196))) := Lib.hid (((Kp.refl _ _ _).rdr _).alloc (by simp) _)
 have c1 := Rdr.c1 h
 have f1 := Blk.frozen h 1
 have HO := Lib.hid hO
 obtain ⟨bb, hbb⟩ : ∃ bb, bb = w.heap.size := ⟨_, rfl⟩
 clear h hO
 go_enter Tryz.func148, Tryz.ntmps148
 go_wp2_with fail
 generalize (w.setCell ⟨rb, 1, none⟩ (.int .i64 ((p : Int) + 1))).alloc (.cells #[.pointer none, .slice none 0 0] 196) = w0 at HR0 HB0 HK0 ⊢
 clear c1 f1
 rw [<- hbb] at HB0 hrne hrne2 hrl ⊢
 have HBB := Lib.hid hbb
 clear hbb
 go_loopg [5, 6, 7, 8] (s.length + 1) (fun gk _ _ _ _ wr => ∃ (q : Nat) (l : List UInt8), p < q /\ q ≤ s.length /\ s.length - q < gk /\ l.length ≤ q /\ Hid (O = (txt (s.drop q)).pre l) /\ Hid (Bd bb l wr) /\ Hid (Rdr wr rb s q) /\ Hid (Kp w.heap.size (· = rb) w wr))
 case atStart => exact ⟨p + 1, [], by omega, by omega, by omega, by simp, Lib.hid (by rw [HO.out, TO.pre_nil]), HB0, HR0, HK0⟩
 case round =>
  clear HO HB0 HR0 HK0
  obtain ⟨q, l, hpq, hq, hgk, hlq, HO, HB, HR, HK⟩ := hrel
  have HT := Lib.hid (txt_eq (s.drop q))
  have c0 := HR.out.c0
  have c1 := HR.out.c1
  by_cases hlt : q < s.length
  . have hidx := run_index_list Tryz.underlying9 s q hlt
    have HD := Lib.hid (drop_at hlt)
    generalize s.getD q 0 = c at hidx HD
    go_wp2_with fail
    go_quiet (fail)
    have HR1 : Hid (Rdr (wr.drewN nq) rb s q) := Lib.hid HR.out
    have HK1 := Lib.hid (HK.out.drewN nq)
    have HB1 := Lib.hid (Bd.drewN HB.out nq)
    clear c0 c1
    generalize wr.drewN nq = w1 at HR1 HK1 HB1 ⊢
    have c0 := HR1.out.c0
    have c1 := HR1.out.c1
    go_wp2_with fail
    go_quiet (fail)
    have HR2 : Hid (Rdr (w1.drewN nq) rb s q) := Lib.hid HR1.out
    have HK2 := Lib.hid (HK1.out.drewN nq)
    have HB2 := Lib.hid (Bd.drewN HB1.out nq)
    clear c0 c1 HR HK HB HR1 HK1 HB1
    generalize w1.drewN nq = w2 at HR2 HK2 HB2 ⊢
    have c0 := HR2.out.c0
    have c1 := HR2.out.c1
    have f1 := Blk.frozen HR2.out 1
    by_cases h34 : c = 34
    . have q1 : ((c.toNat : Int) == 34) = true := b8t h34
      have HP : Hid (O = .ok l (s.drop (q + 1))) := Lib.hid (by
        have h1 := HT.out
        rw [HD.out, h34, tstep_cons, if_pos rfl] at h1
        rw [HO.out, HD.out, h34, h1]
        simp [TO.pre])
      have HR3 := Lib.hid (HR2.out.to (q + 1) ((q : Int) + 1) (by omega))
      have HB3 := Lib.hid (Bd.setCell HB2.out (p := ⟨rb, 1, none⟩) hrl (.int .i64 ((q : Int) + 1)))
      have HK3 := Lib.hid (HK2.out.rdr (.int .i64 ((q : Int) + 1)))
      have HS := Lib.hid (string_b _ _ _ HB3.out)
      clear h34 HT HD
      go_wp2_with fail
      refine HS.out.mono ?_
      rintro x w4 ⟨rfl, _, hk⟩
      have HR4 : Hid (Rdr w4 rb s (q + 1)) := Lib.hid (HR3.out.below hk.below hrl)
      have HK4 := Lib.hid (HK3.out.trans (Kp.of_below (hk.below.mono (by have := HBB.out; omega))))
      clear hk
      go_wp2
      go_ret2
      rw [HP.out]
      exact ⟨q + 1, rfl, by omega, rfl, HR4.out, HK4.out⟩
    . have q1 : ((c.toNat : Int) == 34) = false := b8f h34
      by_cases h32 : c.toNat < 32
      . have q2 : ((c.toNat : Int) < 32) = True := eq_true (by omega)
        have HP : Hid (O = .err 4 (s.drop q)) := Lib.hid (by
          have h1 := HT.out
          rw [HD.out, tstep_cons, if_neg h34, if_pos h32] at h1
          rw [HO.out, HD.out, h1]
          rfl)
        have HF := Lib.hid (fault_any 4 q)
        unfold faultV at HF
        clear h34 h32 HT HD
        go_wp2_with fail
        refine (HF.out _).mono ?_
        rintro x w3 ⟨rfl, hb2⟩
        have HR3 : Hid (Rdr w3 rb s q) := Lib.hid (HR2.out.below hb2 HR2.out.lt)
        have HK3 := Lib.hid (HK2.out.step hb2 HK2.out.size)
        clear hb2 c1
        go_wp2
        go_ret2
        rw [HP.out]
        exact ⟨q, q, rfl, by rw [List.length_drop]; omega, hq, HR3.out, HK3.out⟩
      . have q2 : ((c.toNat : Int) < 32) = False := eq_false (by omega)
        by_cases h92 : c = 92
        . have q3 : ((c.toNat : Int) == 92) = true := b8t h92
          have hsl := fun wx => run_slice_from_list Tryz.underlying9 s .i64 (q : Int) q rfl hq wx
          have HT1 : Hid (tstep (s.drop q) = esc (s.drop q)) := Lib.hid (by rw [HD.out, tstep_cons, if_neg h34, if_neg h32, if_pos h92])
          have hlen : (s.drop q).length ≤ 4398046511104 := by rw [List.length_drop]; omega
          clear h34 h32 HD h92
          cases he : esc (s.drop q) with
          | fin r => exact (esc_fin he).elim
          | err no r =>
           have HE := Lib.hid (escape_err hlen he)
           have HP : Hid (O = .err no r) := Lib.hid (by
             have h1 := HT.out
             rw [HT1.out, he] at h1
             rw [HO.out, h1]
             rfl)
           rcases esc_err he with ⟨rfl, rfl⟩ | ⟨rfl, rfl⟩
           . have HF := Lib.hid (fault_any 2 s.length)
             unfold faultV at HF
             clear he HT HT1
             generalize s.drop q = t at hsl HE
             go_wp2_with fail
             go_quiet (exact Calls.quiet_of (HE.out _))
             have HR3 : Hid (Rdr (w2.drewN nq) rb s q) := Lib.hid HR2.out
             have HK3 := Lib.hid (HK2.out.drewN nq)
             clear c0 c1 f1
             generalize w2.drewN nq = w3 at HR3 HK3 ⊢
             have c0 := HR3.out.c0
             go_wp2_with fail
             refine (HF.out _).mono ?_
             rintro x w4 ⟨rfl, hb2⟩
             have HR4 : Hid (Rdr w4 rb s q) := Lib.hid (HR3.out.below hb2 HR3.out.lt)
             have HK4 := Lib.hid (HK3.out.step hb2 HK3.out.size)
             clear hb2 c0
             go_wp2
             go_ret2
             rw [HP.out]
             exact ⟨q, s.length, rfl, by simp, hq, HR4.out, HK4.out⟩
           . have HF := Lib.hid (fault_any 4 q)
             unfold faultV at HF
             have HL : Hid (q + (s.drop q).length = s.length) := Lib.hid (by rw [List.length_drop]; omega)
             clear he HT HT1
             generalize s.drop q = t at hsl HE HP HL
             go_wp2_with fail
             go_quiet (exact Calls.quiet_of (HE.out _))
             have HR3 : Hid (Rdr (w2.drewN nq) rb s q) := Lib.hid HR2.out
             have HK3 := Lib.hid (HK2.out.drewN nq)
             clear c0 c1 f1
             generalize w2.drewN nq = w3 at HR3 HK3 ⊢
             have c1 := HR3.out.c1
             go_wp2_with fail
             refine (HF.out _).mono ?_
             rintro x w4 ⟨rfl, hb2⟩
             have HR4 : Hid (Rdr w4 rb s q) := Lib.hid (HR3.out.below hb2 HR3.out.lt)
             have HK4 := Lib.hid (HK3.out.step hb2 HK3.out.size)
             clear hb2 c1
             go_wp2
             go_ret2
             rw [HP.out]
             exact ⟨q, q, rfl, HL.out, hq, HR4.out, HK4.out⟩
          | emit b r =>
           obtain ⟨n, hr, hn2, hnl, hE⟩ := escape_emit hlen he
           rw [List.length_drop] at hnl
           have HE := Lib.hid hE
           have hbl := (tstep_emit (HT1.out.trans he)).1
           have hrl2 : r.length = s.length - q - n := by rw [hr, List.length_drop, List.length_drop]
           rw [List.length_drop] at hbl
           have hb1 : b.length ≤ n := by omega
           have HP : Hid (O = (txt (s.drop (q + n))).pre (l ++ b)) := Lib.hid (by
             have h1 := HT.out
             rw [HT1.out, he] at h1
             rw [HO.out, h1, TO.pre_pre, hr, List.drop_drop])
           clear he HT HT1 hE hr hbl hrl2 hlen
           generalize s.drop q = t at hsl HE
           go_wp2_with fail
           go_quiet (exact Calls.quiet_of (HE.out _))
           have HR3 : Hid (Rdr (w2.drewN nq) rb s q) := Lib.hid HR2.out
           have HK3 := Lib.hid (HK2.out.drewN nq)
           have HB3 := Lib.hid (Bd.drewN HB2.out nq)
           clear c0 c1 f1
           generalize w2.drewN nq = w3 at HR3 HK3 HB3 ⊢
           have HW := Lib.hid (writeString_b bb l ⟨b.toArray⟩ w3 HB3.out (by simp [ByteArray.size]; omega))
           go_wp2_with fail
           refine HW.out.mono ?_
           rintro x w4 ⟨rfl, h1, h2⟩
           have HR4 : Hid (Rdr w4 rb s q) := Lib.hid (HR3.out.below h2.below hrl)
           have HB4 : Hid (Bd bb (l ++ b) w4) := Lib.hid h1
           have HK4 := Lib.hid (HK3.out.trans (Kp.of_below (h2.below.mono (by have := HBB.out; omega))))
           clear h1 h2 HW
           have c1 := HR4.out.c1
           have f1 := Blk.frozen HR4.out 1
           go_wp2_with fail
           go_roundg (gk - 1)
           case measure => omega
           case rel => exact ⟨q + n, l ++ b, by omega, by omega, by omega, by rw [List.length_append]; omega, HP, Lib.hid (Bd.setCell HB4.out (p := ⟨rb, 1, none⟩) hrl _), Lib.hid (HR4.out.to (q + n) _ (by omega)), Lib.hid (HK4.out.rdr _)⟩
        . have q3 : ((c.toNat : Int) == 92) = false := b8f h92
          have HP : Hid (O = (txt (s.drop (q + 1))).pre (l ++ [c])) := Lib.hid (by
           have h1 := HT.out
           rw [HD.out, tstep_cons, if_neg h34, if_neg h32, if_neg h92] at h1
           rw [HO.out, HD.out, h1, TO.pre_pre])
          have HW := Lib.hid (writeByte_b bb l c w2 HB2.out (by omega))
          clear h34 h32 h92 HT HD
          go_wp2_with fail
          refine HW.out.mono ?_
          rintro x w4 ⟨rfl, h1, h2⟩
          have HR4 : Hid (Rdr w4 rb s q) := Lib.hid (HR2.out.below h2.below hrl)
          have HB4 : Hid (Bd bb (l ++ [c]) w4) := Lib.hid h1
          have HK4 := Lib.hid (HK2.out.trans (Kp.of_below (h2.below.mono (by have := HBB.out; omega))))
          clear h1 h2 HW c0 c1 f1
          have c1 := HR4.out.c1
          have f1 := Blk.frozen HR4.out 1
          go_wp2_with fail
          go_roundg (gk - 1)
          case measure => omega
          case rel => exact ⟨q + 1, l ++ [c], by omega, by omega, by omega, by rw [List.length_append]; simp; omega, HP, Lib.hid (Bd.setCell HB4.out (p := ⟨rb, 1, none⟩) hrl _), Lib.hid (HR4.out.to (q + 1) _ (by omega)), Lib.hid (HK4.out.rdr _)⟩
  . have HP : Hid (O = .err 2 []) := Lib.hid (by
      have h1 := HT.out
      rw [List.drop_eq_nil_of_le (by omega)] at h1
      rw [HO.out, List.drop_eq_nil_of_le (by omega), h1]
      rfl)
    have HF := Lib.hid (fault_any 2 s.length)
    unfold faultV at HF
    go_wp2_with fail
    go_quiet (fail)
    have HR1 : Hid (Rdr (wr.drewN nq) rb s q) := Lib.hid HR.out
    have HK1 := Lib.hid (HK.out.drewN nq)
    clear c0 c1 HR HK HB HT
    generalize wr.drewN nq = w1 at HR1 HK1 ⊢
    have c0 := HR1.out.c0
    go_wp2_with fail
    refine (HF.out _).mono ?_
    rintro x w4 ⟨rfl, hb2⟩
    have HR4 : Hid (Rdr w4 rb s q) := Lib.hid (HR1.out.below hb2 HR1.out.lt)
    have HK4 := Lib.hid (HK1.out.step hb2 HK1.out.size)
    clear hb2 c0
    go_wp2
    go_ret2
    rw [HP.out]
    exact ⟨q, s.length, rfl, by simp, hq, HR4.out, HK4.out⟩
end Js
end Go.Proofs.YtjohdaobhonioaaGreatDoor
