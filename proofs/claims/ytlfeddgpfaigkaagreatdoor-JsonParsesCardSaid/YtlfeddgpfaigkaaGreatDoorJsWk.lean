/-
  works, at this seat.
-/
import Derived.Test.YtlfeddgpfaigkaaGreatDoorJsWp
import Derived.Test.YtlfeddgpfaigkaaGreatDoorJsGl
import Derived.Test.YtlfeddgpfaigkaaGreatDoorJsPa
import Derived.Test.YtlfeddgpfaigkaaGreatDoorErrP
namespace Go.Proofs.YtlfeddgpfaigkaaGreatDoor
open Go.RowKit
namespace Js
def wkH : Hd := ⟨6, 0, [], [[98], [97]]⟩
def wkK : F := .cons ⟨3, -1, [], []⟩ .nil (.cons ⟨4, 0, [34, 10], []⟩ .nil .nil)
def wkF : List UInt8 := [123, 34, 97, 34, 58, 34, 92, 34, 92, 117, 48, 48, 48, 97, 34, 44, 34, 98, 34, 58, 45, 49, 125]
theorem wk_form : form wkH wkK = wkF := by
  have hd : decI (-1) = [45, 49] := by
    unfold decI Lib.itoa
    rw [if_pos (by decide)]
    show 45 :: Lib.decDigits 1 = _
    rw [Lib.decDigits_one (by decide)]
    rfl
  show 123 :: (commas ((sortK ([[98], [97]].zip [decI (-1), quoted [34, 10]])).map member) ++ [125]) = _
  rw [hd]
  decide
theorem wk_wrongs : wrongs 1 wkH wkK = 0 := by decide +kernel
theorem wk_printed : (printed wkH wkK).2 = 0 := by
  unfold printed
  rw [if_neg (by rw [wk_wrongs]; decide), wk_form]
  decide
theorem wk_okh : Okh wkH ∧ wkK.All Okh := by
  refine ⟨⟨⟨by decide, by decide⟩, by decide, by decide⟩, ⟨⟨by decide, by decide⟩, by decide, by decide⟩, trivial, ⟨⟨by decide, by decide⟩, by decide, by decide⟩, trivial, trivial⟩
theorem wk_parse : parse [32, 123, 32, 34, 97, 34, 32, 58, 32, 91, 32, 93, 32, 125, 32] = .ok ⟨6, 0, [], [[97]]⟩ (.cons (plainH 5) .nil .nil) [] := by decide +kernel
theorem wk_bad : parse [34, 97] = .err 2 [] := by decide +kernel
theorem wk_get : getO wkH wkK [98] = some (⟨3, -1, [], []⟩, .nil) := by rfl
/-- What was read out of the text with one member. -/
theorem wk_read {w : World} {B : Nat} {iv kv : Value} {bs : List Nat} (h : OT encJ w B 25 9 (.cons ⟨6, 0, [], [[97]]⟩ (.cons (plainH 5) .nil .nil) .nil) (jcells ⟨6, 0, [], [[97]]⟩ iv kv) bs) :
    ∃ a c a' c', iv = .slice (some a) 1 c ∧ kv = .slice (some a') 1 c' ∧ w.cell? a = some (.int .i64 5) ∧ w.cell? a' = some (.string ⟨#[97]⟩) := by
  obtain ⟨⟨A, c, rfl⟩, A', c', rfl⟩ := ot_form h
  obtain ⟨A1, c1, A2, c2, us, e, _, _, h1, h2, h3⟩ := (h.tr rfl).tv
  simp only [encJ, jcells, List.cons.injEq, and_true, true_and, Value.slice.injEq] at e
  obtain ⟨⟨rfl, _, rfl⟩, rfl, _, rfl⟩ := e
  obtain ⟨a, rfl, _, hc⟩ := h1.2 (by decide)
  obtain ⟨a', rfl, _, hc'⟩ := h3.2 (by decide)
  obtain ⟨_, _, _, _, us3, rest, rfl, _⟩ := h2
  have e1 := hc 0 (.int .i64 5) rfl
  have e2 := hc' 0 (.string ⟨#[97]⟩) rfl
  exact ⟨a, c, a', c', rfl, rfl, by simpa [Addr.add] using e1, by simpa [Addr.add] using e2⟩
set_option maxHeartbeats 4000000 in
set_option maxRecDepth 100000 in
theorem works_any (w : World) (hst : St w) : Calls Tryz.prog 15 #[] w fun x w' => x = .returned (.bool true) ∧ Below w.heap.size w w' := by
  obtain ⟨b0, hb0⟩ : ∃ b0, b0 = w.heap.size := ⟨_, rfl⟩
  obtain ⟨wz, hwz⟩ : ∃ wz, wz = ((w.alloc (.cells #[.string ⟨#[98]⟩, .string ⟨#[97]⟩] 9)).alloc (.cells #[.int .i64 3, .int .i64 (-1), .string ⟨#[]⟩, .slice none 0 0, .slice none 0 0, .int .i64 4, .int .i64 0, .string ⟨#[34, 10]⟩, .slice none 0 0, .slice none 0 0] 25)).alloc (.cells #[.int .i64 6, .int .i64 0, .string ⟨#[]⟩, .slice (some ⟨w.heap.size + 1, 0, none⟩) 2 2, .slice (some ⟨w.heap.size, 0, none⟩) 2 2] 25) := ⟨_, rfl⟩
  have HK : Hid (Blk wz b0 9 #[.string ⟨#[98]⟩, .string ⟨#[97]⟩]) := Lib.hid (by rw [hwz, hb0]; exact ((Blk.new _ _ _).alloc _).alloc _)
  have HI : Hid (Blk wz (b0 + 1) 25 #[.int .i64 3, .int .i64 (-1), .string ⟨#[]⟩, .slice none 0 0, .slice none 0 0, .int .i64 4, .int .i64 0, .string ⟨#[34, 10]⟩, .slice none 0 0, .slice none 0 0]) := Lib.hid (by
    have := (Blk.new (w.alloc (.cells #[.string ⟨#[98]⟩, .string ⟨#[97]⟩] 9)) 25 #[.int .i64 3, .int .i64 (-1), .string ⟨#[]⟩, .slice none 0 0, .slice none 0 0, .int .i64 4, .int .i64 0, .string ⟨#[34, 10]⟩, .slice none 0 0, .slice none 0 0]).alloc (.cells #[.int .i64 6, .int .i64 0, .string ⟨#[]⟩, .slice (some ⟨w.heap.size + 1, 0, none⟩) 2 2, .slice (some ⟨w.heap.size, 0, none⟩) 2 2] 25)
    rw [hwz, hb0]; simpa using this)
  have HV : Hid (Blk wz (b0 + 1 + 1) 25 #[.int .i64 6, .int .i64 0, .string ⟨#[]⟩, .slice (some ⟨b0 + 1, 0, none⟩) 2 2, .slice (some ⟨b0, 0, none⟩) 2 2]) := Lib.hid (by
    have := Blk.new ((w.alloc (.cells #[.string ⟨#[98]⟩, .string ⟨#[97]⟩] 9)).alloc (.cells #[.int .i64 3, .int .i64 (-1), .string ⟨#[]⟩, .slice none 0 0, .slice none 0 0, .int .i64 4, .int .i64 0, .string ⟨#[34, 10]⟩, .slice none 0 0, .slice none 0 0] 25)) 25 #[.int .i64 6, .int .i64 0, .string ⟨#[]⟩, .slice (some ⟨w.heap.size + 1, 0, none⟩) 2 2, .slice (some ⟨w.heap.size, 0, none⟩) 2 2]
    rw [hwz, hb0]; simpa using this)
  have HZ : Hid (Below w.heap.size w wz ∧ w.heap.size = b0) := Lib.hid (by rw [hwz, hb0]; exact ⟨(((Below.refl _ _).alloc (Nat.le_refl _) _).alloc (by simp) _).alloc (by simp; omega) _, rfl⟩)
  have HTV : Hid (TV encJ wz (· < wz.heap.size) wkH wkK (jcells wkH (.slice (some ⟨b0 + 1, 0, none⟩) 2 2) (.slice (some ⟨b0, 0, none⟩) 2 2))) := Lib.hid (by
    refine ⟨some ⟨b0 + 1, 0, none⟩, 2, some ⟨b0, 0, none⟩, 2, _, rfl, by decide, ⟨by decide, fun h => by cases h⟩, RdS.of_reads (Reads.of_block HI.out rfl), ?_, RdS.of_reads (Reads.of_block (n := 2) HK.out rfl)⟩
    exact ⟨none, 0, none, 0, [], _, rfl, by decide, ⟨by decide, fun h => by cases h⟩, RdS.none_, rfl, RdS.none_, none, 0, none, 0, [], [], rfl, by decide, ⟨by decide, fun h => by cases h⟩, RdS.none_, rfl, RdS.none_, rfl⟩)
  have HST := Lib.hid hst
  have HPR := Lib.hid (print_any wkH wkK _ _ _ wz wk_okh.1 wk_okh.2 HTV.out (fun b hb => hb) (hst.below HZ.out.1) (fun _ => by rw [wk_form]; decide))
  clear hst
  go_enter Tryz.func15, Tryz.ntmps15
  go_wp2_with fail
  rw [← hwz, ← hb0]
  clear hwz hb0
  refine HPR.out.mono ?_
  rintro x w1 ⟨hb1, hx⟩
  rw [wk_printed, wk_form] at hx
  obtain rfl : x = .returned (.tuple #[.string ⟨wkF.toArray⟩, .nilIface]) := by
    rcases hx with ⟨_, h⟩ | ⟨h, _⟩
    · exact h
    · exact absurd rfl h
  clear hx
  have HB1 : Hid (Below wz.heap.size wz w1) := Lib.hid hb1
  have HZ1 : Hid (Below w.heap.size w w1) := Lib.hid (HZ.out.1.trans (hb1.mono HZ.out.1.size))
  have HP1 := Lib.hid (parse_any [32, 123, 32, 34, 97, 34, 32, 58, 32, 91, 32, 93, 32, 125, 32] w1 (HST.out.below HZ1.out))
  clear hb1 HPR
  unfold wkF
  go_wp2_with fail
  refine HP1.out.mono ?_
  rintro x w2 hx
  unfold PaPost at hx
  rw [wk_parse] at hx
  obtain ⟨iv, kv, bs, rfl, hot, _, hb2⟩ := hx
  obtain ⟨a, c, a', c', rfl, rfl, r1, r2⟩ := wk_read hot
  have HR1 := Lib.hid r1
  have HR2 := Lib.hid r2
  have HLT : Hid (a.block < w2.heap.size ∧ a'.block < w2.heap.size) := Lib.hid (by
    constructor
    · rcases Nat.lt_or_ge a.block w2.heap.size with h | h
      · exact h
      · simp [World.cell?, Array.getElem?_eq_none h] at r1
    · rcases Nat.lt_or_ge a'.block w2.heap.size with h | h
      · exact h
      · simp [World.cell?, Array.getElem?_eq_none h] at r2)
  have HB2 : Hid (Below wz.heap.size wz w2) := Lib.hid (HB1.out.trans (hb2.mono HB1.out.size))
  clear hot hb2 r1 r2 HP1 HB1 HZ1
  obtain ⟨w3, hw3⟩ : ∃ w3, w3 = w2.alloc (.cells #[.int .i64 6, .int .i64 0, .string ⟨#[]⟩, .slice (some a) 1 c, .slice (some a') 1 c'] 25) := ⟨_, rfl⟩
  have HQ3 : Hid (Blk w3 w2.heap.size 25 #[.int .i64 6, .int .i64 0, .string ⟨#[]⟩, .slice (some a) 1 c, .slice (some a') 1 c']) := Lib.hid (by rw [hw3]; exact Blk.new _ _ _)
  have HB3 : Hid (Below w2.heap.size w2 w3) := Lib.hid (by rw [hw3]; exact (Below.refl _ _).alloc (Nat.le_refl _) _)
  have HZ3 : Hid (Below w.heap.size w w3) := Lib.hid (HZ.out.1.trans ((HB2.out.trans (HB3.out.mono HB2.out.size)).mono HZ.out.1.size))
  have HP2 := Lib.hid (parse_any [34, 97] w3 (HST.out.below HZ3.out))
  go_wp2_with fail
  rw [← hw3]
  clear hw3
  refine HP2.out.mono ?_
  rintro x w4 hx
  unfold PaPost at hx
  rw [wk_bad] at hx
  obtain ⟨a0, ha, rfl, hb4⟩ := hx
  have ha2 : a0 = 2 := by simpa using ha
  subst ha2
  have HB4 : Hid (Below w2.heap.size w2 w4) := Lib.hid (HB3.out.trans (hb4.mono HB3.out.size))
  have HQ4 := Lib.hid (HQ3.out.below hb4 HQ3.out.lt)
  clear ha hb4 HP2 HB3 HQ3 HZ3
  unfold zeroJ faultV
  go_upto_region 5 with fail
  obtain ⟨w5, hw5⟩ : ∃ w5, w5 = w4.alloc (.cells #[.int .i64 0, .int .i64 0, .string .empty, .slice none 0 0, .slice none 0 0] 25) := ⟨_, rfl⟩
  have HB5 : Hid (Below w2.heap.size w2 w5) := Lib.hid (by rw [hw5]; exact HB4.out.alloc HB4.out.size _)
  have HQ5 : Hid (Blk w5 w2.heap.size 25 #[.int .i64 6, .int .i64 0, .string ⟨#[]⟩, .slice (some a) 1 c, .slice (some a') 1 c']) := Lib.hid (by rw [hw5]; exact HQ4.out.alloc _)
  rw [← hw5]
  clear hw5 HQ4 HB4
  have HBZ5 : Hid (Below wz.heap.size wz w5) := Lib.hid (HB2.out.trans (HB5.out.mono HB2.out.size))
  have HV5 := Lib.hid (HV.out.below HBZ5.out HV.out.lt)
  have v0 := HV5.out.cell 0
  have v1 := HV5.out.cell 1
  have v2 := HV5.out.cell 2
  have v3 := HV5.out.cell 3
  have v4 := HV5.out.cell 4
  have HG := Lib.hid (get_any wkH wkK _ _ [98] (· < wz.heap.size) w5 (HTV.out.kept fun p hp => HBZ5.out.cell hp) (fun b hb => by have := HBZ5.out.size; omega) (by decide) (by decide))
  go_wp2_with fail
  refine HG.out.mono ?_
  rintro x w6 hx
  unfold GPost at hx
  rw [wk_get] at hx
  obtain ⟨iv, kv, bs2, rfl, hot2, _, hb6⟩ := hx
  obtain ⟨⟨A6, c6, rfl⟩, A7, c7, rfl⟩ := ot_form hot2
  have HB6 : Hid (Below w2.heap.size w2 w6) := Lib.hid (HB5.out.trans (hb6.mono HB5.out.size))
  have HQ6 := Lib.hid (HQ5.out.below hb6 HQ5.out.lt)
  clear hot2 hb6 HG v0 v1 v2 v3 v4
  dsimp only
  obtain ⟨w7, hw7⟩ : ∃ w7, w7 = w6.alloc (.cells #[.int .i64 3, .int .i64 (-1), .string ⟨#[]⟩, .slice A6 F.nil.len c6, .slice A7 0 c7] 25) := ⟨_, rfl⟩
  have HR7 : Hid (Blk w7 w6.heap.size 25 #[.int .i64 3, .int .i64 (-1), .string ⟨#[]⟩, .slice A6 F.nil.len c6, .slice A7 0 c7]) := Lib.hid (by rw [hw7]; exact Blk.new _ _ _)
  have HB7 : Hid (Below w2.heap.size w2 w7) := Lib.hid (by rw [hw7]; exact HB6.out.alloc HB6.out.size _)
  have HQ7 : Hid (Blk w7 w2.heap.size 25 #[.int .i64 6, .int .i64 0, .string ⟨#[]⟩, .slice (some a) 1 c, .slice (some a') 1 c']) := Lib.hid (by rw [hw7]; exact HQ6.out.alloc _)
  have HZ7 : Hid (Below w.heap.size w w7) := Lib.hid (HZ.out.1.trans ((HB2.out.trans (HB7.out.mono HB2.out.size)).mono HZ.out.1.size))
  have HAT := Lib.hid (Err.at_fault 2 0 2 (by decide) (by decide) w7 (HST.out.below HZ7.out).err)
  go_wp2_with fail
  rw [← hw7]
  clear hw7
  refine HAT.out.mono ?_
  rintro x w8 ⟨rfl, hb8⟩
  have HB8 : Hid (Below w2.heap.size w2 w8) := Lib.hid (HB7.out.trans (hb8.mono HB7.out.size))
  have HQ8 := Lib.hid (HQ7.out.below hb8 HQ7.out.lt)
  have HR8 := Lib.hid (HR7.out.below hb8 HR7.out.lt)
  have HZ8 : Hid (Below w.heap.size w w8) := Lib.hid (HZ7.out.trans (hb8.mono HZ7.out.size))
  clear hb8 HB7 HQ7 HR7 HAT
  have s1 := HR8.out.cell 1
  have q0 := HQ8.out.cell 0
  have q3 := HQ8.out.cell 3
  have q4 := HQ8.out.cell 4
  have r1 := (HB8.out.cell HLT.out.1).trans HR1.out
  have r2 := (HB8.out.cell HLT.out.2).trans HR2.out
  go_wp2
  go_ret
  exact ⟨rfl, HZ8.out⟩
end Js
end Go.Proofs.YtlfeddgpfaigkaaGreatDoor
