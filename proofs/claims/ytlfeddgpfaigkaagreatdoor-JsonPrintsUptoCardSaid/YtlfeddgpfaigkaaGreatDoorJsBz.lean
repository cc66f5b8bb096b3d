/-
  The walk of the law's works at this seat's translation: an object is written, read, looked into; a text without an end is refused.
  The walk of the law JsonForm at this seat's translation, for every text.
  The walk of the law JsonBack at this seat's translation, for every value of at most 2^20 values and letters.
-/
import Derived.Test.YtlfeddgpfaigkaaGreatDoorJsWp
import Derived.Test.YtlfeddgpfaigkaaGreatDoorJsGl
import Derived.Test.YtlfeddgpfaigkaaGreatDoorJsPa
import Derived.Test.YtlfeddgpfaigkaaGreatDoorErrP
import Derived.Test.YtlfeddgpfaigkaaGreatDoorJsWg
namespace Go.Proofs.YtlfeddgpfaigkaaGreatDoor
open Go.RowKit
namespace Js
def wkH : Hd := ⟨6, 0, [], [[98], [97]]⟩
def wkK : F := .cons ⟨3, -1, [], []⟩ .nil (.cons ⟨4, 0, [34, 10], []⟩ .nil .nil)
def wkF : List UInt8 := [123, 34, 97, 34, 58, 34, 92, 34, 92, 117, 48, 48, 48, 97, 34, 44, 34, 98, 34, 58, 45, 49, 125]
theorem wk_form : form wkH wkK = wkF := by
  have hd : decI (-1) = [45, 49] := by
    unfold decI Lib.itoa
    rw [if_pos (by decide)]
    show 45 :: Lib.decDigits 1 = _
    rw [Lib.decDigits_one (by decide)]
    rfl
  show 123 :: (commas ((sortK ([[98], [97]].zip [decI (-1), quoted [34, 10]])).map member) ++ [125]) = _
  rw [hd]
  decide
theorem wk_wrongs : wrongs 1 wkH wkK = 0 := by decide +kernel
theorem wk_printed : (printed wkH wkK).2 = 0 := by
  unfold printed
  rw [if_neg (by rw [wk_wrongs]; decide), wk_form]
  decide
theorem wk_okh : Okh wkH ∧ wkK.All Okh := by
  refine ⟨⟨⟨by decide, by decide⟩, by decide, by decide⟩, ⟨⟨by decide, by decide⟩, by decide, by decide⟩, trivial, ⟨⟨by decide, by decide⟩, by decide, by decide⟩, trivial, trivial⟩
theorem wk_parse : parse [32, 123, 32, 34, 97, 34, 32, 58, 32, 91, 32, 93, 32, 125, 32] = .ok ⟨6, 0, [], [[97]]⟩ (.cons (plainH 5) .nil .nil) [] := by decide +kernel
theorem wk_bad : parse [34, 97] = .err 2 [] := by decide +kernel
theorem wk_get : getO wkH wkK [98] = some (⟨3, -1, [], []⟩, .nil) := by rfl
/-- What was read out of the text with one member. -/
theorem wk_read {w : World} {B : Nat} {iv kv : Value} {bs : List Nat} (h : OT encJ w B 25 9 (.cons ⟨6, 0, [], [[97]]⟩ (.cons (plainH 5) .nil .nil) .nil) (jcells ⟨6, 0, [], [[97]]⟩ iv kv) bs) :
    ∃ a c a' c', iv = .slice (some a) 1 c ∧ kv = .slice (some a') 1 c' ∧ w.cell? a = some (.int .i64 5) ∧ w.cell? a' = some (.string ⟨#[97]⟩) := by
  obtain ⟨⟨A, c, rfl⟩, A', c', rfl⟩ := ot_form h
  obtain ⟨A1, c1, A2, c2, us, e, _, _, h1, h2, h3⟩ := (h.tr rfl).tv
  simp only [encJ, jcells, List.cons.injEq, and_true, true_and, Value.slice.injEq] at e
  obtain ⟨⟨rfl, _, rfl⟩, rfl, _, rfl⟩ := e
  obtain ⟨a, rfl, _, hc⟩ := h1.2 (by decide)
  obtain ⟨a', rfl, _, hc'⟩ := h3.2 (by decide)
  obtain ⟨_, _, _, _, us3, rest, rfl, _⟩ := h2
  have e1 := hc 0 (.int .i64 5) rfl
  have e2 := hc' 0 (.string ⟨#[97]⟩) rfl
  exact ⟨a, c, a', c', rfl, rfl, by simpa [Addr.add] using e1, by simpa [Addr.add] using e2⟩
set_option maxHeartbeats 4000000 in
set_option maxRecDepth 100000 in
theorem works_any (w : World) (hst : St w) : Calls Tryz.prog 15 #[] w fun x w' => x = .returned (.bool true) ∧ Below w.heap.size w w' := by
  obtain ⟨b0, hb0⟩ : ∃ b0, b0 = w.heap.size := ⟨_, rfl⟩
  obtain ⟨wz, hwz⟩ : ∃ wz, wz = ((w.alloc (.cells #[.string ⟨#[98]⟩, .string ⟨#[97]⟩] 9)).alloc (.cells #[.int .i64 3, .int .i64 (-1), .string ⟨#[]⟩, .slice none 0 0, .slice none 0 0, .int .i64 4, .int .i64 0, .string ⟨#[34, 10]⟩, .slice none 0 0, .slice none 0 0] 25)).alloc (.cells #[.int .i64 6, .int .i64 0, .string ⟨#[]⟩, .slice (some ⟨w.heap.size + 1, 0, none⟩) 2 2, .slice (some ⟨w.heap.size, 0, none⟩) 2 2] 25) := ⟨_, rfl⟩
  have HK : Hid (Blk wz b0 9 #[.string ⟨#[98]⟩, .string ⟨#[97]⟩]) := Lib.hid (by rw [hwz, hb0]; exact ((Blk.new _ _ _).alloc _).alloc _)
  have HI : Hid (Blk wz (b0 + 1) 25 #[.int .i64 3, .int .i64 (-1), .string ⟨#[]⟩, .slice none 0 0, .slice none 0 0, .int .i64 4, .int .i64 0, .string ⟨#[34, 10]⟩, .slice none 0 0, .slice none 0 0]) := Lib.hid (by
    have := (Blk.new (w.alloc (.cells #[.string ⟨#[98]⟩, .string ⟨#[97]⟩] 9)) 25 #[.int .i64 3, .int .i64 (-1), .string ⟨#[]⟩, .slice none 0 0, .slice none 0 0, .int .i64 4, .int .i64 0, .string ⟨#[34, 10]⟩, .slice none 0 0, .slice none 0 0]).alloc (.cells #[.int .i64 6, .int .i64 0, .string ⟨#[]⟩, .slice (some ⟨w.heap.size + 1, 0, none⟩) 2 2, .slice (some ⟨w.heap.size, 0, none⟩) 2 2] 25)
    rw [hwz, hb0]; simpa using this)
  have HV : Hid (Blk wz (b0 + 1 + 1) 25 #[.int .i64 6, .int .i64 0, .string ⟨#[]⟩, .slice (some ⟨b0 + 1, 0, none⟩) 2 2, .slice (some ⟨b0, 0, none⟩) 2 2]) := Lib.hid (by
    have := Blk.new ((w.alloc (.cells #[.string ⟨#[98]⟩, .string ⟨#[97]⟩] 9)).alloc (.cells #[.int .i64 3, .int .i64 (-1), .string ⟨#[]⟩, .slice none 0 0, .slice none 0 0, .int .i64 4, .int .i64 0, .string ⟨#[34, 10]⟩, .slice none 0 0, .slice none 0 0] 25)) 25 #[.int .i64 6, .int .i64 0, .string ⟨#[]⟩, .slice (some ⟨w.heap.size + 1, 0, none⟩) 2 2, .slice (some ⟨w.heap.size, 0, none⟩) 2 2]
    rw [hwz, hb0]; simpa using this)
  have HZ : Hid (Below w.heap.size w wz ∧ w.heap.size = b0) := Lib.hid (by rw [hwz, hb0]; exact ⟨(((Below.refl _ _).alloc (Nat.le_refl _) _).alloc (by simp) _).alloc (by simp; omega) _, rfl⟩)
  have HTV : Hid (TV encJ wz (· < wz.heap.size) wkH wkK (jcells wkH (.slice (some ⟨b0 + 1, 0, none⟩) 2 2) (.slice (some ⟨b0, 0, none⟩) 2 2))) := Lib.hid (by
    refine ⟨some ⟨b0 + 1, 0, none⟩, 2, some ⟨b0, 0, none⟩, 2, _, rfl, by decide, ⟨by decide, fun h => by cases h⟩, RdS.of_reads (Reads.of_block HI.out rfl), ?_, RdS.of_reads (Reads.of_block (n := 2) HK.out rfl)⟩
    exact ⟨none, 0, none, 0, [], _, rfl, by decide, ⟨by decide, fun h => by cases h⟩, RdS.none_, rfl, RdS.none_, none, 0, none, 0, [], [], rfl, by decide, ⟨by decide, fun h => by cases h⟩, RdS.none_, rfl, RdS.none_, rfl⟩)
  have HST := Lib.hid hst
  have HPR := Lib.hid (print_any wkH wkK _ _ _ wz wk_okh.1 wk_okh.2 HTV.out (fun b hb => hb) (hst.below HZ.out.1) (fun _ => by rw [wk_form]; decide))
  clear hst
  go_enter Tryz.func15, Tryz.ntmps15
  go_wp2_with fail
  rw [← hwz, ← hb0]
  clear hwz hb0
  refine HPR.out.mono ?_
  rintro x w1 ⟨hb1, hx⟩
  rw [wk_printed, wk_form] at hx
  obtain rfl : x = .returned (.tuple #[.string ⟨wkF.toArray⟩, .nilIface]) := by
    rcases hx with ⟨_, h⟩ | ⟨h, _⟩
    · exact h
    · exact absurd rfl h
  clear hx
  have HB1 : Hid (Below wz.heap.size wz w1) := Lib.hid hb1
  have HZ1 : Hid (Below w.heap.size w w1) := Lib.hid (HZ.out.1.trans (hb1.mono HZ.out.1.size))
  have HP1 := Lib.hid (parse_any [32, 123, 32, 34, 97, 34, 32, 58, 32, 91, 32, 93, 32, 125, 32] w1 (HST.out.below HZ1.out))
  clear hb1 HPR
  unfold wkF
  go_wp2_with fail
  refine HP1.out.mono ?_
  rintro x w2 hx
  unfold PaPost at hx
  rw [wk_parse] at hx
  obtain ⟨iv, kv, bs, rfl, hot, _, hb2⟩ := hx
  obtain ⟨a, c, a', c', rfl, rfl, r1, r2⟩ := wk_read hot
  have HR1 := Lib.hid r1
  have HR2 := Lib.hid r2
  have HLT : Hid (a.block < w2.heap.size ∧ a'.block < w2.heap.size) := Lib.hid (by
    constructor
    · rcases Nat.lt_or_ge a.block w2.heap.size with h | h
      · exact h
      · simp [World.cell?, Array.getElem?_eq_none h] at r1
    · rcases Nat.lt_or_ge a'.block w2.heap.size with h | h
      · exact h
      · simp [World.cell?, Array.getElem?_eq_none h] at r2)
  have HB2 : Hid (Below wz.heap.size wz w2) := Lib.hid (HB1.out.trans (hb2.mono HB1.out.size))
  clear hot hb2 r1 r2 HP1 HB1 HZ1
  obtain ⟨w3, hw3⟩ : ∃ w3, w3 = w2.alloc (.cells #[.int .i64 6, .int .i64 0, .string ⟨#[]⟩, .slice (some a) 1 c, .slice (some a') 1 c'] 25) := ⟨_, rfl⟩
  have HQ3 : Hid (Blk w3 w2.heap.size 25 #[.int .i64 6, .int .i64 0, .string ⟨#[]⟩, .slice (some a) 1 c, .slice (some a') 1 c']) := Lib.hid (by rw [hw3]; exact Blk.new _ _ _)
  have HB3 : Hid (Below w2.heap.size w2 w3) := Lib.hid (by rw [hw3]; exact (Below.refl _ _).alloc (Nat.le_refl _) _)
  have HZ3 : Hid (Below w.heap.size w w3) := Lib.hid (HZ.out.1.trans ((HB2.out.trans (HB3.out.mono HB2.out.size)).mono HZ.out.1.size))
  have HP2 := Lib.hid (parse_any [34, 97] w3 (HST.out.below HZ3.out))
  go_wp2_with fail
  rw [← hw3]
  clear hw3
  refine HP2.out.mono ?_
  rintro x w4 hx
  unfold PaPost at hx
  rw [wk_bad] at hx
  obtain ⟨a0, ha, rfl, hb4⟩ := hx
  have ha2 : a0 = 2 := by simpa using ha
  subst ha2
  have HB4 : Hid (Below w2.heap.size w2 w4) := Lib.hid (HB3.out.trans (hb4.mono HB3.out.size))
  have HQ4 := Lib.hid (HQ3.out.below hb4 HQ3.out.lt)
  clear ha hb4 HP2 HB3 HQ3 HZ3
  unfold zeroJ faultV
  go_upto_region 5 with fail
  obtain ⟨w5, hw5⟩ : ∃ w5, w5 = w4.alloc (.cells #[.int .i64 0, .int .i64 0, .string .empty, .slice none 0 0, .slice none 0 0] 25) := ⟨_, rfl⟩
  have HB5 : Hid (Below w2.heap.size w2 w5) := Lib.hid (by rw [hw5]; exact HB4.out.alloc HB4.out.size _)
  have HQ5 : Hid (Blk w5 w2.heap.size 25 #[.int .i64 6, .int .i64 0, .string ⟨#[]⟩, .slice (some a) 1 c, .slice (some a') 1 c']) := Lib.hid (by rw [hw5]; exact HQ4.out.alloc _)
  rw [← hw5]
  clear hw5 HQ4 HB4
  have HBZ5 : Hid (Below wz.heap.size wz w5) := Lib.hid (HB2.out.trans (HB5.out.mono HB2.out.size))
  have HV5 := Lib.hid (HV.out.below HBZ5.out HV.out.lt)
  have v0 := HV5.out.cell 0
  have v1 := HV5.out.cell 1
  have v2 := HV5.out.cell 2
  have v3 := HV5.out.cell 3
  have v4 := HV5.out.cell 4
  have HG := Lib.hid (get_any wkH wkK _ _ [98] (· < wz.heap.size) w5 (HTV.out.kept fun p hp => HBZ5.out.cell hp) (fun b hb => by have := HBZ5.out.size; omega) (by decide) (by decide))
  go_wp2_with fail
  refine HG.out.mono ?_
  rintro x w6 hx
  unfold GPost at hx
  rw [wk_get] at hx
  obtain ⟨iv, kv, bs2, rfl, hot2, _, hb6⟩ := hx
  obtain ⟨⟨A6, c6, rfl⟩, A7, c7, rfl⟩ := ot_form hot2
  have HB6 : Hid (Below w2.heap.size w2 w6) := Lib.hid (HB5.out.trans (hb6.mono HB5.out.size))
  have HQ6 := Lib.hid (HQ5.out.below hb6 HQ5.out.lt)
  clear hot2 hb6 HG v0 v1 v2 v3 v4
  dsimp only
  obtain ⟨w7, hw7⟩ : ∃ w7, w7 = w6.alloc (.cells #[.int .i64 3, .int .i64 (-1), .string ⟨#[]⟩, .slice A6 F.nil.len c6, .slice A7 0 c7] 25) := ⟨_, rfl⟩
  have HR7 : Hid (Blk w7 w6.heap.size 25 #[.int .i64 3, .int .i64 (-1), .string ⟨#[]⟩, .slice A6 F.nil.len c6, .slice A7 0 c7]) := Lib.hid (by rw [hw7]; exact Blk.new _ _ _)
  have HB7 : Hid (Below w2.heap.size w2 w7) := Lib.hid (by rw [hw7]; exact HB6.out.alloc HB6.out.size _)
  have HQ7 : Hid (Blk w7 w2.heap.size 25 #[.int .i64 6, .int .i64 0, .string ⟨#[]⟩, .slice (some a) 1 c, .slice (some a') 1 c']) := Lib.hid (by rw [hw7]; exact HQ6.out.alloc _)
  have HZ7 : Hid (Below w.heap.size w w7) := Lib.hid (HZ.out.1.trans ((HB2.out.trans (HB7.out.mono HB2.out.size)).mono HZ.out.1.size))
  have HAT := Lib.hid (Err.at_fault 2 0 2 (by decide) (by decide) w7 (HST.out.below HZ7.out).err)
  go_wp2_with fail
  rw [← hw7]
  clear hw7
  refine HAT.out.mono ?_
  rintro x w8 ⟨rfl, hb8⟩
  have HB8 : Hid (Below w2.heap.size w2 w8) := Lib.hid (HB7.out.trans (hb8.mono HB7.out.size))
  have HQ8 := Lib.hid (HQ7.out.below hb8 HQ7.out.lt)
  have HR8 := Lib.hid (HR7.out.below hb8 HR7.out.lt)
  have HZ8 : Hid (Below w.heap.size w w8) := Lib.hid (HZ7.out.trans (hb8.mono HZ7.out.size))
  clear hb8 HB7 HQ7 HR7 HAT
  have s1 := HR8.out.cell 1
  have q0 := HQ8.out.cell 0
  have q3 := HQ8.out.cell 3
  have q4 := HQ8.out.cell 4
  have r1 := (HB8.out.cell HLT.out.1).trans HR1.out
  have r2 := (HB8.out.cell HLT.out.2).trans HR2.out
  go_wp2
  go_ret
  exact ⟨rfl, HZ8.out⟩
end Js
end Go.Proofs.YtlfeddgpfaigkaaGreatDoor
namespace Go.Proofs.YtlfeddgpfaigkaaGreatDoor
open Go.RowKit
namespace Js
theorem neq_nil (T : TypeId) (v : Value) (wx : World) : (binOp .neq 31 (.iface T v) .nilIface).run Tryz.prog wx = .ok (.bool true) wx := by kernel_rfl
set_option maxHeartbeats 4000000 in
set_option maxRecDepth 100000 in
theorem jsonForm_any (s : List UInt8) (hsl : s.length ≤ 9223372036854775807) (w : World) (hst : St w) : Calls Tryz.prog 6 #[.string ⟨s.toArray⟩] w fun x w' => x = .returned (.bool true) ∧ Below w.heap.size w w' := by
  have HST := Lib.hid hst
  have HP := Lib.hid (parse_any s w hst)
  clear hst
  have hnn := neq_nil
  go_enter Tryz.func6, Tryz.ntmps6
  go_wp2_with fail
  refine HP.out.mono ?_
  clear HP
  cases hp : parse s with
  | err no r =>
    rintro x w1 hx
    unfold PaPost at hx
    rw [hp] at hx
    obtain ⟨a, ha, rfl, hb1⟩ := hx
    obtain ⟨n1, n2, _⟩ := parse_err hp
    have HB1 := Lib.hid hb1
    clear hb1 hp
    have hal : (a : Int) ≤ (s.length : Int) := by omega
    have ha63 : a ≤ 9223372036854775807 := by omega
    unfold zeroJ faultV
    obtain ⟨w2, hw2⟩ : ∃ w2, w2 = w1.alloc (.cells #[.int .i64 0, .int .i64 0, .string .empty, .slice none 0 0, .slice none 0 0] 25) := ⟨_, rfl⟩
    have HB2 : Hid (Below w.heap.size w w2) := Lib.hid (by rw [hw2]; exact HB1.out.alloc HB1.out.size _)
    have HPL := Lib.hid (Err.place_fault no 0 a n1 (by omega) w2 (HST.out.below HB2.out).err)
    go_wp2_with fail
    rw [← hw2]
    clear hw2
    refine HPL.out.mono ?_
    rintro x w3 ⟨rfl, hb3⟩
    have HB3 : Hid (Below w.heap.size w w3) := Lib.hid (HB2.out.trans (hb3.mono HB2.out.size))
    clear hb3 HPL
    have HWK := Lib.hid (works_any w3 (HST.out.below HB3.out))
    go_wp2_with fail
    refine HWK.out.mono ?_
    rintro x w4 ⟨rfl, hb4⟩
    have HB4 : Hid (Below w.heap.size w w4) := Lib.hid (HB3.out.trans (hb4.mono HB3.out.size))
    clear hb4 HWK
    go_wp2
    go_ret
    exact ⟨rfl, HB4.out⟩
  | ok h k r =>
    rintro x w1 hx
    unfold PaPost at hx
    rw [hp] at hx
    obtain ⟨iv, kv, bs, rfl, hot, _, hb1⟩ := hx
    obtain ⟨⟨A1, c1, rfl⟩, A2, c2, rfl⟩ := ot_form hot
    obtain ⟨hok, hak⟩ := parse_okh hp
    obtain ⟨g1, g2, g3, g4, g5, g6⟩ := parse_good hp
    have HB1 := Lib.hid hb1
    have HG := Lib.hid g3
    have HL := Lib.hid g6
    have HN := Lib.hid (And.intro g4 g5)
    have HTV1 : Hid (TV encJ w1 (· ∈ bs) h k (jcells h (.slice A1 k.len c1) (.slice A2 h.keys.length c2))) := Lib.hid (hot.tr rfl).tv
    have HSS : Hid (∀ b ∈ bs, b < w1.heap.size) := Lib.hid (fun b hb => (hot.lt b hb).2)
    obtain ⟨w2, hw2⟩ : ∃ w2, w2 = w1.alloc (.cells #[.int .i64 h.kind, .int .i64 h.num, .string ⟨h.text.toArray⟩, .slice A1 k.len c1, .slice A2 h.keys.length c2] 25) := ⟨_, rfl⟩
    have hb12 : Below w1.heap.size w1 w2 := by rw [hw2]; exact (Below.refl _ _).alloc (Nat.le_refl _) _
    have HV2 : Hid (Blk w2 w1.heap.size 25 #[.int .i64 h.kind, .int .i64 h.num, .string ⟨h.text.toArray⟩, .slice A1 k.len c1, .slice A2 h.keys.length c2]) := Lib.hid (by rw [hw2]; exact Blk.new _ _ _)
    have HB2 : Hid (Below w.heap.size w w2) := Lib.hid (HB1.out.trans (hb12.mono HB1.out.size))
    have HTV2 : Hid (TV encJ w2 (· ∈ bs) h k (jcells h (.slice A1 k.len c1) (.slice A2 h.keys.length c2))) := Lib.hid (HTV1.out.kept fun p hp => hb12.cell (HSS.out _ hp))
    have HSS2 : Hid (∀ b ∈ bs, b < w2.heap.size) := Lib.hid (fun b hb => by have := HSS.out b hb; have := hb12.size; omega)
    have HPR := Lib.hid (print_any h k _ _ _ w2 hok hak HTV2.out HSS2.out (HST.out.below HB2.out) (fun _ => by omega))
    have hs4 : s.length ≤ 4194304 := g1
    clear hot hb1 hb12 HTV1 HSS g3 g4 g5 g6 hok hak g1
    go_wp2_with fail
    rw [← hw2]
    clear hw2
    refine HPR.out.mono ?_
    rintro x w3 ⟨hb3, hx⟩
    have HB23 := Lib.hid hb3
    have HB3 : Hid (Below w.heap.size w w3) := Lib.hid (HB2.out.trans (hb3.mono HB2.out.size))
    have HV3 := Lib.hid (HV2.out.below hb3 HV2.out.lt)
    clear hb3 HPR
    rcases hx with ⟨h0, rfl⟩ | ⟨h0, rfl⟩
    · have HFL : Hid ((form h k).length ≤ 4194304) := Lib.hid (by
        unfold printed at h0
        rw [if_neg (by rw [HG.out]; simp)] at h0
        by_cases hl : 4194304 < (form h k).length
        · rw [if_pos hl] at h0; cases h0
        · omega)
      obtain ⟨pa, wf1, wf2, lk⟩ := parse_again HG.out HN.out.1 HN.out.2 HFL.out
      have HGE : Hid (∀ c ∈ form h k, 32 ≤ c.toNat) := Lib.hid (form_ge h k)
      have HPA : Hid (parse (form h k) = .ok (norm h k).1 (norm h k).2 []) := Lib.hid pa
      have HWF := Lib.hid (And.intro wf1 wf2)
      have HLK := Lib.hid lk
      clear h0 pa wf1 wf2 lk hp
      generalize form h k = t at HFL HGE HPA
      go_wp2_with fail
      go_loopw [10] (fun i wr => ∃ j : Nat, j ≤ t.length ∧ i = .int .i64 j ∧ wr = w3) (fun i _ => t.length - (intOf i).toNat)
      case atStart => exact ⟨0, by omega, rfl, rfl⟩
      case round =>
        obtain ⟨j, hj, rfl, hwr⟩ := hrel
        subst hwr
        have hflb := HFL.out
        by_cases hlt : j < t.length
        · have hidx := run_index_list Tryz.underlying9 t j hlt
          have hge : 32 ≤ (t.getD j 0).toNat := HGE.out _ (by simp [List.getD, List.getElem?_eq_getElem hlt])
          generalize t.getD j 0 = c at hidx hge
          have hc32 : ((c.toNat : Int) < 32) = False := eq_false (by omega)
          go_wp2_with fail
          refine ⟨⟨j + 1, by omega, by push_cast; rfl, trivial⟩, ?_⟩
          show t.length - ((j : Int) + 1).toNat < t.length - ((j : Int)).toNat
          omega
        · have HP2 := Lib.hid (parse_any t wr (HST.out.below HB3.out))
          go_wp2_with fail
          refine HP2.out.mono ?_
          rintro x w4 hx
          unfold PaPost at hx
          rw [HPA.out] at hx
          obtain ⟨iv, kv, bs', rfl, hot, _, hb4⟩ := hx
          obtain ⟨⟨A3, c3, rfl⟩, A4, c4, rfl⟩ := ot_form hot
          have HB4 : Hid (Below w.heap.size w w4) := Lib.hid (HB3.out.trans (hb4.mono HB3.out.size))
          have HV4 := Lib.hid (HV3.out.below hb4 HV3.out.lt)
          have HTV4 : Hid (TV encJ w4 (· ∈ bs) h k (jcells h (.slice A1 k.len c1) (.slice A2 h.keys.length c2))) := Lib.hid (HTV2.out.kept fun p hp => (HB23.out.trans (hb4.mono HB23.out.size)).cell (HSS2.out _ hp))
          have HSS4 : Hid (∀ b ∈ bs, b < w4.heap.size) := Lib.hid (fun b hb => by have := HSS2.out b hb; have := HB23.out.size; have := hb4.size; omega)
          have HTN4 : Hid (TV encJ w4 (· ∈ bs') (norm h k).1 (norm h k).2 (jcells (norm h k).1 (.slice A3 (norm h k).2.len c3) (.slice A4 (norm h k).1.keys.length c4))) := Lib.hid (hot.tr rfl).tv
          have HSN4 : Hid (∀ b ∈ bs', b < w4.heap.size) := Lib.hid (fun b hb => (hot.lt b hb).2)
          clear hot hb4 HP2 HTV2 HSS2 HB23 HV3 HB3
          generalize (norm h k).1 = h' at HLK HWF HTN4 ⊢
          generalize (norm h k).2 = k' at HLK HWF HTN4 ⊢
          obtain ⟨w5, hw5⟩ : ∃ w5, w5 = w4.alloc (.cells #[.int .i64 h'.kind, .int .i64 h'.num, .string ⟨h'.text.toArray⟩, .slice A3 k'.len c3, .slice A4 h'.keys.length c4] 25) := ⟨_, rfl⟩
          have hb45 : Below w4.heap.size w4 w5 := by rw [hw5]; exact (Below.refl _ _).alloc (Nat.le_refl _) _
          have HV5 := Lib.hid (HV4.out.below hb45 HV4.out.lt)
          have HN5 : Hid (Blk w5 w4.heap.size 25 #[.int .i64 h'.kind, .int .i64 h'.num, .string ⟨h'.text.toArray⟩, .slice A3 k'.len c3, .slice A4 h'.keys.length c4]) := Lib.hid (by rw [hw5]; exact Blk.new _ _ _)
          have HB5 : Hid (Below w.heap.size w w5) := Lib.hid (HB4.out.trans (hb45.mono HB4.out.size))
          have HCL := Lib.hid (likes_any k.sz h h' k k' _ _ _ _ _ _ w5 (Nat.le_refl _) HLK.out HWF.out.1 HWF.out.2 (HTV4.out.kept fun p hp => hb45.cell (HSS4.out _ hp)) (HTN4.out.kept fun p hp => hb45.cell (HSN4.out _ hp)) (fun b hb => by have := HSS4.out b hb; have := hb45.size; omega) (fun b hb => by have := HSN4.out b hb; have := hb45.size; omega))
          clear HTV4 HSS4 HTN4 HSN4 HV4 hb45
          go_upto_region 14 with fail
          rw [← hw5]
          clear hw5
          have x0 := HV5.out.cell 0
          have x1 := HV5.out.cell 1
          have x2 := HV5.out.cell 2
          have x3 := HV5.out.cell 3
          have x4 := HV5.out.cell 4
          have y0 := HN5.out.cell 0
          have y1 := HN5.out.cell 1
          have y2 := HN5.out.cell 2
          have y3 := HN5.out.cell 3
          have y4 := HN5.out.cell 4
          go_wp2_with fail
          refine HCL.out.mono ?_
          rintro x w6 ⟨rfl, hb6⟩
          have HB6 : Hid (Below w.heap.size w w6) := Lib.hid (HB5.out.trans (hb6.mono HB5.out.size))
          clear hb6 HCL x0 x1 x2 x3 x4 y0 y1 y2 y3 y4
          have HWK := Lib.hid (works_any w6 (HST.out.below HB6.out))
          go_wp2_with fail
          refine HWK.out.mono ?_
          rintro x w7 ⟨rfl, hb7⟩
          have HB7 : Hid (Below w.heap.size w w7) := Lib.hid (HB6.out.trans (hb7.mono HB6.out.size))
          clear hb7 HWK
          go_wp2
          go_ret
          exact ⟨rfl, HB7.out⟩
    · have hl : 4194304 < (form h k).length := by
        unfold printed at h0
        rw [if_neg (by rw [HG.out]; simp)] at h0
        by_cases hl : 4194304 < (form h k).length
        · exact hl
        · rw [if_neg hl] at h0; exact absurd rfl h0
      have h5 : (printed h k).2 = 5 := by
        unfold printed
        rw [if_neg (by rw [HG.out]; simp), if_pos hl]
      rw [h5]
      have hsg : ((699050 : Int) < (s.length : Int)) = True := eq_true (by have := HL.out; omega)
      have HPLN := Lib.hid (Err.plain_errno 5 5 (by decide) (by decide) w3 (HST.out.below HB3.out).err)
      unfold errnoV
      clear h0 h5 hl
      go_wp2_with fail
      refine HPLN.out.mono ?_
      rintro x w4 ⟨rfl, hb4⟩
      have HB4 : Hid (Below w.heap.size w w4) := Lib.hid (HB3.out.trans (hb4.mono HB3.out.size))
      clear hb4 HPLN
      have HWK := Lib.hid (works_any w4 (HST.out.below HB4.out))
      go_wp2_with fail
      refine HWK.out.mono ?_
      rintro x w5 ⟨rfl, hb5⟩
      have HB5 : Hid (Below w.heap.size w w5) := Lib.hid (HB4.out.trans (hb5.mono HB4.out.size))
      clear hb5 HWK
      go_wp2
      go_ret
      exact ⟨rfl, HB5.out⟩
end Js
end Go.Proofs.YtlfeddgpfaigkaaGreatDoor
namespace Go.Proofs.YtlfeddgpfaigkaaGreatDoor
open Go.RowKit
namespace Js
theorem sumL_zip : ∀ (a b : List (List UInt8)), sumL ((a.zip b).map member) ≤ 6 * total a + 3 * a.length + sumL b
  | [], b => by simp [sumL]
  | x :: a, [] => by simp [sumL]
  | x :: a, y :: b => by
    have ih := sumL_zip a b
    have h1 := member_len (x, y)
    simp only at h1
    rw [List.zip_cons_cons, List.map_cons, sumL_cons, sumL_cons, List.length_cons]
    have e : total (x :: a) = x.length + total a := by simp [total]
    rw [e]
    omega
theorem form_one {h : Hd} {k : F} (hn : NumOk h) (hk : sumL (forms k) + 4 * k.len ≤ 30 * k.mass) : (form h k).length + 4 ≤ 30 * (1 + h.text.length + (total h.keys + h.keys.length) + k.mass) := by
  obtain ⟨n1, n2⟩ := hn
  unfold form formH
  split
  · simp only [List.length_cons, List.length_nil]; omega
  split
  · simp only [List.length_cons, List.length_nil]; omega
  split
  · simp only [List.length_cons, List.length_nil]; omega
  split
  · have : (decI h.num).length ≤ 21 := by
      unfold decI Lib.itoa
      split
      · have := dec_len (n := h.num.natAbs) (by omega); simp; omega
      · have := dec_len (n := h.num.toNat) (by omega); omega
    omega
  split
  · have := quoted_len h.text; omega
  split
  · rw [List.length_cons, List.length_append, commas_len, forms_len]
    simp only [List.length_cons, List.length_nil]
    omega
  · rw [List.length_cons, List.length_append, commas_len, List.length_map, (sortK_perm _).length_eq, List.length_zip, forms_len]
    have h1 := sumL_perm ((sortK_perm (h.keys.zip (forms k))).map member)
    have h2 := sumL_zip h.keys (forms k)
    simp only [List.length_cons, List.length_nil]
    rw [h1]
    have h3 : min h.keys.length k.len ≤ h.keys.length := Nat.min_le_left _ _
    omega
theorem forms_mass : ∀ f : F, f.All NumOk → sumL (forms f) + 4 * f.len ≤ 30 * f.mass := by
  intro f
  induction f with
  | nil => intro _; simp [forms, sumL, F.len, F.mass]
  | cons h k r ih1 ih2 =>
    intro hn
    have h1 := form_one hn.1 (ih1 hn.2.1)
    have h2 := ih2 hn.2.2
    have e : forms (.cons h k r) = form h k :: forms r := rfl
    rw [e, sumL_cons]
    simp only [F.len, F.mass]
    omega
theorem form_mass {h : Hd} {k : F} (hn : NumOk h) (hk : k.All NumOk) : (form h k).length ≤ 30 * (F.cons h k .nil).mass := by
  have := form_one hn (forms_mass k hk)
  simp only [F.mass]
  omega
set_option maxHeartbeats 4000000 in
set_option maxRecDepth 100000 in
theorem jsonBack_any (h : Hd) (k : F) (iv kv : Value) (w : World) (hm : (F.cons h k .nil).mass ≤ 1048576) (hn : NumOk h) (hkn : k.All NumOk) (htv : TV encJ w (· < w.heap.size) h k (jcells h iv kv)) (hst : St w) :
    Calls Tryz.prog 5 #[.agg #[.int .i64 h.kind, .int .i64 h.num, .string ⟨h.text.toArray⟩, iv, kv]] w fun x w' => x = .returned (.bool true) ∧ Below w.heap.size w w' := by
  obtain ⟨A1, c1, A2, c2, us, rfl, rfl, _⟩ := tv_parts htv
  have hfit := F.fit_mass (B := 1048576) (by decide) (.cons h k .nil) hm
  have HOK : Hid (Okh h ∧ k.All Okh) := Lib.hid ⟨⟨hfit.1, hn⟩, All_and hfit.2.1 hkn⟩
  have HNN := Lib.hid (And.intro hn hkn)
  have HFB : Hid ((form h k).length ≤ 1099511627776) := Lib.hid (by have := form_mass hn hkn; omega)
  obtain ⟨wz, hwz⟩ : ∃ wz, wz = w.alloc (.cells #[.int .i64 h.kind, .int .i64 h.num, .string ⟨h.text.toArray⟩, .slice A1 k.len c1, .slice A2 h.keys.length c2] 25) := ⟨_, rfl⟩
  have HBA : Hid (Blk wz w.heap.size 25 #[.int .i64 h.kind, .int .i64 h.num, .string ⟨h.text.toArray⟩, .slice A1 k.len c1, .slice A2 h.keys.length c2]) := Lib.hid (by rw [hwz]; exact Blk.new _ _ _)
  have HZ : Hid (Below w.heap.size w wz ∧ w.heap.size < wz.heap.size) := Lib.hid (by rw [hwz]; exact ⟨(Below.refl _ _).alloc (Nat.le_refl _) _, by simp⟩)
  have HTV := Lib.hid htv
  have HTVX : Hid (∀ wx, Below w.heap.size w wx → TV encJ wx (· < w.heap.size) h k (jcells h (.slice A1 k.len c1) (.slice A2 h.keys.length c2))) := Lib.hid (fun wx hb => HTV.out.kept fun p hp => hb.cell hp)
  have HST := Lib.hid hst
  have HG := Lib.hid (great_any h k _ _ (· < w.heap.size) wz hm (HTVX.out wz HZ.out.1) (fun b hb => by have := HZ.out.2; omega))
  have hnn := neq_nil
  clear hfit hn hkn htv hst hm
  go_enter Tryz.func5, Tryz.ntmps5
  go_wp2_with fail
  rw [← hwz]
  clear hwz
  refine HG.out.mono ?_
  rintro x w1 ⟨b, rfl, hb1⟩
  have HB1 := Lib.hid (HBA.out.below hb1 HBA.out.lt)
  have HW1 : Hid (Below w.heap.size w w1) := Lib.hid (HZ.out.1.trans (hb1.mono HZ.out.1.size))
  clear hb1 HG
  have d0 := HB1.out.cell 0
  have d1 := HB1.out.cell 1
  have d2 := HB1.out.cell 2
  have d3 := HB1.out.cell 3
  have d4 := HB1.out.cell 4
  cases b
  · have HPR := Lib.hid (print_any h k _ _ (· < w.heap.size) w1 HOK.out.1 HOK.out.2 (HTVX.out w1 HW1.out) (fun b hb => by have := HW1.out.size; omega) (HST.out.below HW1.out) (fun _ => HFB.out))
    go_wp2_with fail
    refine HPR.out.mono ?_
    rintro x w2 ⟨hb2, hx⟩
    have HB2 := Lib.hid (HB1.out.below hb2 HB1.out.lt)
    have HW2 : Hid (Below w.heap.size w w2) := Lib.hid (HW1.out.trans (hb2.mono HW1.out.size))
    clear hb2 HPR d0 d1 d2 d3 d4 HB1
    rcases hx with ⟨h0, rfl⟩ | ⟨h0, rfl⟩
    · have HWR : Hid (wrongs 1 h k = 0) := Lib.hid (by
        unfold printed at h0
        by_cases e : wrongs 1 h k = 0
        · exact e
        · rw [if_pos e] at h0; exact h0)
      have HFL : Hid ((form h k).length ≤ 4194304) := Lib.hid (by
        unfold printed at h0
        rw [if_neg (by rw [HWR.out]; simp)] at h0
        by_cases hl : 4194304 < (form h k).length
        · rw [if_pos hl] at h0; cases h0
        · omega)
      obtain ⟨pa, wf1, wf2, lk⟩ := parse_again HWR.out HNN.out.1 HNN.out.2 HFL.out
      obtain ⟨pn, pw⟩ := printed_norm HWR.out HNN.out.1 HNN.out.2 HFL.out
      have HPA : Hid (parse (form h k) = .ok (norm h k).1 (norm h k).2 []) := Lib.hid pa
      have HOKN := Lib.hid (parse_okh pa)
      have HWF := Lib.hid (And.intro wf1 wf2)
      have HLK := Lib.hid lk
      have HPN := Lib.hid pn
      have HFN : Hid (form (norm h k).1 (norm h k).2 = form h k) := Lib.hid (form_norm HWR.out)
      have HRI := Lib.hid (norm_rise HWR.out)
      clear h0 pa wf1 wf2 lk pn pw HWR
      generalize form h k = t at HFL HPA HFN HFB
      have HP2 := Lib.hid (parse_any t w2 (HST.out.below HW2.out))
      go_wp2_with fail
      refine HP2.out.mono ?_
      rintro x w3 hx
      unfold PaPost at hx
      rw [HPA.out] at hx
      obtain ⟨iv, kv, bs, rfl, hot, _, hb3⟩ := hx
      obtain ⟨⟨A3, c3, rfl⟩, A4, c4, rfl⟩ := ot_form hot
      have HW3 : Hid (Below w.heap.size w w3) := Lib.hid (HW2.out.trans (hb3.mono HW2.out.size))
      have HB3 := Lib.hid (HB2.out.below hb3 HB2.out.lt)
      have HTN3 : Hid (TV encJ w3 (· ∈ bs) (norm h k).1 (norm h k).2 (jcells (norm h k).1 (.slice A3 (norm h k).2.len c3) (.slice A4 (norm h k).1.keys.length c4))) := Lib.hid (hot.tr rfl).tv
      have HSN3 : Hid (∀ b ∈ bs, b < w3.heap.size) := Lib.hid (fun b hb => (hot.lt b hb).2)
      clear hot hb3 HP2 HB2 HPA
      generalize (norm h k).1 = h' at HLK HWF HTN3 HOKN HPN HFN HRI ⊢
      generalize (norm h k).2 = k' at HLK HWF HTN3 HOKN HPN HFN HRI ⊢
      obtain ⟨w4, hw4⟩ : ∃ w4, w4 = w3.alloc (.cells #[.int .i64 h'.kind, .int .i64 h'.num, .string ⟨h'.text.toArray⟩, .slice A3 k'.len c3, .slice A4 h'.keys.length c4] 25) := ⟨_, rfl⟩
      have hb34 : Below w3.heap.size w3 w4 := by rw [hw4]; exact (Below.refl _ _).alloc (Nat.le_refl _) _
      have HB4 := Lib.hid (HB3.out.below hb34 HB3.out.lt)
      have HN4 : Hid (Blk w4 w3.heap.size 25 #[.int .i64 h'.kind, .int .i64 h'.num, .string ⟨h'.text.toArray⟩, .slice A3 k'.len c3, .slice A4 h'.keys.length c4]) := Lib.hid (by rw [hw4]; exact Blk.new _ _ _)
      have HW4 : Hid (Below w.heap.size w w4) := Lib.hid (HW3.out.trans (hb34.mono HW3.out.size))
      have HTN4 := Lib.hid (HTN3.out.kept (w' := w4) fun p hp => hb34.cell (HSN3.out _ hp))
      have HSN4 : Hid (∀ b ∈ bs, b < w4.heap.size) := Lib.hid (fun b hb => by have := HSN3.out b hb; have := hb34.size; omega)
      have HPR2 := Lib.hid (print_any h' k' _ _ (· ∈ bs) w4 HOKN.out.1 HOKN.out.2 HTN4.out HSN4.out (HST.out.below HW4.out) (fun _ => by rw [HFN.out]; have := HFL.out; omega))
      clear HB3 HTN3 HSN3 hb34
      go_upto_region 7 with fail
      rw [← hw4]
      clear hw4
      have y0 := HN4.out.cell 0
      have y1 := HN4.out.cell 1
      have y2 := HN4.out.cell 2
      have y3 := HN4.out.cell 3
      have y4 := HN4.out.cell 4
      go_wp2_with fail
      refine HPR2.out.mono ?_
      rintro x w5 ⟨hb5, hx⟩
      rw [HPN.out] at hx
      obtain rfl : x = .returned (.tuple #[.string ⟨(form h' k').toArray⟩, .nilIface]) := by
        rcases hx with ⟨_, e⟩ | ⟨e, _⟩
        · exact e
        · exact absurd rfl e
      rw [HFN.out]
      have HB5 := Lib.hid (HB4.out.below hb5 HB4.out.lt)
      have HN5 := Lib.hid (HN4.out.below hb5 HN4.out.lt)
      have HW5 : Hid (Below w.heap.size w w5) := Lib.hid (HW4.out.trans (hb5.mono HW4.out.size))
      have HTN5 := Lib.hid (HTN4.out.kept (w' := w5) fun p hp => hb5.cell (HSN4.out _ hp))
      have HSN5 : Hid (∀ b ∈ bs, b < w5.heap.size) := Lib.hid (fun b hb => by have := HSN4.out b hb; have := hb5.size; omega)
      clear hb5 hx HPR2 HB4 HN4 HTN4 HSN4 y0 y1 y2 y3 y4
      have HCL := Lib.hid (likes_any k.sz h h' k k' _ _ _ _ _ _ w5 (Nat.le_refl _) HLK.out HWF.out.1 HWF.out.2 (HTVX.out w5 HW5.out) HTN5.out (fun b hb => by have := HW5.out.size; omega) HSN5.out)
      have x0 := HB5.out.cell 0
      have x1 := HB5.out.cell 1
      have x2 := HB5.out.cell 2
      have x3 := HB5.out.cell 3
      have x4 := HB5.out.cell 4
      have y0 := HN5.out.cell 0
      have y1 := HN5.out.cell 1
      have y2 := HN5.out.cell 2
      have y3 := HN5.out.cell 3
      have y4 := HN5.out.cell 4
      go_wp2_with fail
      refine HCL.out.mono ?_
      rintro x w6 ⟨rfl, hb6⟩
      have HN6 := Lib.hid (HN5.out.below hb6 HN5.out.lt)
      have HW6 : Hid (Below w.heap.size w w6) := Lib.hid (HW5.out.trans (hb6.mono HW5.out.size))
      have HRC := Lib.hid (risesW_any k'.sz h' k' _ _ (· ∈ bs) w6 (Nat.le_refl _) HRI.out.1 HRI.out.2 (HTN5.out.kept fun p hp => hb6.cell (HSN5.out _ hp)) (fun b hb => by have := HSN5.out b hb; have := hb6.size; omega))
      clear hb6 HCL x0 x1 x2 x3 x4 y0 y1 y2 y3 y4
      have y0 := HN6.out.cell 0
      have y1 := HN6.out.cell 1
      have y2 := HN6.out.cell 2
      have y3 := HN6.out.cell 3
      have y4 := HN6.out.cell 4
      go_wp2_with fail
      refine HRC.out.mono ?_
      rintro x w7 ⟨rfl, hb7⟩
      have HW7 : Hid (Below w.heap.size w w7) := Lib.hid (HW6.out.trans (hb7.mono HW6.out.size))
      clear hb7 HRC y0 y1 y2 y3 y4
      have HWK := Lib.hid (works_any w7 (HST.out.below HW7.out))
      go_wp2_with fail
      refine HWK.out.mono ?_
      rintro x w8 ⟨rfl, hb8⟩
      have HW8 : Hid (Below w.heap.size w w8) := Lib.hid (HW7.out.trans (hb8.mono HW7.out.size))
      clear hb8 HWK
      go_wp2
      go_ret
      exact ⟨rfl, HW8.out⟩
    · have HWK := Lib.hid (works_any w2 (HST.out.below HW2.out))
      unfold errnoV
      clear h0
      go_wp2_with fail
      refine HWK.out.mono ?_
      rintro x w3 ⟨rfl, hb3⟩
      have HW3 : Hid (Below w.heap.size w w3) := Lib.hid (HW2.out.trans (hb3.mono HW2.out.size))
      clear hb3 HWK
      go_wp2
      go_ret
      exact ⟨rfl, HW3.out⟩
  · go_wp2
    go_ret
    exact ⟨rfl, HW1.out⟩
end Js
end Go.Proofs.YtlfeddgpfaigkaaGreatDoor
