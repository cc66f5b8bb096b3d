/-
  The walk of stratalaw03.works at this seat's translation: sums and pieces that are known.
-/
import Derived.Test.YtgjelinnpcekmaaGreatDoorShaN
import Derived.Test.YtgjelinnpcekmaaGreatDoorPcsB
import Derived.Test.YtgjelinnpcekmaaGreatDoorJH
namespace Go.Proofs.YtgjelinnpcekmaaGreatDoor
open Go.RowKit Sha Plain

theorem KTab.lt {w : World} (h : KTab w) : 1 < w.heap.size := block_lt_of_cell (h 0 (by omega))
theorem KTab.below {w w' : World} (hk : KTab w) (hb : Below w.heap.size w w') : KTab w' := ktab_below hk hb hk.lt
theorem add_zero_addr (a : Addr) : a.add 0 = a := by simp [Addr.add]
def abcT : List UInt8 := [115, 104, 97, 50, 53, 54, 58, 98, 97, 55, 56, 49, 54, 98, 102, 56, 102, 48, 49, 99, 102, 101, 97, 52, 49, 52, 49, 52, 48, 100, 101, 53, 100, 97, 101] ++ [50, 50, 50, 51, 98, 48, 48, 51, 54, 49, 97, 51, 57, 54, 49, 55, 55, 97, 57, 99, 98, 52, 49, 48, 102, 102, 54, 49, 102, 50, 48, 48, 49, 53, 97, 100]
theorem abc_known : digText (Sha.digest 32 [97, 98, 99]) = abcT := by decide +kernel
theorem abc_two : HS.sum ((init.bytes [97]).bytes [98, 99]) = sha [97, 98, 99] := by rw [← HS.bytes_append]; exact HS.sum_text _
theorem two_known : pieces [[97, 98], []] = [50, 58, 97, 98, 48, 58] := by
  rw [pieces_cons, pieces_cons, pieces_nil]; unfold enc; rw [dec_small (by simp), dec_small (by simp)]; rfl
set_option maxHeartbeats 8000000 in
set_option maxRecDepth 100000 in
theorem works_any (w : World) (hk : KTab w) (ht : Tab10 w) :
    Calls Tryz.prog 11 #[] w fun e w' => e = .returned (.bool true) ∧ Below w.heap.size w w' := by
  have HK := Lib.hid hk
  have HT := Lib.hid ht
  clear hk ht
  go_enter Tryz.func11, Tryz.ntmps11
  go_wp2_with fail
  refine (new_any 32 w).mono ?_
  rintro e w1 ⟨rfl, hx1, hb1⟩
  have HX1 := Lib.hid hx1
  have HB1 := Lib.hid hb1
  clear hx1 hb1
  go_wp2_with fail
  refine (write_any w.heap.size _ init [97] w1 HX1.out (HK.out.below HB1.out) (by have := HK.out.lt; have := HB1.out.size; omega) (by have := HK.out.lt; omega) (by simp [init])).mono ?_
  rintro e w2 ⟨rfl, hx2, hg2⟩
  have HX2 := Lib.hid hx2
  have HB2 := Lib.hid (HB1.out.grown hg2 HB1.out.size (by intro k hk; injection hk with hk; omega))
  clear hx2 hg2 HX1 HB1
  go_wp2_with fail
  refine (write_any w.heap.size _ _ [98, 99] w2 HX2.out (HK.out.below HB2.out) (by have := HK.out.lt; have := HB2.out.size; omega) (by have := HK.out.lt; omega) (by rw [HS.bytes_n]; simp [init])).mono ?_
  rintro e w3 ⟨rfl, hx3, hg3⟩
  have HX3 := Lib.hid hx3
  have HB3 := Lib.hid (HB2.out.grown hg3 HB2.out.size (by intro k hk; injection hk with hk; omega))
  clear hx3 hg3 HX2 HB2
  have HC := Lib.hid (Cut_pieces [[97, 98], []] (by simp [total]))
  rw [two_known] at HC
  go_wp2_with fail
  refine (HC.out w3).mono ?_
  rintro e w4 ⟨A, c, rfl, hr4, hb4⟩
  have HX4 := Lib.hid (HX3.out.below hb4 HX3.out.lt)
  have HB4 := Lib.hid (HB3.out.trans (hb4.mono HB3.out.size))
  have HR4 := Lib.hid hr4
  clear hr4 hb4 HX3 HB3
  go_wp2_with fail
  refine (hsum_any w.heap.size (width 32) _ w4 HX4.out (HK.out.below HB4.out) (HK.out.below HB4.out).lt (width_le 32).2 (by rw [HS.bytes_n, HS.bytes_n]; simp [init])).mono ?_
  rintro e w5 ⟨rfl, hb5⟩
  have HB5 := Lib.hid (HB4.out.trans (hb5.mono HB4.out.size))
  have HR5 := Lib.hid ((HR4.out.below hb5).more hb5.size)
  clear hb5 HR4 HB4 HX4
  rw [abc_two]
  have HTX := Lib.hid (Text_any (Sha.digest 32 [97, 98, 99]) (Sha.digest_length _ _))
  rw [abc_known] at HTX
  go_wp2_with fail
  refine (HTX.out w5).mono ?_
  rintro e w6 ⟨rfl, hb6⟩
  have HB6 := Lib.hid (HB5.out.trans (hb6.mono HB5.out.size))
  have HR6 := Lib.hid ((HR5.out.below hb6).more hb6.size)
  clear hb6 HR5 HB5
  go_wp2_with fail
  refine (dsum_any 32 [97, 98, 99] w6 (HK.out.below HB6.out) (HK.out.below HB6.out).lt (by simp)).mono ?_
  rintro e w7 ⟨rfl, hb7⟩
  have HB7 := Lib.hid (HB6.out.trans (hb7.mono HB6.out.size))
  have HR7 := Lib.hid ((HR6.out.below hb7).more hb7.size)
  clear hb7 HR6 HB6
  go_wp2_with fail
  refine (HTX.out w7).mono ?_
  rintro e w8 ⟨rfl, hb8⟩
  have HB8 := Lib.hid (HB7.out.trans (hb8.mono HB7.out.size))
  have HR8 := Lib.hid ((HR7.out.below hb8).more hb8.size)
  clear hb8 HR7 HB7
  have HP := Lib.hid (fun (A : Option Addr) (n c : Nat) (wx : World) (hr : Reads wx wx.heap.size 1 A n (tx [[97, 98], []])) => Pieces_any A n c [[97, 98], []] wx hr (by rw [two_known]; simp))
  rw [two_known] at HP
  go_wp2_with fail
  refine (HP.out _ _ _ _ (Reads.of_block (heap_alloc_new w8 _) rfl) (HT.out.below (HB8.out.alloc HB8.out.size _) HT.out.lt)).mono ?_
  rintro e w9 ⟨rfl, hb9⟩
  have HB9 := Lib.hid ((HB8.out.alloc HB8.out.size _).trans (hb9.mono (by have := HB8.out.size; simp; omega)))
  have hr9 := HR8.out.below ((Below.refl w8.heap.size w8).alloc (Nat.le_refl _) _ |>.trans (hb9.mono (by simp)))
  obtain ⟨ad, rfl, _, hc⟩ := hr9.2 (by simp)
  have c0 : w9.cell? ad = some (.string ⟨#[97, 98]⟩) := by have := hc 0 (.string ⟨#[97, 98]⟩) rfl; rwa [add_zero_addr] at this
  have c1 : w9.cell? ⟨ad.block, ad.off + 1, none⟩ = some (.string ⟨#[]⟩) := hc 1 (.string ⟨#[]⟩) rfl
  clear hb9 hr9 hc HR8 HB8
  go_wp2
  go_ret
  exact ⟨rfl, HB9.out⟩
end Go.Proofs.YtgjelinnpcekmaaGreatDoor
