/-
  The walks of stratalaw15's closed statement ExpandKnown: its variables, the examples, all short texts, each byte in each place, sizes, braces in one another.
-/
import Derived.Test.YtnmnhnhlggbijaaDoorExPl
import Derived.Test.YtnmnhnhlggbijaaDoorExN
import Derived.StillTailTactics
import Derived.Deep.RegionHeld3
namespace Go.Proofs.YtnmnhnhlggbijaaDoor
open Go.RowKit Err
namespace Exp
open T

def varsL : List (List UInt8 × List UInt8) := [([65], [111, 108, 100]), ([66], []), ([68], [36, 65, 32, 39, 113, 39]), ([65], [120]), ([], [110, 111, 110, 101]), ([49], [111, 110, 101])]
def shownA : List (List UInt8 × List UInt8) := [([97, 36, 65, 45, 36, 123, 65, 125, 98], [97, 120, 45, 120, 98]), ([36, 65, 66], []), ([36, 65, 46, 66], [120, 46, 66]), ([36, 123, 65, 125, 66], [120, 66]), ([36, 123, 66, 58, 45, 121, 125], [121]), ([36, 123, 67, 58, 45, 121, 125], [121]), ([36, 123, 65, 58, 45, 121, 125], [120]), ([36, 123, 65, 58, 43, 121, 125], [121]), ([36, 123, 67, 58, 43, 121, 125], []), ([36, 123, 67, 58, 45, 97, 36, 123, 65, 125, 98, 125, 99], [97, 120, 98, 99]), ([36, 123, 67, 58, 45, 34, 125, 34, 125], [125]), ([36, 123, 67, 58, 45, 92, 125, 125], [125]), ([36, 123, 65, 58, 43, 36, 123, 67, 58, 45, 122, 125, 125], [122]), ([39, 36, 65, 32, 34, 39], [36, 65, 32, 34]), ([34, 36, 65, 32, 39, 34], [120, 32, 39]), ([34, 92, 36, 65, 32, 92, 34, 32, 92, 92, 32, 92, 120, 34], [36, 65, 32, 34, 32, 92, 32, 92, 120]), ([92, 36, 65, 92, 32, 98, 92, 39], [36, 65, 32, 98, 39]), ([97, 34, 34, 98, 39, 39], [97, 98]), ([36, 68], [36, 65, 32, 39, 113, 39]), ([34, 36, 68, 34], [36, 65, 32, 39, 113, 39]), ([36], [36]), ([36, 36, 65], [36, 120]), ([36, 49], [36, 49]), ([97, 125, 98], [97, 125, 98]), ([92], [92]), ([], [])]
def shownB : List (List UInt8 × Nat) := [([39, 97], 18), ([34, 97], 18), ([34, 97, 92, 34], 18), ([36, 123], 4), ([36, 123, 65], 4), ([36, 123, 49, 125], 4), ([36, 123, 125], 4), ([36, 123, 65, 58, 125], 4), ([36, 123, 65, 45, 98, 125], 4), ([36, 123, 65, 58, 45, 98], 4), ([34, 36, 123, 65], 4), ([36, 123, 65, 58, 45, 34, 98], 18), ([36, 123, 65, 58, 45, 39, 98, 125, 39], 4), ([36, 123, 65, 58, 45, 36, 123, 125, 39], 4)]
theorem varsLe : PxLe 140737488355328 varsL := by unfold PxLe varsL; simp
theorem shown_a (k : Nat) (h : k < 26) : ∃ O, Rd 92 .plain (shownA.getD k ([], [])).1 O ∧ told (valOf varsL) O = ((shownA.getD k ([], [])).2, 0) :=
  rd_chk (n := 60) _ ((show ∀ k : Fin 26, (rd 92 60 .plain (shownA.getD k.val ([], [])).1).map (told (valOf varsL)) = some ((shownA.getD k.val ([], [])).2, 0) by decide +kernel) ⟨k, h⟩)
theorem shown_b (k : Nat) (h : k < 14) : ∃ O, Rd 92 .plain (shownB.getD k ([], 0)).1 O ∧ told (valOf varsL) O = ([], (shownB.getD k ([], 0)).2) :=
  rd_chk (n := 60) _ ((show ∀ k : Fin 14, (rd 92 60 .plain (shownB.getD k.val ([], 0)).1).map (told (valOf varsL)) = some ([], (shownB.getD k.val ([], 0)).2) by decide +kernel) ⟨k, h⟩)
theorem shown_len (k : Nat) (h : k < 26) : (shownA.getD k ([], [])).1.length ≤ 1000 :=
  (show ∀ k : Fin 26, (shownA.getD k.val ([], [])).1.length ≤ 1000 by decide +kernel) ⟨k, h⟩
theorem shown_lenb (k : Nat) (h : k < 14) : (shownB.getD k ([], 0)).1.length ≤ 1000 ∧ (shownB.getD k ([], 0)).2 ≤ 32 :=
  (show ∀ k : Fin 14, (shownB.getD k.val ([], 0)).1.length ≤ 1000 ∧ (shownB.getD k.val ([], 0)).2 ≤ 32 by decide +kernel) ⟨k, h⟩

/-- What lay below stands. -/
def Kn (w wx : World) : Prop := Below w.heap.size w wx
theorem Kn.refl (w : World) : Kn w w := Below.refl _ _
theorem Kn.below {w wx : World} (h : Kn w wx) : Below w.heap.size w wx := h
theorem Kn.then {w wx wy : World} (h : Kn w wx) (h2 : Below wx.heap.size wx wy) : Kn w wy := Below.trans h (h2.mono h.size)
theorem Kn.drewN {w wx : World} (h : Kn w wx) (n : Nat) : Kn w (wx.drewN n) := below_drewN h n
theorem Kn.drew {w wx : World} (h : Kn w wx) : Kn w wx.drew := below_drewN h 1
theorem Kn.alloc {w wx : World} (h : Kn w wx) (o : Obj) : Kn w (wx.alloc o) := Below.alloc h h.size o
theorem Kn.tab {w wx : World} (h : Kn w wx) (hg : ErrTab w) : ErrTab wx := errTab_below hg h (errTab_lt hg)
/-- The variables lie there. -/
def VR (w : World) (b : Nat) : Prop := Reads w w.heap.size 2 (some ⟨b, 0, none⟩) 6 (px varsL)
def VarsPost (w wx : World) (x : Ending) (w' : World) : Prop := ∃ b, x = .returned (.slice (some ⟨b, 0, none⟩) 6 6) ∧ VR w' b ∧ Kn w w' ∧ Kn wx w'
theorem vars_k {w wx : World} (h : Kn w wx) : Calls Tryd.prog 32 #[] wx (VarsPost w wx) := by
  have H := Lib.hid h
  clear h
  go_enter Tryd.func32, Tryd.ntmps32
  go_wp2
  go_ret
  exact ⟨wx.heap.size, rfl, Reads.of_block (heap_alloc_new wx _) rfl, H.out.alloc _, (Kn.refl wx).alloc _⟩
theorem bytes_eta (s : ByteArray) : ∃ l : List UInt8, s = ⟨l.toArray⟩ := ⟨s.data.toList, by simp⟩
theorem u8_of {c : Int} (h0 : 0 ≤ c) (h1 : c < 256) : ∃ u : UInt8, c = u.toNat := ⟨UInt8.ofNat c.toNat, by simp; omega⟩
def TruePost (w wx : World) (x : Ending) (w' : World) : Prop := x = .returned (.bool true) ∧ Kn w w' ∧ Kn wx w'
theorem words_k {w wx : World} {b : Nat} (s : ByteArray) (c : Int) (h0 : 0 ≤ c) (h1 : c < 256) (hg : ErrTab w) (h : Kn w wx) (hv : VR wx b) :
    Calls Tryd.prog 3 #[.string s, .int .u8 c, .slice (some ⟨b, 0, none⟩) 6 6] wx (TruePost w wx) := by
  obtain ⟨l, rfl⟩ := bytes_eta s
  obtain ⟨u, rfl⟩ := u8_of h0 h1
  exact (expandWords_any l u _ _ _ _ wx hv varsLe (h.tab hg)).mono fun _ _ ⟨h1, h2⟩ => ⟨h1, h.then h2, h2⟩
theorem docs_k {w wx : World} {b : Nat} (s : ByteArray) (c : Int) (h0 : 0 ≤ c) (h1 : c < 256) (hg : ErrTab w) (h : Kn w wx) (hv : VR wx b) :
    Calls Tryd.prog 4 #[.string s, .int .u8 c, .slice (some ⟨b, 0, none⟩) 6 6] wx (TruePost w wx) := by
  obtain ⟨l, rfl⟩ := bytes_eta s
  obtain ⟨u, rfl⟩ := u8_of h0 h1
  exact (expandDocs_any l u _ _ _ _ wx hv varsLe (h.tab hg)).mono fun _ _ ⟨h1, h2⟩ => ⟨h1, h.then h2, h2⟩
theorem names_k {w wx : World} (s : ByteArray) (c : Int) (h0 : 0 ≤ c) (h1 : c < 256) (h : Kn w wx) :
    Calls Tryd.prog 33 #[.string s, .int .u8 c] wx (TruePost w wx) := by
  obtain ⟨l, rfl⟩ := bytes_eta s
  obtain ⟨u, rfl⟩ := u8_of h0 h1
  exact (expandNames_any l u wx).mono fun _ _ ⟨h1, h2⟩ => ⟨h1, h.then h2, h2⟩
/-- With a list of pairs that lies there, or none. -/
theorem words_p {w wx : World} {A : Option Addr} {n c' : Nat} {l : List (List UInt8 × List UInt8)} (s : ByteArray) (c : Int) (h0 : 0 ≤ c) (h1 : c < 256) (hg : ErrTab w) (h : Kn w wx) (hv : Reads wx wx.heap.size 2 A n (px l)) (hl : PxLe 140737488355328 l) :
    Calls Tryd.prog 3 #[.string s, .int .u8 c, .slice A n c'] wx (TruePost w wx) := by
  obtain ⟨t, rfl⟩ := bytes_eta s
  obtain ⟨u, rfl⟩ := u8_of h0 h1
  exact (expandWords_any t u _ _ _ _ wx hv hl (h.tab hg)).mono fun _ _ ⟨h1, h2⟩ => ⟨h1, h.then h2, h2⟩
theorem docs_p {w wx : World} {A : Option Addr} {n c' : Nat} {l : List (List UInt8 × List UInt8)} (s : ByteArray) (c : Int) (h0 : 0 ≤ c) (h1 : c < 256) (hg : ErrTab w) (h : Kn w wx) (hv : Reads wx wx.heap.size 2 A n (px l)) (hl : PxLe 140737488355328 l) :
    Calls Tryd.prog 4 #[.string s, .int .u8 c, .slice A n c'] wx (TruePost w wx) := by
  obtain ⟨t, rfl⟩ := bytes_eta s
  obtain ⟨u, rfl⟩ := u8_of h0 h1
  exact (expandDocs_any t u _ _ _ _ wx hv hl (h.tab hg)).mono fun _ _ ⟨h1, h2⟩ => ⟨h1, h.then h2, h2⟩
theorem plain_p {w wx : World} {A : Option Addr} {n c' : Nat} {l : List (List UInt8 × List UInt8)} (s : ByteArray) (c : Int) (h0 : 0 ≤ c) (h1 : c < 256) (hg : ErrTab w) (h : Kn w wx) (hv : Reads wx wx.heap.size 2 A n (px l)) (hl : PxLe 140737488355328 l) :
    Calls Tryd.prog 5 #[.string s, .int .u8 c, .slice A n c'] wx (TruePost w wx) := by
  obtain ⟨t, rfl⟩ := bytes_eta s
  obtain ⟨u, rfl⟩ := u8_of h0 h1
  exact (expandPlain_any t u _ _ _ _ wx hv hl (h.tab hg)).mono fun _ _ ⟨h1, h2⟩ => ⟨h1, h.then h2, h2⟩
/-- The call of Word that an example makes. -/
def WordPost (s : List UInt8) (no : Nat) (w wx : World) (x : Ending) (w' : World) : Prop := x = .returned (.tuple #[.string ⟨s.toArray⟩, errV no]) ∧ Kn w w' ∧ Kn wx w'
theorem word_k {w wx : World} {b : Nat} {s v : List UInt8} {no : Nat} (hs : s.length ≤ 1000) (hO : ∃ O, Rd 92 .plain s O ∧ told (valOf varsL) O = (v, no)) (h : Kn w wx) (hv : VR wx b) :
    Calls Tryd.prog 10 #[.string ⟨s.toArray⟩, .int .u8 92, .slice (some ⟨b, 0, none⟩) 6 6] wx (WordPost v no w wx) := by
  obtain ⟨O, h1, h2⟩ := hO
  refine (word_any s 92 _ 6 6 varsL O wx (by omega) (by omega) hv varsLe h1).mono fun x w' hp => ?_
  obtain ⟨h3, h4⟩ := hp
  rw [h2] at h3
  exact ⟨h3, h.then h4, h4⟩
theorem works_k {w wx : World} (h : Kn w wx) : Calls Tryd.prog 13 #[] wx (TruePost w wx) := (works_any wx).mono fun _ _ ⟨h1, h2⟩ => ⟨h1, h.then h2, h2⟩
theorem plain_k {w wx : World} (no : Nat) (h : no ≤ 32) (hg : ErrTab w) (hk : Kn w wx) : Calls Tryd.prog 11 #[errV no, .int .i64 no] wx (TruePost w wx) :=
  (plain_errV no h wx (hk.tab hg)).mono fun _ _ ⟨h1, h2⟩ => ⟨h1, hk.then h2, h2⟩
/-- Texts of at most so many bytes. -/
def SRow (n : Nat) (xs : List Value) : Prop := ∀ x ∈ xs, ∃ b : ByteArray, x = .string b ∧ b.size ≤ n
theorem SRow.at_ {w : World} {B m n k : Nat} {A : Option Addr} {xs : List Value} (hs : SRow m xs) (h : Reads w B 1 A n xs) (hk : k < n) : ∃ ad b, A = some ad ∧ ad.block < B ∧ b.size ≤ m ∧ w.cell? (ad.add k) = some (.string b) := by
  obtain ⟨ad, u, h1, h2, h3, h4⟩ := h.at_ hk
  obtain ⟨b, rfl, hb⟩ := hs u (List.mem_of_getElem? h3)
  exact ⟨ad, b, h1, h2, hb, h4⟩
theorem px_two (a b c d : ByteArray) : px [(a.data.toList, b.data.toList), (c.data.toList, d.data.toList)] = [.string a, .string b, .string c, .string d] := by simp [px]
end Exp
end Go.Proofs.YtnmnhnhlggbijaaDoor
