/-
  For the walk of stratalaw03's closed statement DigestKnown: the tables of all layers together; each statement's call, where they lie.
-/
import Derived.Test.YtgjelinnpcekmaaGreatDoorDigS
import Derived.Test.YtgjelinnpcekmaaGreatDoorDigW
import Derived.Test.YtgjelinnpcekmaaGreatDoorDigP
import Derived.Test.YtgjelinnpcekmaaGreatDoorDigH
import Derived.Test.YtgjelinnpcekmaaGreatDoorDigR
import Derived.Test.YtgjelinnpcekmaaGreatDoorDigC
import Derived.Test.YtgjelinnpcekmaaGreatDoorDigL
import Derived.Test.YtgjelinnpcekmaaGreatDoorDigX
import Derived.Test.YtgjelinnpcekmaaGreatDoorDigY
import Derived.Test.YtgjelinnpcekmaaGreatDoorPcsB
import Derived.Test.YtgjelinnpcekmaaGreatDoorDigT
import Derived.IntWalk
import Derived.Deep.RegionWith
import Derived.Deep.RegionHeld3
namespace Go.Proofs.YtgjelinnpcekmaaGreatDoor
open Go.RowKit Err Plain Sha
namespace DK

/-- The tables lie there. -/
structure Tabs (w : World) : Prop where
  k : KTab w
  r : RTab w
  b : BTab w
  t : Tab10 w
  e : ErrTab w
/-- What lay below stands. -/
def Kn (w wx : World) : Prop := Below w.heap.size w wx
theorem Kn.refl (w : World) : Kn w w := Below.refl _ _
theorem Kn.then {w wx wy : World} (h : Kn w wx) (h2 : Below wx.heap.size wx wy) : Kn w wy := Below.trans h (h2.mono h.size)
theorem Kn.drewN {w wx : World} (h : Kn w wx) (n : Nat) : Kn w (wx.drewN n) := below_drewN h n
theorem Kn.drew {w wx : World} (h : Kn w wx) : Kn w wx.drew := below_drewN h 1
theorem Kn.alloc {w wx : World} (h : Kn w wx) (o : Obj) : Kn w (wx.alloc o) := Below.alloc h h.size o
theorem Kn.grown {w wx wy : World} {row : Option Nat} (h : Kn w wx) (hg : wx.grownBy wy row) (hr : ∀ g, row = some g → w.heap.size ≤ g) : Kn w wy := Below.grown h hg h.size hr
theorem Kn.cell {w wx : World} (h : Kn w wx) {p : Addr} {u : Value} (hc : w.cell? p = some u) (hp : p.block < w.heap.size) : wx.cell? p = some u := (Below.cell h hp).trans hc
theorem Kn.tabs {w wx : World} (h : Kn w wx) (ht : Tabs w) : Tabs wx :=
  ⟨ht.k.below h, ht.r.below h (block_lt_of_cell (ht.r 0 (by omega))), ht.b.below h (block_lt_of_cell (ht.b 0 (by omega))), ht.t.below h (ht.t.lt), errTab_below ht.e h (errTab_lt ht.e)⟩
theorem bytes_eta (s : ByteArray) : ∃ l : List UInt8, s = ⟨l.toArray⟩ := ⟨s.data.toList, by simp⟩
theorem ba_len (l : List UInt8) : (⟨l.toArray⟩ : ByteArray).size = l.length := by simp [ByteArray.size]
def TruePost (w wx : World) (x : Ending) (w' : World) : Prop := x = .returned (.bool true) ∧ Kn w w' ∧ Kn wx w'
theorem true_post {w wx : World} (h : Kn w wx) {x : Ending} {w' : World} (hp : x = .returned (.bool true) ∧ Below wx.heap.size wx w') : TruePost w wx x w' := ⟨hp.1, h.then hp.2, hp.2⟩
section
variable {w wx : World}
theorem sums_k (z : Int) (s : ByteArray) (hs : s.size ≤ 1048576) (ht : Tabs w) (h : Kn w wx) : Calls Tryz.prog 12 #[.int .i64 z, .string s] wx (TruePost w wx) := by
  obtain ⟨l, rfl⟩ := bytes_eta s
  have := h.tabs ht
  exact (digestSums_any z l wx (by rwa [ba_len] at hs) this.k this.r this.b this.t).mono fun _ _ hp => true_post h hp
theorem widths_k (a b : Int) (s : ByteArray) (hs : s.size ≤ 1048576) (ht : Tabs w) (h : Kn w wx) : Calls Tryz.prog 14 #[.int .i64 a, .int .i64 b, .string s] wx (TruePost w wx) := by
  obtain ⟨l, rfl⟩ := bytes_eta s
  have := h.tabs ht
  exact (digestWidths_any a b l wx (by rwa [ba_len] at hs) this.k this.t).mono fun _ _ hp => true_post h hp
theorem parses_k (s : ByteArray) (ht : Tabs w) (h : Kn w wx) : Calls Tryz.prog 16 #[.string s] wx (TruePost w wx) := by
  obtain ⟨l, rfl⟩ := bytes_eta s
  have := h.tabs ht
  exact (digestParses_any l wx this.k this.t this.e).mono fun _ _ hp => true_post h hp
theorem cuts_k (s : ByteArray) (hs : s.size ≤ 1048576) (ht : Tabs w) (h : Kn w wx) : Calls Tryz.prog 18 #[.string s] wx (TruePost w wx) := by
  obtain ⟨l, rfl⟩ := bytes_eta s
  have := h.tabs ht
  exact (digestCuts_any l wx (by rwa [ba_len] at hs) this.k this.t this.e).mono fun _ _ hp => true_post h hp
theorem parted_k (z : Int) (A : Option Addr) (n c : Nat) (l : List (List UInt8)) (hr : Reads wx wx.heap.size 1 A n (tx l)) (hn : n ≤ 1000) (hl : total l ≤ 1048576) (ht : Tabs w) (h : Kn w wx) : Calls Tryz.prog 13 #[.int .i64 z, .slice A n c] wx (TruePost w wx) := by
  have := h.tabs ht
  exact (digestParted_any z A n c l wx hr (by omega) hl this.k this.t).mono fun _ _ hp => true_post h hp
theorem places_k (s : ByteArray) (A : Option Addr) (n c : Nat) (l : List (List UInt8)) (hs : s.size ≤ 1048576) (hr : Reads wx wx.heap.size 1 A n (tx l)) (hl : total l + l.length ≤ 1048576) (ht : Tabs w) (h : Kn w wx) : Calls Tryz.prog 19 #[.string s, .slice A n c] wx (TruePost w wx) := by
  obtain ⟨t, rfl⟩ := bytes_eta s
  have := h.tabs ht
  exact (digestPlaces_any t A n c l wx hr (by rwa [ba_len] at hs) hl this.k this.t this.e).mono fun _ _ hp => true_post h hp
theorem clashes_k (z : Int) (A : Option Addr) (n c : Nat) (l : List (List UInt8)) (hr : Reads wx wx.heap.size 1 A n (tx l)) (hl : total l + l.length ≤ 1048576) (ht : Tabs w) (h : Kn w wx) : Calls Tryz.prog 22 #[.int .i64 z, .slice A n c] wx (TruePost w wx) := by
  have := h.tabs ht
  exact (digestClashes_any z A n c l wx hr hl this.k this.r this.b this.t).mono fun _ _ hp => true_post h hp
theorem lays_k (A : Option Addr) (n c : Nat) (l : List (List UInt8)) (hr : Reads wx wx.heap.size 1 A n (tx l)) (hl : total l + l.length ≤ 1048576) (ht : Tabs w) (h : Kn w wx) : Calls Tryz.prog 20 #[.slice A n c] wx (TruePost w wx) := by
  have := h.tabs ht
  exact (digestLays_any A n c l wx hr hl this.k this.t).mono fun _ _ hp => true_post h hp
theorem back_k (A A' : Option Addr) (n c n' c' : Nat) (l m : List (List UInt8)) (s : ByteArray) (hr : Reads wx wx.heap.size 1 A n (tx l)) (hr' : Reads wx wx.heap.size 1 A' n' (tx m)) (hl : total l + l.length ≤ 1048576) (hm : total m + m.length ≤ 1048576) (hs : s.size ≤ 1048576) (ht : Tabs w) (h : Kn w wx) :
    Calls Tryz.prog 21 #[.slice A n c, .slice A' n' c', .string s] wx (TruePost w wx) := by
  obtain ⟨t, rfl⟩ := bytes_eta s
  have := h.tabs ht
  exact (digestBack_any A A' n c n' c' l m t wx hr hr' hl hm (by rwa [ba_len] at hs) this.t).mono fun _ _ hp => true_post h hp
theorem hashes_k (z1 z2 : Int) (A : Option Addr) (n c : Nat) (l : List (List UInt8 × Bool × Bool)) (hr : Reads wx wx.heap.size 3 A n (acts l)) (hn : n ≤ 1000) (hl : ∀ p ∈ l, p.1.length ≤ 16777216) (ht : Tabs w) (h : Kn w wx) : Calls Tryz.prog 15 #[.int .i64 z1, .int .i64 z2, .slice A n c] wx (TruePost w wx) := by
  have := h.tabs ht
  exact (digestHashes_any z1 z2 A n c l wx hr (by omega) hl this.k this.r this.b this.t).mono fun _ _ hp => true_post h hp
theorem texts_k (bs : List UInt8) (hlen : bs.length = 32) (h : Kn w wx) : Calls Tryz.prog 17 #[.agg (Lib.byteCells bs).toArray] wx (TruePost w wx) :=
  (digestTexts_any bs hlen wx).mono fun _ _ hp => true_post h hp
theorem works_k (ht : Tabs w) (h : Kn w wx) : Calls Tryz.prog 11 #[] wx (TruePost w wx) := by
  have := h.tabs ht
  exact (works_any wx this.k this.t).mono fun _ _ hp => true_post h hp
end
/-- Texts of at most so many bytes. -/
def SRow (n : Nat) (xs : List Value) : Prop := ∀ x ∈ xs, ∃ b : ByteArray, x = .string b ∧ b.size ≤ n
theorem SRow.at_ {w : World} {B m n k : Nat} {A : Option Addr} {xs : List Value} (hs : SRow m xs) (h : Reads w B 1 A n xs) (hk : k < n) : ∃ ad b, A = some ad ∧ ad.block < B ∧ b.size ≤ m ∧ w.cell? (ad.add k) = some (.string b) := by
  obtain ⟨ad, u, h1, h2, h3, h4⟩ := h.at_ hk
  obtain ⟨b, rfl, hb⟩ := hs u (List.mem_of_getElem? h3)
  exact ⟨ad, b, h1, h2, hb, h4⟩
/-- A row of texts, and its list. -/
theorem srow_tx : ∀ {m : Nat} {xs : List Value}, SRow m xs → ∃ l : List (List UInt8), xs = tx l ∧ total l ≤ m * xs.length ∧ l.length = xs.length := by
  intro m xs
  induction xs with
  | nil => intro _; exact ⟨[], rfl, by simp [total], rfl⟩
  | cons x xs ih =>
    intro h
    obtain ⟨l, h1, h2, h3⟩ := ih (fun y hy => h y (by simp [hy]))
    obtain ⟨b, rfl, hb⟩ := h x (by simp)
    obtain ⟨t, rfl⟩ := bytes_eta b
    rw [ba_len] at hb
    refine ⟨t :: l, by rw [h1]; rfl, ?_, by simp [h3]⟩
    have e : total (t :: l) = t.length + total l := by simp [total]
    rw [e, List.length_cons, Nat.mul_succ]; omega
end DK
end Go.Proofs.YtgjelinnpcekmaaGreatDoor
