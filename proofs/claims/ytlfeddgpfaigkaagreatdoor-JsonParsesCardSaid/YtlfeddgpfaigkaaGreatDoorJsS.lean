/-
  What stands at this seat's package variables; the library's functions that package json calls, by their contracts.
-/
import Derived.Test.YtlfeddgpfaigkaaGreatDoorJsAx
import Derived.Test.YtlfeddgpfaigkaaGreatDoorLays
import Derived.Test.YtlfeddgpfaigkaaGreatDoorLayV
import Derived.Test.YtlfeddgpfaigkaaGreatDoorLayI
import Derived.Test.YtlfeddgpfaigkaaGreatDoorErrN
import Derived.Test.YtlfeddgpfaigkaaGreatDoorRows
import Derived.Lib.SmallJoins
namespace Go.Proofs.YtlfeddgpfaigkaaGreatDoor
open Go.RowKit Go.Maps Go.Sort Go.Shelf
namespace Js
/-- The name of the table of the powers of ten, as a given row lists it. -/
def pow10Name : String := (Rows.jsonFormRow.laid.map (·.1)).getD 2 default
def Tab10 (w : World) : Prop := Lib.TabIs Tryz.prog w pow10Name .u64 Lib.pow10Tab
theorem tab10_named : Tryz.prog.globalNamed pow10Name = some 3 := by kernel_rfl
def ErrAt (w : World) (g : Nat) : Prop := ∃ ev, w.cell? ⟨g, 0, none⟩ = some ev ∧ (ev = .nilIface ∨ ∃ te pe, ev = .iface te pe)
/-- What stands at the package variables. -/
structure St (w : World) : Prop where
  size : 9 ≤ w.heap.size
  err : Err.ErrTab w
  pow : Tab10 w
  utf : Lib.Utf8Tabs 1 2 w
  syn : ErrAt w 5
  rng : ErrAt w 6
theorem St.kept {w w' : World} (h : St w) (hs : w.heap.size ≤ w'.heap.size) (hk : ∀ b, b < 9 → w'.heap[b]? = w.heap[b]?) : St w' := by
  have hc : ∀ b o, b < 9 → w'.cell? ⟨b, o, none⟩ = w.cell? ⟨b, o, none⟩ := fun b o hb => World.cell?_of_block (hk b hb)
  refine ⟨Nat.le_trans h.size hs, (hc _ _ (by decide)).trans h.err, ?_, ⟨fun c hcc => (hc _ _ (by decide)).trans (h.utf.1 c hcc), fun i hi => ⟨(hc _ _ (by decide)).trans (h.utf.2 i hi).1, (hc _ _ (by decide)).trans (h.utf.2 i hi).2⟩⟩, ?_, ?_⟩
  · have h1 := h.pow
    unfold Tab10 Lib.TabIs World.var? at h1 ⊢
    rw [tab10_named] at h1 ⊢
    simp only [Option.bind_some] at h1 ⊢
    rw [hk _ (by decide)]
    exact h1
  · obtain ⟨ev, h1, h2⟩ := h.syn
    exact ⟨ev, (hc _ _ (by decide)).trans h1, h2⟩
  · obtain ⟨ev, h1, h2⟩ := h.rng
    exact ⟨ev, (hc _ _ (by decide)).trans h1, h2⟩
theorem St.below {w w' : World} (h : St w) (hb : Below w.heap.size w w') : St w' := h.kept hb.size fun b hb' => hb.block b (by have := h.size; omega)
theorem St.kp {w w' : World} {B : Nat} {X : Nat → Prop} (h : St w) (hk : Kp B X w w') (hB : 9 ≤ B) (hX : ∀ b, b < 9 → ¬ X b) : St w' := h.kept hk.size fun b hb => hk.block b (by omega) (hX b hb)
theorem St.rdr {w w' : World} {rb : Nat} (h : St w) (hk : Kp w.heap.size (· = rb) w w') (hr : 9 ≤ rb) : St w' := h.kp hk h.size fun b hb e => by omega
theorem St.alloc {w : World} (h : St w) (o : Obj) : St (w.alloc o) := h.below ((Below.refl _ _).alloc (Nat.le_refl _) o)
theorem St.drewN {w : World} (h : St w) (n : Nat) : St (w.drewN n) := h.kept (Nat.le_refl _) fun _ _ => rfl
theorem St.drew {w : World} (h : St w) : St w.drew := h.kept (Nat.le_refl _) fun _ _ => rfl
theorem St.setCell {w : World} (h : St w) {p : Addr} (hp : 9 ≤ p.block) (u : Value) : St (w.setCell p u) := h.kept (by simp) fun b hb => Below.heap_setCell w p u b (by omega)

theorem take_pfx (s q : List UInt8) : (s.take q.length == q) = q.isPrefixOf s := by
  rw [Bool.eq_iff_iff, beq_iff_eq, List.isPrefixOf_iff_prefix]
  constructor
  · intro h; refine ⟨s.drop q.length, ?_⟩; conv => lhs; lhs; rw [← h]
    exact List.take_append_drop _ _
  · rintro ⟨t, rfl⟩; exact List.take_left
theorem prefix_any (s q : List UInt8) (w : World) :
    Calls Tryz.prog 51 #[.string ⟨s.toArray⟩, .string ⟨q.toArray⟩] w fun x w' => x = .returned (.bool (q.isPrefixOf s)) ∧ w = w' := by
  rw [← take_pfx]
  rcases Nat.lt_or_ge s.length q.length with hq | hq
  rotate_left 1
  · have hsl := fun wx => run_slice_to_list Tryz.underlying9 s .i64 (q.length : Int) q.length rfl hq wx
    generalize s.take q.length = u at hsl
    go_enter Tryz.func51, Tryz.ntmps51
    go_wp2
    go_ret
    exact ⟨rfl, rfl⟩
  · have h0 : (s.take q.length == q) = false := by rw [beq_eq_false_iff_ne]; intro h; have := congrArg List.length h; rw [List.length_take] at this; omega
    rw [h0]
    go_enter Tryz.func51, Tryz.ntmps51
    go_wp2
    go_ret
    exact ⟨rfl, rfl⟩

/-- utf8.ValidString. -/
theorem valid_any (s : List UInt8) (hs : s.length ≤ 4398046511104) (w : World) (hT : St w) :
    Calls Tryz.prog 89 #[.string ⟨s.toArray⟩] w fun x w' => x = .returned (.bool (decide (wrong s = none))) ∧ Below w.heap.size w w' := by
  have := Any.utf8_ValidString lays196 ⟨s.toArray⟩ w (by simp [ByteArray.size]; omega) hT.utf
  rw [valid_is] at this
  exact this
theorem below_grow (w : World) (k : Nat) (os : Array Obj) : Below w.heap.size w (grow (w.drewN k) os) :=
  ⟨rfl, rfl, rfl, by simp [grow, World.drewN], fun i hi => by simp only [grow, World.drewN]; rw [Array.getElem?_append_left hi]⟩
/-- strconv.FormatInt. -/
theorem format_any (n : Int) (h0 : -9223372036854775808 ≤ n) (h1 : n ≤ 9223372036854775807) (w : World) (hT : St w) :
    Calls Tryz.prog 92 #[.int .i64 n, .int .i64 10] w fun x w' => x = .returned (.string ⟨(decI n).toArray⟩) ∧ Below w.heap.size w w' := by
  refine (Any.strconv_FormatInt_10 laysM173 n h0 h1 w hT.pow).mono ?_
  rintro e w' ⟨rfl, k, os, rfl⟩
  exact ⟨rfl, below_grow w k os⟩
/-- strconv.ParseInt: a number. -/
theorem parse_ok_any (m : List UInt8) (hm : m.length ≤ 4398046511104) (v : Int) (h : Lib.parseIntB 64 m = .ok v) (w : World) :
    Calls Tryz.prog 116 #[.string ⟨m.toArray⟩, .int .i64 10, .int .i64 64] w fun x w' => x = .returned (.tuple #[.int .i64 v, .nilIface]) ∧ Below w.heap.size w w' := by
  refine (Any.strconv_ParseInt_10_at64_ok laysC174 ⟨m.toArray⟩ (by simp [ByteArray.size]; omega) v h w).mono ?_
  rintro e w' ⟨rfl, rfl | ⟨t, rfl⟩⟩
  · exact ⟨rfl, Below.refl _ _⟩
  · exact ⟨rfl, Go.Joins.below_bytesWorld _ _ _ _ (Nat.le_refl _)⟩
/-- .. none. -/
theorem parse_bad_any (m : List UInt8) (hm : m.length ≤ 4398046511104) (h : ∀ v, Lib.parseIntB 64 m ≠ .ok v) (w : World) (hT : St w) :
    Calls Tryz.prog 116 #[.string ⟨m.toArray⟩, .int .i64 10, .int .i64 64] w fun x w' => ∃ (z : Int) (T : TypeId) (N : Nat), x = .returned (.tuple #[.int .i64 z, .iface T (.pointer (some ⟨N, 0, none⟩))]) ∧ Below w.heap.size w w' := by
  cases hp : Lib.parseIntB 64 m with
  | ok v => exact absurd hp (h v)
  | «syntax» =>
    obtain ⟨ev, hv, hev⟩ := hT.syn
    refine (Any.strconv_ParseInt_10_at64_syntax laysC174 ⟨m.toArray⟩ (by simp [ByteArray.size]; omega) hp ev w hv hev).mono ?_
    rintro e w' ⟨N, rfl, _, _, hb⟩
    exact ⟨_, _, N, rfl, hb⟩
  | range =>
    obtain ⟨ev, hv, hev⟩ := hT.rng
    refine (Any.strconv_ParseInt_10_at64_range laysC174 ⟨m.toArray⟩ (by simp [ByteArray.size]; omega) hp ev w hv hev).mono ?_
    rintro e w' ⟨N, rfl, _, _, hb⟩
    exact ⟨_, _, N, rfl, hb⟩
end Js
end Go.Proofs.YtlfeddgpfaigkaaGreatDoor
