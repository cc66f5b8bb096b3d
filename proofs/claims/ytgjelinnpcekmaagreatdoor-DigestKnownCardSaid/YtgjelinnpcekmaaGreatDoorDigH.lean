/-
  The walk of stratalaw03.DigestHashes at this seat's translation.
-/
import Derived.Test.YtgjelinnpcekmaaGreatDoorClR
import Derived.Test.YtgjelinnpcekmaaGreatDoorDigS
namespace Go.Proofs.YtgjelinnpcekmaaGreatDoor
open Go.RowKit Sha Plain

/-- A script: what is written, whether it is asked, whether the second hash is meant. -/
def acts (l : List (List UInt8 × Bool × Bool)) : List Value := l.flatMap fun a => [.string ⟨a.1.toArray⟩, .bool a.2.1, .bool a.2.2]
theorem acts_len (l : List (List UInt8 × Bool × Bool)) : (acts l).length = l.length * 3 := by
  induction l with
  | nil => rfl
  | cons a l ih => unfold acts at *; rw [List.flatMap_cons, List.length_append, ih]; simp; omega
theorem acts_get (l : List (List UInt8 × Bool × Bool)) : ∀ (k : Nat), k < l.length → (acts l)[k * 3]? = some (.string ⟨(l.getD k default).1.toArray⟩) ∧ (acts l)[k * 3 + 1]? = some (.bool (l.getD k default).2.1) ∧ (acts l)[k * 3 + 2]? = some (.bool (l.getD k default).2.2) := by
  induction l with
  | nil => intro k h; simp at h
  | cons a l ih =>
    intro k h
    unfold acts at *
    rw [List.flatMap_cons]
    cases k with
    | zero => simp
    | succ k =>
      have := ih k (by simpa using h)
      rw [show (k + 1) * 3 = k * 3 + 3 by omega]
      simp only [List.cons_append, List.nil_append, List.getElem?_cons_succ, List.getD_cons_succ]
      exact this
/-- A place of a row of three cells an element, where it lies. -/
theorem at_three {w : World} {B n : Nat} {A : Option Addr} {xs : List Value} {u v t : Value} (h : Reads w B 3 A n xs) {k : Nat} (hk : k < n) (hu : xs[k * 3]? = some u) (hv : xs[k * 3 + 1]? = some v) (ht : xs[k * 3 + 2]? = some t) :
    ∃ ad, A = some ad ∧ ad.block < B ∧ w.cell? (ad.add (k * 3)) = some u ∧ w.cell? ⟨(ad.add (k * 3)).block, (ad.add (k * 3)).off + 1, none⟩ = some v ∧ w.cell? ⟨(ad.add (k * 3)).block, (ad.add (k * 3)).off + 2, none⟩ = some t := by
  obtain ⟨ad, hA, hb, hc⟩ := h.2 (by omega)
  have e := hc _ _ hv
  have e2 := hc _ _ ht
  rw [← add_of_add] at e e2
  exact ⟨ad, hA, hb, hc _ _ hu, by rw [← e]; unfold Addr.add; simp, by rw [← e2]; unfold Addr.add; simp⟩
/-- Two hashes, their widths, their texts; TH: what was written, TT: what the texts' cells hold. -/
structure Two (w0 w : World) (Z : Nat → Int) (gw gh gt : Nat) (G : Nat → Nat) (TH TT : Nat → List UInt8) : Prop where
  cw : ∀ i, i < 2 → w.cell? ⟨gw, i, none⟩ = some (.int .i64 (Z i))
  ch : ∀ i, i < 2 → w.cell? ⟨gh, i, none⟩ = some (.pointer (some ⟨G i, 0, none⟩))
  ct : ∀ i, i < 2 → w.cell? ⟨gt, i, none⟩ = some (.string ⟨(TT i).toArray⟩)
  ft : ∀ i, i < 2 → w.frozen? ⟨gt, i, none⟩ = false
  hs : ∀ i, i < 2 → HshS w (G i) ((width (Z i) : Nat) : Int) (init.bytes (TH i))
  below : Below w0.heap.size w0 w
  new : w0.heap.size ≤ gw ∧ w0.heap.size ≤ gh ∧ w0.heap.size ≤ gt ∧ ∀ i, i < 2 → w0.heap.size ≤ G i
  ne : gw ≠ gh ∧ gw ≠ gt ∧ gh ≠ gt ∧ G 0 ≠ G 1 ∧ ∀ i, i < 2 → gw ≠ G i ∧ gh ≠ G i ∧ gt ≠ G i
section
variable {w0 w w' : World} {Z : Nat → Int} {gw gh gt : Nat} {G : Nat → Nat} {TH TT : Nat → List UInt8}
theorem Two.lts (h : Two w0 w Z gw gh gt G TH TT) : gw < w.heap.size ∧ gh < w.heap.size ∧ gt < w.heap.size ∧ ∀ i, i < 2 → G i < w.heap.size :=
  ⟨block_lt_of_cell (h.cw 0 (by omega)), block_lt_of_cell (h.ch 0 (by omega)), block_lt_of_cell (h.ct 0 (by omega)), fun i hi => (h.hs i hi).lt⟩
theorem frozen_below {B : Nat} (hb : Below B w w') {p : Addr} (hp : p.block < B) : w'.frozen? p = w.frozen? p := by
  have := hb.block p.block hp
  unfold World.frozen?
  rw [this]
theorem Two.step (h : Two w0 w Z gw gh gt G TH TT) (hb : Below w.heap.size w w') : Two w0 w' Z gw gh gt G TH TT := by
  obtain ⟨l1, l2, l3, l4⟩ := h.lts
  exact ⟨fun i hi => (hb.cell (p := ⟨gw, i, none⟩) l1).trans (h.cw i hi), fun i hi => (hb.cell (p := ⟨gh, i, none⟩) l2).trans (h.ch i hi), fun i hi => (hb.cell (p := ⟨gt, i, none⟩) l3).trans (h.ct i hi),
    fun i hi => (frozen_below hb (p := ⟨gt, i, none⟩) l3).trans (h.ft i hi), fun i hi => (h.hs i hi).below hb (l4 i hi), h.below.trans (hb.mono h.below.size), h.new, h.ne⟩
theorem Two.written (h : Two w0 w Z gw gh gt G TH TT) {k : Nat} (hk : k < 2) {s : List UInt8} (hs : HshS w' (G k) ((width (Z k) : Nat) : Int) ((init.bytes (TH k)).bytes s)) (hg : w.grownBy w' (some (G k))) :
    Two w0 w' Z gw gh gt G (fun i => if i = k then TH i ++ s else TH i) TT := by
  obtain ⟨l1, l2, l3, l4⟩ := h.lts
  obtain ⟨n1, n2, n3, n4, n5⟩ := h.ne
  obtain ⟨m1, m2, m3⟩ := n5 k hk
  have hc : ∀ (g i : Nat), g < w.heap.size → g ≠ G k → w'.cell? ⟨g, i, none⟩ = w.cell? ⟨g, i, none⟩ := fun g i h1 h2 => World.cell?_of_block (a := ⟨g, i, none⟩) (hg.block g h1 (fun e => h2 (Option.some.inj e)))
  refine ⟨fun i hi => (hc gw i l1 m1).trans (h.cw i hi), fun i hi => (hc gh i l2 m2).trans (h.ch i hi), fun i hi => (hc gt i l3 m3).trans (h.ct i hi), fun i hi => ?_, fun i hi => ?_, ?_, h.new, h.ne⟩
  · have := hg.block gt l3 (fun e => m3 (Option.some.inj e))
    have h2 := h.ft i hi
    unfold World.frozen? at h2 ⊢
    rw [this]; exact h2
  · by_cases e : i = k
    · subst e; simp only [if_pos]; rw [HS.bytes_append]; exact hs
    · simp only [if_neg e]
      refine (h.hs i hi).grown hg (fun e2 => ?_)
      have e3 := Option.some.inj e2
      have : (i = 0 ∧ k = 1) ∨ (i = 1 ∧ k = 0) := by omega
      rcases this with ⟨rfl, rfl⟩ | ⟨rfl, rfl⟩
      · exact n4 e3
      · exact n4 e3.symm
  · exact h.below.grown hg h.below.size (fun j hj => by injection hj with hj; have := h.new.2.2.2 k hk; omega)
theorem Two.stored (h : Two w0 w Z gw gh gt G TH TT) {k : Nat} (hk : k < 2) (s : List UInt8) :
    Two w0 (w.setCell ⟨gt, k, none⟩ (.string ⟨s.toArray⟩)) Z gw gh gt G TH (fun i => if i = k then s else TT i) := by
  obtain ⟨l1, l2, l3, l4⟩ := h.lts
  obtain ⟨n1, n2, n3, n4, n5⟩ := h.ne
  refine ⟨fun i hi => ?_, fun i hi => ?_, fun i hi => ?_, fun i hi => ?_, fun i hi => (h.hs i hi).far (p := ⟨gt, k, none⟩) (fun e => (n5 i hi).2.2 e.symm) _, h.below.setCell (p := ⟨gt, k, none⟩) h.new.2.2.1 _, h.new, h.ne⟩
  · rw [World.cell?_setCell_far _ _ _ _ (by simp only; exact fun e => n2 e.symm)]; exact h.cw i hi
  · rw [World.cell?_setCell_far _ _ _ _ (by simp only; exact fun e => n3 e.symm)]; exact h.ch i hi
  · by_cases e : i = k
    · subst e
      simp only [if_pos]
      have := h.ct i hi
      exact World.cell?_setCell_same _ _ _ this
    · simp only [if_neg e]
      rw [World.cell?_setCell_other _ _ _ _ (by intro e2; injection e2 with _ e2; exact e (by omega))]
      exact h.ct i hi
  · rw [World.frozen?_setCell]; exact h.ft i hi
def two {α : Type} (a b : α) (i : Nat) : α := if i = 0 then a else b
theorem two_cases {P : Nat → Prop} (h0 : P 0) (h1 : P 1) : ∀ i, i < 2 → P i := fun i hi => by
  have : i = 0 ∨ i = 1 := by omega
  rcases this with rfl | rfl
  · exact h0
  · exact h1
theorem Two.start {z1 z2 : Int} {gw g0 g1 : Nat} (hb : Below w0.heap.size w0 w) (hw : Blk w gw 59 #[.int .i64 z1, .int .i64 z2]) (h0 : HshS w g0 ((width z1 : Nat) : Int) init) (h1 : HshS w g1 ((width z2 : Nat) : Int) init)
    (n0 : w0.heap.size ≤ gw ∧ w0.heap.size ≤ g0 ∧ w0.heap.size ≤ g1) (n1 : gw ≠ g0 ∧ gw ≠ g1 ∧ g0 ≠ g1) :
    Two w0 ((w.alloc (.cells #[.pointer (some ⟨g0, 0, none⟩), .pointer (some ⟨g1, 0, none⟩)] 60)).alloc (.cells #[.string ⟨#[]⟩, .string ⟨#[]⟩] 61)) (two z1 z2) gw w.heap.size (w.heap.size + 1) (two g0 g1) (fun _ => []) (fun _ => []) := by
  have l0 := hw.lt
  have l1 := h0.lt
  have l2 := h1.lt
  have hb2 : Below w.heap.size w ((w.alloc (.cells #[.pointer (some ⟨g0, 0, none⟩), .pointer (some ⟨g1, 0, none⟩)] 60)).alloc (.cells #[.string ⟨#[]⟩, .string ⟨#[]⟩] 61)) := ((Below.refl _ _).alloc (Nat.le_refl _) _).alloc (by simp) _
  have hh : Blk ((w.alloc (.cells #[.pointer (some ⟨g0, 0, none⟩), .pointer (some ⟨g1, 0, none⟩)] 60)).alloc (.cells #[.string ⟨#[]⟩, .string ⟨#[]⟩] 61)) w.heap.size 60 #[.pointer (some ⟨g0, 0, none⟩), .pointer (some ⟨g1, 0, none⟩)] := (Blk.new w _ _).alloc _
  have ht : Blk ((w.alloc (.cells #[.pointer (some ⟨g0, 0, none⟩), .pointer (some ⟨g1, 0, none⟩)] 60)).alloc (.cells #[.string ⟨#[]⟩, .string ⟨#[]⟩] 61)) (w.heap.size + 1) 61 #[.string ⟨#[]⟩, .string ⟨#[]⟩] := by
    have := Blk.new (w.alloc (.cells #[.pointer (some ⟨g0, 0, none⟩), .pointer (some ⟨g1, 0, none⟩)] 60)) 61 #[.string ⟨#[]⟩, .string ⟨#[]⟩]
    rwa [show (w.alloc (.cells #[.pointer (some ⟨g0, 0, none⟩), .pointer (some ⟨g1, 0, none⟩)] 60)).heap.size = w.heap.size + 1 by simp] at this
  have hs := hb.size
  exact ⟨two_cases ((hw.below hb2 l0).cell 0) ((hw.below hb2 l0).cell 1), two_cases (hh.cell 0) (hh.cell 1), two_cases (ht.cell 0) (ht.cell 1), fun i _ => ht.frozen i,
    two_cases (h0.below hb2 l1) (h1.below hb2 l2), hb.trans (hb2.mono hs), ⟨n0.1, hs, by omega, two_cases n0.2.1 n0.2.2⟩,
    ⟨by omega, by omega, by omega, n1.2.2, two_cases ⟨n1.1, show w.heap.size ≠ g0 by omega, show w.heap.size + 1 ≠ g0 by omega⟩ ⟨n1.2.1, show w.heap.size ≠ g1 by omega, show w.heap.size + 1 ≠ g1 by omega⟩⟩⟩
end
theorem below_setCells {B g : Nat} {a : World} : ∀ (vs : List Value) (o : Nat) (w : World), Below B a w → B ≤ g → Below B a (w.setCells g o vs)
  | [], _, _, h, _ => h
  | v :: r, o, _, h, hg => below_setCells r (o + 1) _ (h.setCell (p := ⟨g, o, none⟩) hg v) hg
theorem size_setCells {g : Nat} : ∀ (vs : List Value) (o : Nat) (w : World), (w.setCells g o vs).heap.size = w.heap.size
  | [], _, _ => rfl
  | v :: r, o, w => by rw [World.setCells, size_setCells r]; simp [World.setCell]
theorem there_new (w : World) : (w.alloc (.cells #[Value.int IntKind.u8 0, Value.int IntKind.u8 0, Value.int IntKind.u8 0, Value.int IntKind.u8 0, Value.int IntKind.u8 0, Value.int IntKind.u8 0, Value.int IntKind.u8 0, Value.int IntKind.u8 0, Value.int IntKind.u8 0, Value.int IntKind.u8 0, Value.int IntKind.u8 0, Value.int IntKind.u8 0, Value.int IntKind.u8 0, Value.int IntKind.u8 0, Value.int IntKind.u8 0, Value.int IntKind.u8 0, Value.int IntKind.u8 0, Value.int IntKind.u8 0, Value.int IntKind.u8 0, Value.int IntKind.u8 0, Value.int IntKind.u8 0, Value.int IntKind.u8 0, Value.int IntKind.u8 0, Value.int IntKind.u8 0, Value.int IntKind.u8 0, Value.int IntKind.u8 0, Value.int IntKind.u8 0, Value.int IntKind.u8 0, Value.int IntKind.u8 0, Value.int IntKind.u8 0, Value.int IntKind.u8 0, Value.int IntKind.u8 0] 25)).there w.heap.size 0 32 := fun j hj => by
  have h := Blk.new w 25 #[Value.int IntKind.u8 0, Value.int IntKind.u8 0, Value.int IntKind.u8 0, Value.int IntKind.u8 0, Value.int IntKind.u8 0, Value.int IntKind.u8 0, Value.int IntKind.u8 0, Value.int IntKind.u8 0, Value.int IntKind.u8 0, Value.int IntKind.u8 0, Value.int IntKind.u8 0, Value.int IntKind.u8 0, Value.int IntKind.u8 0, Value.int IntKind.u8 0, Value.int IntKind.u8 0, Value.int IntKind.u8 0, Value.int IntKind.u8 0, Value.int IntKind.u8 0, Value.int IntKind.u8 0, Value.int IntKind.u8 0, Value.int IntKind.u8 0, Value.int IntKind.u8 0, Value.int IntKind.u8 0, Value.int IntKind.u8 0, Value.int IntKind.u8 0, Value.int IntKind.u8 0, Value.int IntKind.u8 0, Value.int IntKind.u8 0, Value.int IntKind.u8 0, Value.int IntKind.u8 0, Value.int IntKind.u8 0, Value.int IntKind.u8 0]
  rw [Nat.zero_add]
  refine ⟨?_, h.frozen j⟩
  rw [h.cell j, Array.getElem?_eq_getElem (by simpa using hj)]; rfl
theorem there_below {w w' : World} {g o n : Nat} (h : w.there g o n) (hb : Below w.heap.size w w') : w'.there g o n := fun j hj => by
  obtain ⟨h1, h2⟩ := h j hj
  have hlt : g < w.heap.size := by
    cases hc : w.cell? ⟨g, o + j, none⟩ with
    | none => rw [hc] at h1; cases h1
    | some v => exact block_lt_of_cell hc
  exact ⟨by rw [hb.cell (p := ⟨g, o + j, none⟩) hlt]; exact h1, by rw [frozen_below hb (p := ⟨g, o + j, none⟩) hlt]; exact h2⟩
theorem neq_of_eql {P : Program} {T : TypeId} {x y : Array Value} {b : Bool} {w : World} (h : (binOp .eql T (.agg x) (.agg y)).run P w = .ok (.bool b) w) : (binOp .neq T (.agg x) (.agg y)).run P w = .ok (.bool (!b)) w := by
  simp only [binOp, Sem.run_bind] at h ⊢
  cases hr : (Op.equal T (.agg x) (.agg y)).run P w with
  | ok v w' =>
    rw [hr] at h
    simp only [Result.andThen_ok, Sem.run_pure, Result.ok.injEq, Value.bool.injEq] at h ⊢
    exact ⟨by rw [h.1], h.2⟩
  | _ => rw [hr] at h; simp [Result.andThen] at h
theorem neq_digs {i5 : TypeInfo} (hi5 : Tryz.prog.info? 5 = some i5) (a : List UInt8) (ha : a.length = 32) (w : World) : (binOp .neq 25 (dv a) (dv a)).run Tryz.prog w = .ok (.bool false) w := by
  have := neq_of_eql (eq_digs hi5 a a ha ha w)
  rwa [decide_eq_true rfl] at this
set_option maxHeartbeats 8000000 in
set_option maxRecDepth 100000 in
theorem digestHashes_any (z1 z2 : Int) (A : Option Addr) (n c : Nat) (l : List (List UInt8 × Bool × Bool)) (w : World) (hr : Reads w w.heap.size 3 A n (acts l)) (hn : n ≤ 16777216) (hl : ∀ p ∈ l, p.1.length ≤ 16777216) (hk : KTab w) (hrt : RTab w) (hbt : BTab w) (ht : Tab10 w) :
    Calls Tryz.prog 15 #[.int .i64 z1, .int .i64 z2, .slice A n c] w fun e w' => e = .returned (.bool true) ∧ Below w.heap.size w w' := by
  have hll : l.length = n := by have := hr.1; rw [acts_len] at this; omega
  have HLL := Lib.hid hll
  have HR := Lib.hid hr
  have HK := Lib.hid hk
  have HRT := Lib.hid hrt
  have HBT := Lib.hid hbt
  have HT := Lib.hid ht
  have HL := Lib.hid hl
  obtain ⟨i5, hi5⟩ := info5
  have HNE := Lib.hid (neq_digs hi5)
  clear hi5
  clear hr hk ht hrt hbt hll hl
  go_enter Tryz.func15, Tryz.ntmps15
  go_wp2_with fail
  refine (new_any z1 _).mono ?_
  rintro e w1 ⟨rfl, hx1, hb1⟩
  have HX1 := Lib.hid hx1
  have HB1 := Lib.hid (((Below.refl w.heap.size w).alloc (Nat.le_refl _) (.cells #[.int .i64 z1, .int .i64 z2] 59)).trans (hb1.mono (by simp)))
  have HW1 := Lib.hid ((Blk.new w 59 #[.int .i64 z1, .int .i64 z2]).below hb1 (by simp))
  clear hx1 hb1
  go_wp2_with fail
  refine (new_any z2 w1).mono ?_
  rintro e w2 ⟨rfl, hx2, hb2⟩
  have hz : (w.alloc (Obj.cells #[Value.int IntKind.i64 z1, Value.int IntKind.i64 z2] 59)).heap.size = w.heap.size + 1 := by simp
  rw [hz] at HX1
  have HST := Lib.hid (Two.start (w0 := w) (HB1.out.trans (hb2.mono HB1.out.size)) (HW1.out.below hb2 HW1.out.lt) (HX1.out.below hb2 HX1.out.lt) hx2 ⟨Nat.le_refl _, by omega, HB1.out.size⟩ ⟨by omega, by have := HW1.out.lt; omega, by have := HX1.out.lt; omega⟩)
  have hs1 := HB1.out.size
  clear hx2 hb2 HX1 HB1 HW1 hz
  generalize w1.heap.size = g1 at HST hs1
  go_upto_region 6 with fail
  generalize (w2.alloc (.cells #[.pointer (some ⟨w.heap.size + 1, 0, none⟩), .pointer (some ⟨g1, 0, none⟩)] 60)).alloc (.cells #[.string ⟨#[]⟩, .string ⟨#[]⟩] 61) = w3 at HST
  obtain ⟨gt, hgt⟩ : ∃ gt, gt = w2.heap.size + 1 := ⟨_, rfl⟩
  rw [← hgt] at HST ⊢
  clear hgt
  generalize w2.heap.size = gh at HST
  generalize two (w.heap.size + 1) g1 = G at HST
  generalize two z1 z2 = Z at HST
  go_wp2_with fail
  go_loopw [10] (fun i wr => ∃ (k : Nat) (T : Nat → List UInt8), k ≤ n ∧ i = .int .i64 k ∧ Hid (Two w wr Z w.heap.size gh gt G T T) ∧ (T 0).length + (T 1).length ≤ 1048576) (fun i _ => n - (intOf i).toNat)
  case atStart => exact ⟨0, _, by omega, rfl, HST, by simp⟩
  case round =>
    clear HST
    obtain ⟨k, T, hkn, rfl, HW, hT⟩ := hrel
    by_cases hlt : k < n
    · obtain ⟨a1, a2, a3⟩ := acts_get l k (by have := HLL.out; omega)
      obtain ⟨ad, rfl, hab, x1, x2, x3⟩ := at_three (HR.out.below HW.out.below) hlt a1 a2 a3
      have hpl : (l.getD k default).1.length ≤ 16777216 := HL.out _ (by
        have := HLL.out
        simp [List.getD, List.getElem?_eq_getElem (show k < l.length by omega)])
      clear a1 a2 a3
      generalize (l.getD k default).1 = s at x1 hpl
      generalize (l.getD k default).2.1 = ask at x2
      generalize (l.getD k default).2.2 = oth at x3
      have X1 := Lib.hid x1
      have X2 := Lib.hid x2
      clear x1 x2
      go_upto_if 40 with fail
      go_cut [11] (fun s wx => ∃ kk : Nat, kk < 2 ∧ s = .int .i64 kk ∧ wr = wx)
      case first =>
        cases oth with
        | true =>
          go_wp2
          go_meet
          exact ⟨1, by omega, rfl, rfl⟩
        | false =>
          go_wp2
          go_meet
          exact ⟨0, by omega, rfl, rfl⟩
      case rest =>
        obtain ⟨kk, hkk, rfl, rfl⟩ := hcut
        clear x3
        have t0 := HW.out.ct 0 (by omega)
        have t1 := HW.out.ct 1 (by omega)
        have x1 := X1.out
        go_wp2_with fail
        go_quiet (fail)
        have HW1 := Lib.hid (HW.out.step (below_drewN (Below.refl _ _) nq))
        have HX1 : Hid ((wr.drewN nq).cell? (ad.add (k * 3)) = some (.string ⟨s.toArray⟩)) := X1
        have HX2 : Hid ((wr.drewN nq).cell? ⟨(ad.add (k * 3)).block, (ad.add (k * 3)).off + 1, none⟩ = some (.bool ask)) := X2
        clear t0 t1 x1 X1 X2
        by_cases hbig : (T 0).length + (T 1).length + s.length > 1048576
        · have hbig2 : ((T 0).length : Int) + (T 1).length + s.length > 1048576 := by omega
          go_wp2
          go_ret
          exact ⟨rfl, HW1.out.below⟩
        · have hbig2 : ¬ ((T 0).length : Int) + (T 1).length + s.length > 1048576 := by omega
          clear HW
          have hadb : (ad.add (k * 3)).block < w.heap.size := by rw [block_of_add]; exact hab
          generalize hq : ad.add (k * 3) = q at HX1 HX2 hadb
          have HQ := Lib.hid hq
          generalize wr.drewN nq = w4 at HW1 HX1 HX2
          have y1 := HX1.out
          have y2 := HW1.out.ch kk hkk
          go_upto_region 14 with fail
          refine quiet_tail_lit 8 (by kernel_rfl) (by kernel_rfl) fun LL hLL0 => ?_
          have hLL := Lib.hid hLL0
          clear hLL0
          simp only [List.take_succ_cons, List.take_zero]
          repeat (go_big_quiet_step (fail))
          refine wpQuiet_nil ?_
          refine hLL.out _ ?_
          clear hLL
          rintro _ ⟨j5, rfl⟩
          simp only [List.drop_succ_cons, List.drop_zero]
          have HW5 := Lib.hid (HW1.out.step (below_drewN (Below.refl _ _) j5))
          have hx5 : Hid ((w4.drewN j5).cell? q = some (.string ⟨s.toArray⟩)) := HX1
          have hx6 : Hid ((w4.drewN j5).cell? ⟨q.block, q.off + 1, none⟩ = some (.bool ask)) := HX2
          clear HW1 HX1 HX2 y1 y2
          generalize w4.drewN j5 = w5 at HW5 hx5 hx6
          have hTk : (T kk).length ≤ 1048576 := by
            have : kk = 0 ∨ kk = 1 := by omega
            rcases this with rfl | rfl <;> omega
          go_wp2_with fail
          refine (write_any (G kk) _ _ s w5 (HW5.out.hs kk hkk) (HK.out.below HW5.out.below) (by have := HK.out.lt; have := HW5.out.below.size; omega) (by have := HK.out.lt; have := HW5.out.new.2.2.2 kk hkk; omega) (by rw [HS.bytes_n]; simp [init]; omega)).mono ?_
          rintro e w6 ⟨rfl, hs6, hg6⟩
          have HW6 := Lib.hid (HW5.out.written hkk hs6 hg6)
          have HX6 : Hid (w6.cell? q = some (.string ⟨s.toArray⟩)) := Lib.hid ((World.cell?_of_block (a := q) (hg6.block q.block (Nat.lt_of_lt_of_le hadb HW5.out.below.size) (fun e => by have := Option.some.inj e; have := HW5.out.new.2.2.2 kk hkk; omega))).trans hx5.out)
          have HX7 : Hid (w6.cell? ⟨q.block, q.off + 1, none⟩ = some (.bool ask)) := Lib.hid ((World.cell?_of_block (a := ⟨q.block, q.off + 1, none⟩) (hg6.block q.block (Nat.lt_of_lt_of_le hadb HW5.out.below.size) (fun e => by have := Option.some.inj e; have := HW5.out.new.2.2.2 kk hkk; omega))).trans hx6.out)
          clear hs6 hg6 hx5 hx6 HW5
          have y1 := HX6.out
          have y2 := HW6.out.ct kk hkk
          have y3 := HW6.out.ft kk hkk
          have c2 := fun wx => add_txt (T kk) s (by omega) wx
          go_upto_region 15 with fail
          refine quiet_tail_lit 10 (by kernel_rfl) (by kernel_rfl) fun LL hLL0 => ?_
          have hLL := Lib.hid hLL0
          clear hLL0
          simp only [List.take_succ_cons, List.take_zero]
          repeat (go_big_quiet_step (fail))
          refine wpQuiet_nil ?_
          refine hLL.out _ ?_
          clear hLL
          rintro _ ⟨j6, rfl⟩
          simp only [List.drop_succ_cons, List.drop_zero]
          have HW7 := Lib.hid ((HW6.out.step (below_drewN (Below.refl _ _) j6)).stored hkk (T kk ++ s))
          have y3b : (w6.drewN j6).frozen? ⟨gt, kk, none⟩ = false := y3
          have y2b : (w6.drewN j6).cell? ⟨gt, kk, none⟩ = some (.string ⟨(T kk).toArray⟩) := y2
          have HX8 : Hid (((w6.drewN j6).setCell ⟨gt, kk, none⟩ (.string ⟨(T kk ++ s).toArray⟩)).cell? ⟨q.block, q.off + 1, none⟩ = some (.bool ask)) := Lib.hid (by
            rw [World.cell?_setCell_far _ _ _ _ (by simp only; have := HW6.out.new.2.2.1; omega)]
            exact HX7.out)
          clear y1 y2 y3 c2 HX6 HX7 HW6
          go_upto_region 16 with fail
          have hTT : (fun i => if i = kk then T kk ++ s else T i) = (fun i => if i = kk then T i ++ s else T i) := by
            funext i
            by_cases e : i = kk
            · subst e; simp
            · simp [e]
          rw [hTT] at HW7
          have hT2 : ((fun i => if i = kk then T i ++ s else T i) 0).length + ((fun i => if i = kk then T i ++ s else T i) 1).length ≤ 1048576 := by
            have : kk = 0 ∨ kk = 1 := by omega
            rcases this with rfl | rfl
            · simp; omega
            · simp; omega
          have hTk2 : ((fun i => if i = kk then T i ++ s else T i) kk).length ≤ 1048576 := by
            have : kk = 0 ∨ kk = 1 := by omega
            rcases this with rfl | rfl
            · simp; omega
            · simp; omega
          have hTv : T kk ++ s = (fun i => if i = kk then T i ++ s else T i) kk := by simp
          rw [hTv] at HW7 HX8 ⊢
          clear hTT hTv hbig hbig2 hT y2b y3b
          generalize (fun i => if i = kk then T i ++ s else T i) = T2 at HW7 HX8 hT2 hTk2 ⊢
          generalize ((w6.drewN j6).setCell ⟨gt, kk, none⟩ (.string ⟨(T2 kk).toArray⟩)) = w8 at HW7 HX8
          have y0 := HX8.out
          cases ask with
          | false =>
            go_quiet (fail)
            have HW8 := Lib.hid (HW7.out.step (below_drewN (Below.refl _ _) nq))
            go_wp2
            go_roundw
            case rel => exact ⟨k + 1, T2, by omega, by go_num, HW8, hT2⟩
            case measure => simp [intOf]; omega
          | true =>
            have y1 := HW7.out.ch kk hkk
            have y2 := HW7.out.cw kk hkk
            have y3 := HW7.out.ct kk hkk
            have HKP : Hid (∀ wy w', (Below w8.heap.size w8 wy ∧ wy.cell? ⟨q.block, q.off + 1, none⟩ = some (.bool true) ∧ wy.cell? ⟨gh, kk, none⟩ = some (.pointer (some ⟨G kk, 0, none⟩)) ∧ wy.cell? ⟨w.heap.size, kk, none⟩ = some (.int .i64 (Z kk)) ∧ wy.cell? ⟨gt, kk, none⟩ = some (.string ⟨(T2 kk).toArray⟩)) → Below wy.heap.size wy w' →
                (Below w8.heap.size w8 w' ∧ w'.cell? ⟨q.block, q.off + 1, none⟩ = some (.bool true) ∧ w'.cell? ⟨gh, kk, none⟩ = some (.pointer (some ⟨G kk, 0, none⟩)) ∧ w'.cell? ⟨w.heap.size, kk, none⟩ = some (.int .i64 (Z kk)) ∧ w'.cell? ⟨gt, kk, none⟩ = some (.string ⟨(T2 kk).toArray⟩))) := Lib.hid (fun wy w' h hb =>
              ⟨h.1.trans (hb.mono h.1.size), (hb.cell (p := ⟨q.block, q.off + 1, none⟩) (block_lt_of_cell h.2.1)).trans h.2.1, (hb.cell (p := ⟨gh, kk, none⟩) (block_lt_of_cell h.2.2.1)).trans h.2.2.1, (hb.cell (p := ⟨w.heap.size, kk, none⟩) (block_lt_of_cell h.2.2.2.1)).trans h.2.2.2.1, (hb.cell (p := ⟨gt, kk, none⟩) (block_lt_of_cell h.2.2.2.2)).trans h.2.2.2.2⟩)
            have HC0 : Hid (∀ wy, Below w8.heap.size w8 wy → Calls Tryz.prog 28 #[.pointer (some ⟨G kk, 0, none⟩)] wy (fun e w' => e = .returned (dv (Sha.digest (Z kk) (T2 kk))) ∧ Below wy.heap.size wy w')) := Lib.hid (fun wy h =>
              have h2 := HW7.out.step h
              hsum_text (G kk) (Z kk) (T2 kk) wy (h2.hs kk hkk) (HK.out.below h2.below) (by omega))
            have HC1 : Hid (∀ wy, Below w8.heap.size w8 wy → Calls Tryz.prog 31 #[.int .i64 (Z kk), .string ⟨(T2 kk).toArray⟩] wy (fun e w' => e = .returned (dv (Sha.digest (Z kk) (T2 kk))) ∧ Below wy.heap.size wy w')) := Lib.hid (fun wy h =>
              have h2 := HW7.out.step h
              rsum_any (Z kk) (T2 kk) wy (HRT.out.below h2.below (block_lt_of_cell (HRT.out 0 (by omega)))) (HBT.out.below h2.below (block_lt_of_cell (HBT.out 0 (by omega)))) (by omega))
            have hk0 : (0 : Int) ≤ (kk : Int) := by omega
            have hk1 : (kk : Int) < 2 := by omega
            have ne := fun wx => HNE.out (Sha.digest (Z kk) (T2 kk)) (Sha.digest_length _ _) wx
            unfold dv at HC0 HC1 ne
            generalize ((Sha.digest (Z kk) (T2 kk)).map U8).toArray = DA at HC0 HC1 ne
            go_region_held3 (fun wy => Below w8.heap.size w8 wy ∧ wy.cell? ⟨q.block, q.off + 1, none⟩ = some (.bool true) ∧ wy.cell? ⟨gh, kk, none⟩ = some (.pointer (some ⟨G kk, 0, none⟩)) ∧ wy.cell? ⟨w.heap.size, kk, none⟩ = some (.int .i64 (Z kk)) ∧ wy.cell? ⟨gt, kk, none⟩ = some (.string ⟨(T2 kk).toArray⟩)) ((first | assumption | exact ⟨below_drewN (Below.refl _ _) 1, y0, y1, y2, y3⟩ | go_keep)) ((first | (go_at_call 28; refine (HC0.out _ (by assumption : _ ∧ _).1).mono ?_; rintro e wn ⟨rfl, hbn⟩; have hSn := HKP.out _ _ (by assumption) hbn; clear hbn) | (go_at_call 31; refine (HC1.out _ (by assumption : _ ∧ _).1).mono ?_; rintro e wn ⟨rfl, hbn⟩; have hSn := HKP.out _ _ (by assumption) hbn; clear hbn)))
            have hfin := (by assumption : Below w8.heap.size w8 _ ∧ _)
            have HW8 := Lib.hid (HW7.out.step hfin.1)
            clear hfin
            go_wp2
            go_roundw
            case rel => exact ⟨k + 1, T2, by omega, by go_num, HW8, hT2⟩
            case measure => simp [intOf]; omega
    · have hT0 : ∀ i, i < 2 → (T i).length ≤ 1048576 := two_cases (by omega) (by omega)
      have HT0 := Lib.hid hT0
      clear hT hT0
      obtain ⟨w9, hw9⟩ : ∃ w9, w9 = wr := ⟨_, rfl⟩
      subst hw9
      go_wp2_with fail
      go_loopw [12] (fun i wr => ∃ k : Nat, k ≤ 2 ∧ i = .int .i64 k ∧ Hid (Two w wr Z w.heap.size gh gt G T T)) (fun i _ => 2 - (intOf i).toNat)
      case atStart => exact ⟨0, by omega, rfl, HW⟩
      case round =>
        clear HW
        obtain ⟨kk, hk2, rfl, HW⟩ := hrel
        by_cases hkk : kk < 2
        · have y1 := HW.out.ch kk hkk
          have y2 := HW.out.cw kk hkk
          have y3 := HW.out.ct kk hkk
          have HKP : Hid (∀ wy w', (Below wr.heap.size wr wy ∧ wy.cell? ⟨w.heap.size, kk, none⟩ = some (.int .i64 (Z kk)) ∧ wy.cell? ⟨gt, kk, none⟩ = some (.string ⟨(T kk).toArray⟩)) → Below wy.heap.size wy w' →
              (Below wr.heap.size wr w' ∧ w'.cell? ⟨w.heap.size, kk, none⟩ = some (.int .i64 (Z kk)) ∧ w'.cell? ⟨gt, kk, none⟩ = some (.string ⟨(T kk).toArray⟩))) := Lib.hid (fun wy w' h hb =>
            ⟨h.1.trans (hb.mono h.1.size), (hb.cell (p := ⟨w.heap.size, kk, none⟩) (block_lt_of_cell h.2.1)).trans h.2.1, (hb.cell (p := ⟨gt, kk, none⟩) (block_lt_of_cell h.2.2)).trans h.2.2⟩)
          have HC0 : Hid (∀ wy, Below wr.heap.size wr wy → Calls Tryz.prog 28 #[.pointer (some ⟨G kk, 0, none⟩)] wy (fun e w' => e = .returned (dv (Sha.digest (Z kk) (T kk))) ∧ Below wy.heap.size wy w')) := Lib.hid (fun wy h =>
            have h2 := HW.out.step h
            hsum_text (G kk) (Z kk) (T kk) wy (h2.hs kk hkk) (HK.out.below h2.below) (by have := HT0.out kk hkk; omega))
          have HC1 : Hid (∀ wy, Below wr.heap.size wr wy → Calls Tryz.prog 31 #[.int .i64 (Z kk), .string ⟨(T kk).toArray⟩] wy (fun e w' => e = .returned (dv (Sha.digest (Z kk) (T kk))) ∧ Below wy.heap.size wy w')) := Lib.hid (fun wy h =>
            have h2 := HW.out.step h
            rsum_any (Z kk) (T kk) wy (HRT.out.below h2.below (block_lt_of_cell (HRT.out 0 (by omega)))) (HBT.out.below h2.below (block_lt_of_cell (HBT.out 0 (by omega)))) (by have := HT0.out kk hkk; omega))
          have hk0 : (0 : Int) ≤ (kk : Int) := by omega
          have hk1 : (kk : Int) < 2 := by omega
          have ne := fun wx => HNE.out (Sha.digest (Z kk) (T kk)) (Sha.digest_length _ _) wx
          have hDl : ((Sha.digest (Z kk) (T kk)).map U8).length = 32 := by simp [Sha.digest_length]
          have h1a : (((Sha.digest (Z kk) (T kk)).map U8).toArray).all (·.oneCell') = true := by
            simp only [List.all_toArray, List.all_map]
            exact List.all_eq_true.2 fun _ _ => rfl
          unfold dv at HC0 HC1 ne
          generalize (Sha.digest (Z kk) (T kk)).map U8 = DL at HC0 HC1 ne hDl h1a
          have hsz : DL.toArray.size = 32 := by simpa using hDl
          have hi3 : (Tryz.prog.info? 25).map (·.size) = some DL.toArray.size := by rw [info33, hsz]
          have hi4 : (Tryz.prog.info? 25).map (·.size) = some DL.length := by rw [info33, hDl]
          have hu4 := Tryz.underlying25
          have h1c : ∀ v ∈ DL, v.oneCell' = true := by
            intro v hv
            exact (Array.all_eq_true_iff_forall_mem.1 h1a) v (by simpa using hv)
          have hth := there_new
          have hth2 : ∀ (wy wn : World), Below (wy.alloc (.cells #[Value.int IntKind.u8 0, Value.int IntKind.u8 0, Value.int IntKind.u8 0, Value.int IntKind.u8 0, Value.int IntKind.u8 0, Value.int IntKind.u8 0, Value.int IntKind.u8 0, Value.int IntKind.u8 0, Value.int IntKind.u8 0, Value.int IntKind.u8 0, Value.int IntKind.u8 0, Value.int IntKind.u8 0, Value.int IntKind.u8 0, Value.int IntKind.u8 0, Value.int IntKind.u8 0, Value.int IntKind.u8 0, Value.int IntKind.u8 0, Value.int IntKind.u8 0, Value.int IntKind.u8 0, Value.int IntKind.u8 0, Value.int IntKind.u8 0, Value.int IntKind.u8 0, Value.int IntKind.u8 0, Value.int IntKind.u8 0, Value.int IntKind.u8 0, Value.int IntKind.u8 0, Value.int IntKind.u8 0, Value.int IntKind.u8 0, Value.int IntKind.u8 0, Value.int IntKind.u8 0, Value.int IntKind.u8 0, Value.int IntKind.u8 0] 25)).heap.size (wy.alloc (.cells #[Value.int IntKind.u8 0, Value.int IntKind.u8 0, Value.int IntKind.u8 0, Value.int IntKind.u8 0, Value.int IntKind.u8 0, Value.int IntKind.u8 0, Value.int IntKind.u8 0, Value.int IntKind.u8 0, Value.int IntKind.u8 0, Value.int IntKind.u8 0, Value.int IntKind.u8 0, Value.int IntKind.u8 0, Value.int IntKind.u8 0, Value.int IntKind.u8 0, Value.int IntKind.u8 0, Value.int IntKind.u8 0, Value.int IntKind.u8 0, Value.int IntKind.u8 0, Value.int IntKind.u8 0, Value.int IntKind.u8 0, Value.int IntKind.u8 0, Value.int IntKind.u8 0, Value.int IntKind.u8 0, Value.int IntKind.u8 0, Value.int IntKind.u8 0, Value.int IntKind.u8 0, Value.int IntKind.u8 0, Value.int IntKind.u8 0, Value.int IntKind.u8 0, Value.int IntKind.u8 0, Value.int IntKind.u8 0, Value.int IntKind.u8 0] 25)) wn → wn.there wy.heap.size 0 32 := fun wy wn hb => there_below (there_new wy) hb
          have HTH := Lib.hid hth2
          have HKS : Hid (∀ (wy : World) (g : Nat), (Below wr.heap.size wr wy ∧ wy.cell? ⟨w.heap.size, kk, none⟩ = some (.int .i64 (Z kk)) ∧ wy.cell? ⟨gt, kk, none⟩ = some (.string ⟨(T kk).toArray⟩)) → wr.heap.size ≤ g →
              (Below wr.heap.size wr (wy.setCells g 0 DL) ∧ (wy.setCells g 0 DL).cell? ⟨w.heap.size, kk, none⟩ = some (.int .i64 (Z kk)) ∧ (wy.setCells g 0 DL).cell? ⟨gt, kk, none⟩ = some (.string ⟨(T kk).toArray⟩))) := Lib.hid (fun wy g h hg => by
            have hb := below_setCells (B := wr.heap.size) DL 0 wy h.1 hg
            obtain ⟨l1, l2, l3, l4⟩ := HW.out.lts
            exact ⟨hb, (hb.cell (p := ⟨w.heap.size, kk, none⟩) l1).trans y2, (hb.cell (p := ⟨gt, kk, none⟩) l3).trans y3⟩)
          clear hth2
          go_upto_region 21 with fail
          go_cut [13] (fun s wx => ∃ g : Nat, s = .pointer (some ⟨g, 0, none⟩) ∧ Hid (wx.rangeAt g 0 DL) ∧ Hid (Below wr.heap.size wr wx))
          case first =>
            go_region_held3 (fun wy => Below wr.heap.size wr wy ∧ wy.cell? ⟨w.heap.size, kk, none⟩ = some (.int .i64 (Z kk)) ∧ wy.cell? ⟨gt, kk, none⟩ = some (.string ⟨(T kk).toArray⟩)) ((first | assumption | exact ⟨below_drewN (Below.refl _ _) 1, y2, y3⟩ | exact HKP.out _ _ (by assumption) ((Below.refl _ _).alloc (Nat.le_refl _) _) | exact HKS.out _ _ (by assumption) (Nat.le_refl _) | exact HKS.out _ _ (by assumption) (by assumption))) ((go_at_call 31; refine (HC1.out _ (by assumption : _ ∧ _).1).mono ?_; rintro e wn ⟨rfl, hbn⟩; have hSn := HKP.out _ _ (by assumption) hbn; have hszn := hSn.1.size; (try have hthn : wn.there wr.heap.size 0 32 := HTH.out wr.drew wn hbn); clear hbn))
            all_goals
              go_wp2
              go_meet
              exact ⟨_, rfl, Lib.hid (World.rangeAt_setCells_same _ _ _ _ (by rw [hDl]; first | exact there_new _ | assumption)), Lib.hid (by assumption : _ ∧ _).1⟩
          case rest =>
            obtain ⟨g, rfl, HB, HX⟩ := hcut
            clear HTH HKS HKP hth
            have hgl : g < wc.heap.size := block_lt_of_cell (HB.out 0 (DL.getD 0 undef) (by rw [List.getElem?_eq_getElem (by omega)]; simp [List.getD, List.getElem?_eq_getElem (show 0 < DL.length by omega)]))
            have HKP : Hid (∀ wy w', (Below wc.heap.size wc wy ∧ wy.rangeAt g 0 DL ∧ wy.cell? ⟨gh, kk, none⟩ = some (.pointer (some ⟨G kk, 0, none⟩))) → Below wy.heap.size wy w' →
                (Below wc.heap.size wc w' ∧ w'.rangeAt g 0 DL ∧ w'.cell? ⟨gh, kk, none⟩ = some (.pointer (some ⟨G kk, 0, none⟩)))) := Lib.hid (fun wy w' h hb =>
              ⟨h.1.trans (hb.mono h.1.size), fun j v hv => (hb.cell (p := ⟨g, 0 + j, none⟩) (Nat.lt_of_lt_of_le hgl h.1.size)).trans (h.2.1 j v hv), (hb.cell (p := ⟨gh, kk, none⟩) (block_lt_of_cell h.2.2)).trans h.2.2⟩)
            have HC2 : Hid (∀ wy, Below wc.heap.size wc wy → Calls Tryz.prog 28 #[.pointer (some ⟨G kk, 0, none⟩)] wy (fun e w' => e = .returned (.agg DL.toArray) ∧ Below wy.heap.size wy w')) := Lib.hid (fun wy h => HC0.out wy (HX.out.trans (h.mono HX.out.size)))
            have y4 : wc.cell? ⟨gh, kk, none⟩ = some (.pointer (some ⟨G kk, 0, none⟩)) := (HX.out.cell (p := ⟨gh, kk, none⟩) (block_lt_of_cell y1)).trans y1
            have y5 := HB.out
            go_upto_region 22 with fail
            have HS0 : Hid (Below wc.heap.size wc wc.drew ∧ wc.drew.rangeAt g 0 DL ∧ wc.drew.cell? ⟨gh, kk, none⟩ = some (.pointer (some ⟨G kk, 0, none⟩))) := Lib.hid ⟨below_drewN (Below.refl _ _) 1, y5, y4⟩
            have HC3 : Hid (∀ wy, (Below wc.heap.size wc wy ∧ wy.rangeAt g 0 DL ∧ wy.cell? ⟨gh, kk, none⟩ = some (.pointer (some ⟨G kk, 0, none⟩))) → Calls Tryz.prog 28 #[.pointer (some ⟨G kk, 0, none⟩)] wy (fun e w' => e = .returned (.agg DL.toArray) ∧ Below wy.heap.size wy w')) := Lib.hid (fun wy h => HC2.out wy h.1)
            refine wp_region_held_drew (S := (fun wy => Below wc.heap.size wc wy ∧ wy.rangeAt g 0 DL ∧ wy.cell? ⟨gh, kk, none⟩ = some (.pointer (some ⟨G kk, 0, none⟩)))) (by kernel_rfl) HS0.out (fun hHeld => ?_)
            refine wpAnyH_take (i := 0) (oi := { dst := some 106, op := Op.move (Operand.tmp 12), type := 3, pos := "law.go:48", after := #[], guard := none }) (v := .int .i64 kk) rfl (by kernel_rfl) (by kernel_rfl) (by kernel_rfl) (fun _ _ _ h => h) (Or.inl ⟨by rfl, by intro w hSw; (try dsimp only at hSw); go_simp⟩) (by assumption) ?_
            try simp only [Act.put, List.setIfInBounds_toArray, List.set_cons_zero, List.set_cons_succ]
            refine wpAnyH_take (i := 1) (oi := { dst := some 107, op := Op.indexAddr 60 (Operand.tmp 8) (Operand.tmp 106), type := 0, pos := "law.go:48", after := #[{ on := 0, ground := Ground.data }], guard := none }) (v := .pointer (some ⟨gh, kk, none⟩)) rfl (by kernel_rfl) (by kernel_rfl) (by kernel_rfl) (fun _ _ _ h => h) (Or.inl ⟨by rfl, by intro w hSw; (try dsimp only at hSw); go_simp⟩) (by assumption) ?_
            try simp only [Act.put, List.setIfInBounds_toArray, List.set_cons_zero, List.set_cons_succ]
            refine wpAnyH_take (i := 2) (oi := { dst := some 108, op := Op.load 52 (Operand.tmp 107), type := 52, pos := "law.go:48", after := #[{ on := 1, ground := Ground.data }], guard := none }) (v := .pointer (some ⟨G kk, 0, none⟩)) rfl (by kernel_rfl) (by kernel_rfl) (by kernel_rfl) (fun _ _ _ h => h) (Or.inl ⟨by rfl, by intro w hSw; (try dsimp only at hSw); go_simp⟩) (by assumption) ?_
            try simp only [Act.put, List.setIfInBounds_toArray, List.set_cons_zero, List.set_cons_succ]
            refine wpAnyH_take (i := 4) (oi := { dst := some 110, op := Op.load 25 (Operand.tmp 13), type := 25, pos := "law.go:48", after := #[], guard := none }) rfl (by kernel_rfl) (by kernel_rfl) (by kernel_rfl) (fun _ _ _ h => h) (yieldsIf_load_mid (by rfl) _ _ rfl _ _ rfl DL _ (fun _ h => h.2.1) hu4 rfl hi4) (by assumption) ?_
            try simp only [Act.put, List.setIfInBounds_toArray, List.set_cons_zero, List.set_cons_succ]
            refine wpAnyH_ready (rs := [3]) (by kernel_rfl) (by simp) ?_
            refine AllReadyH.cons (o := { dst := some 109, op := Op.call { callee := Callee.value (Operand.func 28), args := #[Operand.tmp 108], argTypes := #[52] }, type := 25, pos := "law.go:48", after := #[{ on := 2, ground := Ground.data }], guard := none }) rfl (fun K hK => ?_) AllReadyH.nil
            rw [if_pos (by rfl)]
            go_simp
            refine (HC3.out _ (by assumption)).mono ?_
            rintro e wn ⟨rfl, hbn⟩
            have hSn := HKP.out _ _ (by assumption) hbn
            refine hK.out _ _ hSn (fun hHeld => ?_)
            clear hK hSn hbn
            try simp only [Act.put, List.setIfInBounds_toArray, List.set_cons_zero, List.set_cons_succ]
            refine wpAnyH_take (i := 5) (oi := { dst := some 111, op := Op.binOp BinOp.neq 25 (Operand.tmp 109) (Operand.tmp 110) 25, type := 4, pos := "law.go:48", after := #[{ on := 3, ground := Ground.data }, { on := 4, ground := Ground.data }], guard := none }) (v := .bool false) rfl (by kernel_rfl) (by kernel_rfl) (by kernel_rfl) (fun _ _ _ h => h) (Or.inl ⟨by rfl, by intro w hSw; (try dsimp only at hSw); go_simp⟩) (by assumption) ?_
            try simp only [Act.put, List.setIfInBounds_toArray, List.set_cons_zero, List.set_cons_succ]
            refine wpAnyH_take (i := 6) (oi := { dst := some 112, op := Op.move (Operand.tmp 111), type := 4, pos := "law.go:48", after := #[{ on := 5, ground := Ground.data }, { on := 3, ground := Ground.chain }], guard := none }) (v := .bool false) rfl (by kernel_rfl) (by kernel_rfl) (by kernel_rfl) (fun _ _ _ h => h) (Or.inl ⟨by rfl, by intro w hSw; (try dsimp only at hSw); go_simp⟩) (by assumption) ?_
            try simp only [Act.put, List.setIfInBounds_toArray, List.set_cons_zero, List.set_cons_succ]
            refine wpAnyH_take (i := 7) (oi := { dst := some 113, op := Op.move (Operand.tmp 12), type := 3, pos := "law.go:48", after := #[{ on := 6, ground := Ground.guard }], guard := some (6, false) }) (v := .int .i64 kk) rfl (by kernel_rfl) (by kernel_rfl) (by kernel_rfl) (fun _ _ _ h => h) (Or.inl ⟨by rfl, by intro w hSw; (try dsimp only at hSw); go_simp⟩) (by assumption) ?_
            try simp only [Act.put, List.setIfInBounds_toArray, List.set_cons_zero, List.set_cons_succ]
            refine wpAnyH_take (i := 8) (oi := { dst := some 114, op := Op.indexAddr 60 (Operand.tmp 8) (Operand.tmp 113), type := 0, pos := "law.go:48", after := #[{ on := 7, ground := Ground.data }, { on := 6, ground := Ground.guard }], guard := some (6, false) }) (v := .pointer (some ⟨gh, kk, none⟩)) rfl (by kernel_rfl) (by kernel_rfl) (by kernel_rfl) (fun _ _ _ h => h) (Or.inl ⟨by rfl, by intro w hSw; (try dsimp only at hSw); go_simp⟩) (by assumption) ?_
            try simp only [Act.put, List.setIfInBounds_toArray, List.set_cons_zero, List.set_cons_succ]
            refine wpAnyH_take (i := 9) (oi := { dst := some 115, op := Op.load 52 (Operand.tmp 114), type := 52, pos := "law.go:48", after := #[{ on := 8, ground := Ground.data }, { on := 6, ground := Ground.guard }], guard := some (6, false) }) (v := .pointer (some ⟨G kk, 0, none⟩)) rfl (by kernel_rfl) (by kernel_rfl) (by kernel_rfl) (fun _ _ _ h => h) (Or.inl ⟨by rfl, by intro w hSw; (try dsimp only at hSw); go_simp⟩) (by assumption) ?_
            try simp only [Act.put, List.setIfInBounds_toArray, List.set_cons_zero, List.set_cons_succ]
            refine wpAnyH_take (i := 11) (oi := { dst := some 117, op := Op.load 25 (Operand.tmp 13), type := 25, pos := "law.go:48", after := #[{ on := 6, ground := Ground.guard }], guard := some (6, false) }) rfl (by kernel_rfl) (by kernel_rfl) (by kernel_rfl) (fun _ _ _ h => h) (yieldsIf_load_mid (by rfl) _ _ rfl _ _ rfl DL _ (fun _ h => h.2.1) hu4 rfl hi4) (by assumption) ?_
            try simp only [Act.put, List.setIfInBounds_toArray, List.set_cons_zero, List.set_cons_succ]
            refine wpAnyH_ready (rs := [10]) (by kernel_rfl) (by simp) ?_
            refine AllReadyH.cons (o := { dst := some 116, op := Op.call { callee := Callee.value (Operand.func 28), args := #[Operand.tmp 115], argTypes := #[52] }, type := 25, pos := "law.go:48", after := #[{ on := 9, ground := Ground.data }, { on := 6, ground := Ground.chain }, { on := 6, ground := Ground.guard }], guard := some (6, false) }) rfl (fun K hK => ?_) AllReadyH.nil
            rw [if_pos (by rfl)]
            go_simp
            refine (HC3.out _ (by assumption)).mono ?_
            rintro e wn ⟨rfl, hbn⟩
            have hSn := HKP.out _ _ (by assumption) hbn
            refine hK.out _ _ hSn (fun hHeld => ?_)
            clear hK hSn hbn
            try simp only [Act.put, List.setIfInBounds_toArray, List.set_cons_zero, List.set_cons_succ]
            refine wpAnyH_take (i := 12) (oi := { dst := some 118, op := Op.binOp BinOp.neq 25 (Operand.tmp 116) (Operand.tmp 117) 25, type := 4, pos := "law.go:48", after := #[{ on := 10, ground := Ground.data }, { on := 11, ground := Ground.data }, { on := 6, ground := Ground.guard }], guard := some (6, false) }) (v := .bool false) rfl (by kernel_rfl) (by kernel_rfl) (by kernel_rfl) (fun _ _ _ h => h) (Or.inl ⟨by rfl, by intro w hSw; (try dsimp only at hSw); go_simp⟩) (by assumption) ?_
            try simp only [Act.put, List.setIfInBounds_toArray, List.set_cons_zero, List.set_cons_succ]
            refine wpAnyH_take (i := 13) (oi := { dst := some 119, op := Op.pick (Operand.tmp 112) (Operand.const (Value.bool true)) (Operand.tmp 118), type := 4, pos := "law.go:48", after := #[{ on := 6, ground := Ground.data }, { on := 12, ground := Ground.data }], guard := none }) (v := .bool false) rfl (by kernel_rfl) (by kernel_rfl) (by kernel_rfl) (fun _ _ _ h => h) (Or.inl ⟨by rfl, by intro w hSw; (try dsimp only at hSw); go_simp⟩) (by assumption) ?_
            try simp only [Act.put, List.setIfInBounds_toArray, List.set_cons_zero, List.set_cons_succ]
            refine wpAnyH_done (by kernel_rfl) ?_ _
            have hfin := (by assumption : Below wc.heap.size wc _ ∧ _)
            have HW8 := Lib.hid (HW.out.step (HX.out.trans (hfin.1.mono HX.out.size)))
            clear hfin
            go_wp2
            go_roundw
            case rel => exact ⟨kk + 1, by omega, by go_num, HW8⟩
            case measure => simp [intOf]; omega
        · go_wp2_with fail
          refine (works_any wr (HK.out.below HW.out.below) (HT.out.below HW.out.below HT.out.lt)).mono ?_
          rintro e w10 ⟨rfl, hb10⟩
          have HB10 := Lib.hid (HW.out.below.trans (hb10.mono HW.out.below.size))
          clear hb10
          go_wp2
          go_ret
          exact ⟨rfl, HB10.out⟩
end Go.Proofs.YtgjelinnpcekmaaGreatDoor
