/-
  The walk of the document's Reader (strataref04): members.
-/
import Derived.Test.YtlfeddgpfaigkaaGreatDoorJsQh
import Derived.Test.YtlfeddgpfaigkaaGreatDoorJsTw
import Derived.Laws.CopyOwn
namespace Go.Proofs.YtlfeddgpfaigkaaGreatDoor
open Go.RowKit
namespace Js
/-- The keys and the items of an object that is being read. -/
structure KJ (w : World) (B : Nat) (v1 : Value) (ks : List (List UInt8)) (v2 : Value) (f : F) : Prop where
  keys : w.ownsRow B 9 1 v1 ks.length (tx ks)
  items : ∃ (S : Nat → Prop) (vs : List Value), w.ownsRow B 25 5 v2 f.len vs ∧ TR encJ w S f vs ∧ ∀ b, S b → B ≤ b ∧ b < w.heap.size ∧ v1.ownBlock ≠ some b ∧ v2.ownBlock ≠ some b
  size : B ≤ w.heap.size
theorem KJ.nil (w : World) (B : Nat) (hB : B ≤ w.heap.size) : KJ w B (.slice none 0 0) [] (.slice none 0 0) .nil :=
  ⟨World.ownsRow_nil _ _ _ _, ⟨fun _ => False, [], World.ownsRow_nil _ _ _ _, rfl, fun _ h => h.elim⟩, hB⟩
section
variable {w w' : World} {B : Nat} {v1 v2 : Value} {ks : List (List UInt8)} {f : F}
theorem KJ.ne (h : KJ w B v1 ks v2 f) {b : Nat} (hb : v1.ownBlock = some b) : v2.ownBlock ≠ some b := by
  obtain ⟨S, vs, ho, _⟩ := h.items
  exact own_own_ne h.keys ho (by decide) hb
theorem KJ.kept (h : KJ w B v1 ks v2 f) (hk : ∀ b, B ≤ b → b < w.heap.size → w'.heap[b]? = w.heap[b]?) (hs : w.heap.size ≤ w'.heap.size) : KJ w' B v1 ks v2 f := by
  obtain ⟨S, vs, ho, hp, hS⟩ := h.items
  refine ⟨own_at h.keys fun b hb => hk b (own_lt h.keys hb).1 (own_lt h.keys hb).2, ⟨S, vs, own_at ho fun b hb => hk b (own_lt ho hb).1 (own_lt ho hb).2, hp.kept fun p hp => World.cell?_of_block (hk _ (hS _ hp).1 (hS _ hp).2.1), fun b hb => ⟨(hS b hb).1, by have := (hS b hb).2.1; omega, (hS b hb).2.2⟩⟩, Nat.le_trans h.size hs⟩
theorem KJ.form1 (h : KJ w B v1 ks v2 f) : ∃ A c, v1 = .slice A ks.length c := by
  obtain ⟨A, c, h, _⟩ := own_readsN h.keys
  exact ⟨A, c, h⟩
theorem KJ.form2 (h : KJ w B v1 ks v2 f) : ∃ A c, v2 = .slice A f.len c := by
  obtain ⟨S, vs, ho, _⟩ := h.items
  obtain ⟨A, c, h, _⟩ := own_readsN ho
  exact ⟨A, c, h⟩
/-- A key laid behind. -/
theorem KJ.key (h : KJ w B v1 ks v2 f) {v1' : Value} {t : List UInt8} (ho' : w'.ownsRow B 9 1 v1' (ks.length + 1) (tx ks ++ [.string ⟨t.toArray⟩])) (hg : w.grownBy w' v1.ownBlock) (hl : v1'.ownBlock = v1.ownBlock ∨ v1'.ownBlock = some w.heap.size) : KJ w' B v1' (ks ++ [t]) v2 f := by
  obtain ⟨S, vs, ho, hp, hS⟩ := h.items
  refine ⟨by rw [tx_append, List.length_append]; exact ho', ⟨S, vs, own_at ho fun b hb => hg.block b (own_lt ho hb).2 (fun e => h.ne e.symm hb), hp.kept fun p hp => World.cell?_of_block (hg.block _ (hS _ hp).2.1 (fun e => (hS _ hp).2.2.1 e.symm)), fun b hb => ?_⟩, Nat.le_trans h.size hg.size⟩
  obtain ⟨a1, a2, a3, a4⟩ := hS b hb
  refine ⟨a1, by have := hg.size; omega, fun e => ?_, a4⟩
  rcases hl with hl | hl
  · exact a3 (hl.symm.trans e)
  · rw [hl] at e; cases e; omega
/-- An item laid behind. -/
theorem KJ.item {v2' : Value} {S2 : Nat → Prop} {h0 : Hd} {k : F} {S : Nat → Prop} {vs us : List Value} (h : KJ w B v1 ks v2 f) (hp : TR encJ w S f vs) (hS : ∀ b, S b → B ≤ b ∧ b < w.heap.size ∧ v1.ownBlock ≠ some b ∧ v2.ownBlock ≠ some b) (hu : TR encJ w S2 (.cons h0 k .nil) us) (hS2 : ∀ b, S2 b → B ≤ b ∧ b < w.heap.size ∧ v1.ownBlock ≠ some b ∧ v2.ownBlock ≠ some b)
    (ho' : w'.ownsRow B 25 5 v2' (f.len + 1) (vs ++ us)) (hg : w.grownBy w' v2.ownBlock) (hl : v2'.ownBlock = v2.ownBlock ∨ v2'.ownBlock = some w.heap.size) : KJ w' B v1 ks v2' (f.app (.cons h0 k .nil)) := by
  have hU : ∀ b, (S b ∨ S2 b) → B ≤ b ∧ b < w.heap.size ∧ v1.ownBlock ≠ some b ∧ v2.ownBlock ≠ some b := fun b hb => hb.elim (hS b) (hS2 b)
  refine ⟨own_at h.keys fun b hb => hg.block b (own_lt h.keys hb).2 (fun e => h.ne hb e.symm), ⟨fun b => S b ∨ S2 b, vs ++ us, by rw [F.len_app]; exact ho', ((hp.more fun b h => .inl h).app (hu.more fun b h => .inr h)).kept fun p hp => World.cell?_of_block (hg.block _ (hU _ hp).2.1 (fun e => (hU _ hp).2.2.2 e.symm)), fun b hb => ?_⟩, Nat.le_trans h.size hg.size⟩
  obtain ⟨a1, a2, a3, a4⟩ := hU b hb
  refine ⟨a1, by have := hg.size; omega, a3, fun e => ?_⟩
  rcases hl with hl | hl
  · exact a4 (hl.symm.trans e)
  · rw [hl] at e; cases e; omega
end
/-- Members that were read ahead. -/
def Out.preM (ks : List (List UInt8)) (f : F) : Out → Out
  | .err no r => .err no r
  | .ok h k r => .ok { h with keys := ks ++ h.keys } (f.app k) r
theorem preM_consM (ks : List (List UInt8)) (f : F) (t : List UInt8) (h : Hd) (k : F) (o : Out) : (o.consM t h k).preM ks f = o.preM (ks ++ [t]) (f.app (.cons h k .nil)) := by
  cases o with
  | err no r => rfl
  | ok h0 k0 r => simp only [Out.consM, Out.preM, F.app_assoc, List.append_assoc, List.cons_append, List.nil_append]; rfl
theorem preM_nil (o : Out) : o.preM [] .nil = o := by cases o <;> rfl
def hd6 (ks : List (List UInt8)) : Hd := ⟨6, 0, [], ks⟩
/-- What members leaves. -/
def MmP (rb : Nat) (s : List UInt8) (i d : Nat) (w : World) (x : Ending) (w' : World) : Prop :=
  ∃ ks f A c A' c', x = .returned (.agg #[.int .i64 6, .int .i64 0, .string ⟨#[]⟩, .slice A f.len c, .slice A' ks.length c']) ∧ TV encJ w' (FrR w w') (hd6 ks) f (jcells (hd6 ks) (.slice A f.len c) (.slice A' ks.length c')) ∧ KR rb w w' ∧ AgV rb s w' (objO d (s.drop i)) (hd6 ks) f
def MmC (rb : Nat) (s : List UInt8) (n : Nat) : Prop := ∀ (i d wh : Nat) (w : World), i ≤ s.length → s.length - i ≤ n → d ≤ 32 → Rb w rb s i 0 wh →
  Calls Tryz.prog 110 #[.pointer (some ⟨rb, 0, none⟩), .agg #[.int .i64 6, .int .i64 0, .string ⟨#[]⟩, .slice none 0 0, .slice none 0 0], .int .i64 (d : Nat)] w (MmP rb s i d w)
/-- The object's memory while its members are read. -/
structure MS (rb : Nat) (w wr : World) (ks : List (List UInt8)) (f : F) (iv kv : Value) : Prop where
  b0 : Blk wr w.heap.size 25 #[.int .i64 6, .int .i64 0, .string ⟨#[]⟩, iv, kv]
  b1 : Blk wr (w.heap.size + 1) 25 #[.int .i64 0, .int .i64 0, .string ⟨#[]⟩, .slice none 0 0, .slice none 0 0]
  kj : KJ wr (w.heap.size + 2) kv ks iv f
  kr : KR rb w wr
  rb : rb < w.heap.size
theorem MS.step {rb : Nat} {w wr w1 : World} {ks : List (List UInt8)} {f : F} {iv kv : Value} (h : MS rb w wr ks f iv kv) (k : KR rb wr w1) : MS rb w w1 ks f iv kv := by
  have hrb := h.rb
  refine ⟨Kp.blk k h.b0 h.b0.lt (by omega), Kp.blk k h.b1 h.b1.lt (by omega), h.kj.kept (fun b h1 h2 => k.block b h2 (by omega)) (kr_size k), kr_trans h.kr k, hrb⟩
theorem MS.size {rb : Nat} {w wr : World} {ks : List (List UInt8)} {f : F} {iv kv : Value} (h : MS rb w wr ks f iv kv) : w.heap.size + 2 ≤ wr.heap.size := h.kj.size
theorem agV_at {rb : Nat} {s : List UInt8} {w w1 : World} {o : Out} {h : Hd} {k : F} (a : AgV rb s w o h k) (e : w1.heap[rb]? = w.heap[rb]?) : AgV rb s w1 o h k := by
  rcases a with ⟨j, wh, h1, h2, h3⟩ | ⟨no, r, j, h1, h2, h3, h4⟩
  · exact .inl ⟨j, wh, h1, h2, e.trans h3⟩
  · exact .inr ⟨no, r, j, h1, h2, h3, e.trans h4⟩
/-- The object is answered. -/
theorem mm_end {rb : Nat} {s : List UInt8} {i d : Nat} {w wr : World} {ks : List (List UInt8)} {f : F} {A A' : Option Addr} {c c' : Nat} (h : MS rb w wr ks f (.slice A f.len c) (.slice A' ks.length c')) (hf : f.len ≤ 4398046511104) (hk : ks.length ≤ 4398046511104) (a : AgV rb s wr (objO d (s.drop i)) (hd6 ks) f) :
    MmP rb s i d w (.returned (.agg #[.int .i64 6, .int .i64 0, .string ⟨#[]⟩, .slice A f.len c, .slice A' ks.length c'])) (wr.setRow (w.heap.size + 1) #[.int .i64 6, .int .i64 0, .string ⟨#[]⟩, .slice A f.len c, .slice A' ks.length c']) := by
  have hrb := h.rb
  obtain ⟨S, vs, ho, hp, hS⟩ := h.kj.items
  have hkk := h.kj.keys
  obtain ⟨A2, c2, e2, hr⟩ := RdS.of_own ho
  obtain ⟨A3, c3, e3, hr'⟩ := RdS.of_own hkk
  cases e2
  cases e3
  have hB : ∀ b, (S b ∨ (Value.slice A f.len c).ownBlock = some b ∨ (Value.slice A' ks.length c').ownBlock = some b) → w.heap.size + 2 ≤ b ∧ b < wr.heap.size := fun b hb => by
    rcases hb with hb | hb | hb
    · exact ⟨(hS b hb).1, (hS b hb).2.1⟩
    · exact own_lt ho hb
    · exact own_lt hkk hb
  refine ⟨ks, f, A, c, A', c', rfl, ?_, ?_, agV_at a (setRow_other _ _ _ _ (by omega))⟩
  · have htv : TV encJ wr (fun b => S b ∨ (Value.slice A f.len c).ownBlock = some b ∨ (Value.slice A' ks.length c').ownBlock = some b) (hd6 ks) f (jcells (hd6 ks) (.slice A f.len c) (.slice A' ks.length c')) :=
      ⟨A, c, A', c', vs, rfl, hf, ⟨hk, fun e => by cases e⟩, hr.more fun b hb => .inr (.inl hb), hp.more fun b hb => .inl hb, hr'.more fun b hb => .inr (.inr hb)⟩
    exact (htv.kept fun p hp => cell_setRow_other _ _ _ _ (by have := (hB _ hp).1; omega)).more fun b hb => ⟨by have := (hB b hb).1; omega, by rw [setRow_size]; exact (hB b hb).2⟩
  · have := below_setRow (Below.refl (w.heap.size + 1) wr) (Nat.le_refl _) #[.int .i64 6, .int .i64 0, .string ⟨#[]⟩, .slice A f.len c, .slice A' ks.length c']
    exact Kp.trans h.kr (Kp.of_below (this.mono (by omega)))
theorem opn_bl2 {c : UInt8} {t : List UInt8} (h : isC c t = false) : opn c t = none := opn_bl h
theorem MS.off {rb : Nat} {w wr : World} {ks : List (List UInt8)} {f : F} {iv kv : Value} (h : MS rb w wr ks f iv kv) : (∀ b, kv.ownBlock = some b → w.heap.size + 2 ≤ b ∧ b < wr.heap.size) ∧ (∀ b, iv.ownBlock = some b → w.heap.size + 2 ≤ b ∧ b < wr.heap.size) := by
  obtain ⟨S, vs, ho, _⟩ := h.kj.items
  exact ⟨fun b hb => own_lt h.kj.keys hb, fun b hb => own_lt ho hb⟩
section
variable {rb : Nat} {w wr w' : World} {ks : List (List UInt8)} {f : F} {iv kv v' : Value} {o : Obj}
theorem MS.grown {row : Option Nat} (h : MS rb w wr ks f iv kv) (hg : (wr.alloc o).grownBy w' row) (hr : ∀ b, row = some b → w.heap.size + 2 ≤ b) : Below (w.heap.size + 2) wr w' :=
  Below.grown ((Below.refl _ wr).alloc h.size _) hg (by have := h.size; simp; omega) hr
theorem MS.blk0 {row : Option Nat} (h : MS rb w wr ks f iv kv) (hg : (wr.alloc o).grownBy w' row) (hr : ∀ b, row = some b → w.heap.size + 2 ≤ b) : Blk w' w.heap.size 25 #[.int .i64 6, .int .i64 0, .string ⟨#[]⟩, iv, kv] := h.b0.below (h.grown hg hr) (by omega)
theorem kr_store {n : Nat} {u : Value} (h : MS rb w wr ks f iv kv) (hb : Below (w.heap.size + 2) wr w') : KR rb w (w'.setCell ⟨w.heap.size, n, none⟩ u) := Kp.setCell (Kp.trans h.kr (Kp.of_below (hb.mono (by omega)))) (.inl (Nat.le_refl _)) u
/-- A key more. -/
theorem MS.key {t : List UInt8} (h : MS rb w wr ks f iv kv) (ho' : w'.ownsRow (w.heap.size + 2) 9 1 v' (ks.length + 1) (tx ks ++ [.string ⟨t.toArray⟩])) (hg : (wr.alloc o).grownBy w' kv.ownBlock) (hl : v'.ownBlock = kv.ownBlock ∨ v'.ownBlock = some (wr.alloc o).heap.size) :
    MS rb w (w'.setCell ⟨w.heap.size, 4, none⟩ v') (ks ++ [t]) f iv v' := by
  have hb := h.grown hg fun b e => (h.off.1 b e).1
  have hkj : KJ (wr.alloc o) (w.heap.size + 2) kv ks iv f := h.kj.kept (fun b _ hb => Below.heap_alloc wr o b hb) (by simp)
  refine ⟨(h.b0.below hb (by omega)).set_ 4 v', (h.b1.below hb (by omega)).far (p := ⟨w.heap.size, 4, none⟩) (by show w.heap.size + 1 ≠ w.heap.size; omega) v', ?_, kr_store h hb, h.rb⟩
  exact (hkj.key ho' hg hl).kept (fun b h1 _ => Below.heap_setCell _ _ _ b (by show b ≠ w.heap.size; omega)) (by simp)
/-- An item more. -/
theorem MS.item {S S2 : Nat → Prop} {h0 : Hd} {k : F} {vs us : List Value} (h : MS rb w wr ks f iv kv) (hp : TR encJ wr S f vs) (hS : ∀ b, S b → w.heap.size + 2 ≤ b ∧ b < wr.heap.size ∧ kv.ownBlock ≠ some b ∧ iv.ownBlock ≠ some b) (hu : TR encJ wr S2 (.cons h0 k .nil) us) (hS2 : ∀ b, S2 b → w.heap.size + 2 ≤ b ∧ b < wr.heap.size ∧ kv.ownBlock ≠ some b ∧ iv.ownBlock ≠ some b)
    (ho' : w'.ownsRow (w.heap.size + 2) 25 5 v' (f.len + 1) (vs ++ us)) (hg : (wr.alloc o).grownBy w' iv.ownBlock) (hl : v'.ownBlock = iv.ownBlock ∨ v'.ownBlock = some (wr.alloc o).heap.size) :
    MS rb w (w'.setCell ⟨w.heap.size, 3, none⟩ v') ks (f.app (.cons h0 k .nil)) v' kv := by
  have hb := h.grown hg fun b e => (h.off.2 b e).1
  have hkj : KJ (wr.alloc o) (w.heap.size + 2) kv ks iv f := h.kj.kept (fun b _ hb => Below.heap_alloc wr o b hb) (by simp)
  refine ⟨(h.b0.below hb (by omega)).set_ 3 v', (h.b1.below hb (by omega)).far (p := ⟨w.heap.size, 3, none⟩) (by show w.heap.size + 1 ≠ w.heap.size; omega) v', ?_, kr_store h hb, h.rb⟩
  refine KJ.kept (hkj.item (hp.kept fun p hp => World.cell?_alloc_lt _ _ _ (hS _ hp).2.1) (fun b hb => ⟨(hS b hb).1, by have := (hS b hb).2.1; simp; omega, (hS b hb).2.2⟩) (hu.kept fun p hp => World.cell?_alloc_lt _ _ _ (hS2 _ hp).2.1) (fun b hb => ⟨(hS2 b hb).1, by have := (hS2 b hb).2.1; simp; omega, (hS2 b hb).2.2⟩) ho' hg hl) (fun b h1 _ => Below.heap_setCell _ _ _ b (by show b ≠ w.heap.size; omega)) (by simp)
theorem rb_store {n i e wh : Nat} {u : Value} {s : List UInt8} (h : MS rb w wr ks f iv kv) (hb : Below (w.heap.size + 2) wr w') (hr : Rb wr rb s i e wh) : Rb (w'.setCell ⟨w.heap.size, n, none⟩ u) rb s i e wh :=
  Blk.far (Blk.below hr hb (by have := h.rb; omega)) (p := ⟨w.heap.size, n, none⟩) (by have := h.rb; show rb ≠ w.heap.size; omega) u
end
theorem dupL_new {ks : List (List UInt8)} (hn : ks.Nodup) (t : List UInt8) : dupL (ks ++ [t]) = decide (t ∈ ks) := by
  induction ks with
  | nil => rfl
  | cons x r ih =>
    rw [List.nodup_cons] at hn
    rw [List.cons_append, dupL, ih hn.2, Bool.eq_iff_iff]
    simp only [List.mem_append, List.mem_cons, List.not_mem_nil, or_false, Bool.or_eq_true, decide_eq_true_eq]
    constructor
    · rintro ((h | h) | h)
      · exact absurd h hn.1
      · exact .inl h.symm
      · exact .inr h
    · rintro (h | h)
      · exact .inl (.inr h.symm)
      · exact .inr h
/-- The members that are read: at the head of the loop. -/
def MmR (rb : Nat) (s : List UInt8) (i d : Nat) (w : World) (gk : Nat) (wr : World) : Prop :=
  ∃ ks f A c A' c' j wh, MS rb w wr ks f (.slice A f.len c) (.slice A' ks.length c') ∧ ks.Nodup ∧ ks.length = f.len ∧ f.len ≤ j ∧ j ≤ s.length ∧ i ≤ j ∧ s.length - j < gk ∧ Rb wr rb s j 0 wh ∧ objO d (s.drop i) = (mems ks d (s.drop j)).preM ks f
-- <
set_option maxHeartbeats 12800000 in
set_option maxRecDepth 100000 in
theorem members_step (rb : Nat) (s : List UInt8) (n : Nat) (hs0 : s.length ≤ 1099511627776) (hV : VlC rb s n) : MmC rb s n := by
  intro i d wh w hi hn hd hr
  have hs : s.length ≤ 4398046511104 := by omega
  obtain ⟨i0, hi0, hz0, hz1, hz2⟩ := info_parts infoJson
  obtain ⟨i1, hj0, hy0, hy1, hy2⟩ := info_parts infoStr
  have HRB : Hid (rb < w.heap.size) := Lib.hid (Blk.lt hr)
  have HV := Lib.hid hV
  have HN := Lib.hid hn
  obtain ⟨wz, hwz⟩ : ∃ wz, wz = (w.alloc (.cells #[.int .i64 6, .int .i64 0, .string ⟨#[]⟩, .slice none 0 0, .slice none 0 0] 25)).alloc (.cells #[.int .i64 0, .int .i64 0, .string ⟨#[]⟩, .slice none 0 0, .slice none 0 0] 25) := ⟨_, rfl⟩
  have HMZ : Hid (MS rb w wz [] .nil (.slice none 0 0) (.slice none 0 0)) := Lib.hid (by
    have hb : Below w.heap.size w wz := by rw [hwz]; exact ((Below.refl _ _).alloc (Nat.le_refl _) _).alloc (by simp) _
    refine ⟨by rw [hwz]; exact Blk.alloc (Blk.new _ _ _) _, ?_, KJ.nil _ _ (by rw [hwz]; simp), kr_below (kr_refl _ _) hb, HRB.out⟩
    have := Blk.new (w.alloc (.cells #[.int .i64 6, .int .i64 0, .string ⟨#[]⟩, .slice none 0 0, .slice none 0 0] 25)) 25 #[.int .i64 0, .int .i64 0, .string ⟨#[]⟩, .slice none 0 0, .slice none 0 0]
    rw [World.size_alloc] at this
    rw [hwz]; exact this)
  have HRZ : Hid (Rb wz rb s i 0 wh) := Lib.hid (by rw [hwz]; exact Blk.alloc (Blk.alloc hr _) _)
  have HBL := Lib.hid (blanksR_any rb s i 0 wh wz HRZ.out hi hs)
  clear hr hV hn
  go_enter Tryz.func110, Tryz.ntmps110
  go_upto_region 1 with fail
  rw [← hwz]
  clear hwz
  go_wp2_with fail
  refine HBL.out.mono ?_
  rintro x w1 ⟨rfl, hr1, hk1⟩
  obtain ⟨hq1, hq2⟩ := blA_ge hi
  have HDB : Hid (s.drop (blA s i) = bl (s.drop i)) := Lib.hid (drop_blA s i)
  generalize blA s i = q at hr1 hq1 hq2 HDB
  have HR1 := Lib.hid hr1
  have HM1 := Lib.hid (HMZ.out.step hk1)
  clear hr1 hk1 HBL HMZ HRZ
  obtain ⟨c0, c1, _, _⟩ := HR1.out.cells
  by_cases hlt : q < s.length
  · have HE := Lib.hid (fun wx (h : Rb wx rb s q 0 wh) => endR_f rb s q 0 wh wx h hlt)
    have hidx := run_index_list Tryz.underlying9 s q hlt
    have HDG := Lib.hid (drop_get hlt)
    generalize s.getD q 0 = c at hidx HDG
    by_cases h125 : c = 125
    · have q1 : ((c.toNat : Int) == 125) = true := b8t h125
      have HLO : Hid (objO d (s.drop i) = .ok (hd6 []) .nil (s.drop (q + 1))) := Lib.hid (by unfold objO opn; rw [← HDB.out, HDG.out]; simp only; rw [if_pos h125]; rfl)
      clear h125
      go_wp2_with fail
      go_quiet (exact Calls.quiet_of (HE.out _ HR1.out))
      have HR2 : Hid (Rb (w1.drewN nq) rb s q 0 wh) := Lib.hid HR1.out
      have HM2 : Hid (MS rb w (w1.drewN nq) [] .nil (.slice none 0 0) (.slice none 0 0)) := Lib.hid (HM1.out.step (kr_drewN _ _ _))
      clear c0 c1 HR1 HM1
      generalize w1.drewN nq = w2 at HR2 HM2 ⊢
      obtain ⟨c0, c1, _, _⟩ := HR2.out.cells
      have f1 := Blk.frozen HR2.out 1
      go_upto_region 4 with fail
      have HR3 : Hid (Rb (w2.setCell ⟨rb, 1, none⟩ (.int .i64 ((q : Int) + 1))) rb s (q + 1) 0 wh) := Lib.hid (by have := HR2.out.at_ (q + 1); push_cast at this; exact this)
      have HM3 : Hid (MS rb w (w2.setCell ⟨rb, 1, none⟩ (.int .i64 ((q : Int) + 1))) [] .nil (.slice none 0 0) (.slice none 0 0)) := Lib.hid (HM2.out.step (kr_set (kr_refl _ _) _))
      clear c0 c1 f1 HR2 HM2
      generalize w2.setCell ⟨rb, 1, none⟩ (.int .i64 ((q : Int) + 1)) = w3 at HR3 HM3 ⊢
      have HAG : Hid (AgV rb s w3 (objO d (s.drop i)) (hd6 []) .nil) := Lib.hid (.inl ⟨q + 1, wh, by omega, HLO.out, HR3.out⟩)
      have HM4 : Hid (MS rb w w3 [] .nil (.slice none F.nil.len 0) (.slice none ([] : List (List UInt8)).length 0)) := HM3
      obtain ⟨_, _, c2, _⟩ := HR3.out.cells
      have y0 := HM3.out.b0.cell 0
      have y1 := HM3.out.b0.cell 1
      have y2 := HM3.out.b0.cell 2
      have y3 := HM3.out.b0.cell 3
      have y4 := HM3.out.b0.cell 4
      go_wp2_with (refine wpList_store_row rfl 25 _ _ rfl _ _ rfl rfl 25 _ HM3.out.b1 (by kernel_rfl) rfl (by simp [Value.oneCell']) ?_)
      exact bodyPost_ret (results_row rfl _ _ (w.heap.size + 1) 25 _ (0, 0) _ rfl (setRow_heap _ _ _ _ _ _ HM3.out.b1) Tryz.underlying25 rfl (by kernel_rfl)) rfl (mm_end HM4.out (by simp [F.len]) (by simp) HAG.out)
    · have q1 : ((c.toNat : Int) == 125) = false := b8f h125
      have HLO : Hid (objO d (s.drop i) = mems [] d (s.drop i)) := Lib.hid (by
        unfold objO
        rw [opn_bl (by unfold isC; rw [← HDB.out, HDG.out]; exact decide_eq_false h125)])
      clear h125
      go_wp2_with fail
      go_quiet (exact Calls.quiet_of (HE.out _ HR1.out))
      have HR2 : Hid (Rb (w1.drewN nq) rb s q 0 wh) := Lib.hid HR1.out
      have HM2 : Hid (MS rb w (w1.drewN nq) [] .nil (.slice none 0 0) (.slice none 0 0)) := Lib.hid (HM1.out.step (kr_drewN _ _ _))
      clear c0 c1 HR1 HM1 hidx q1 HDG HE
      generalize w1.drewN nq = w2 at HR2 HM2 ⊢
      have HIB : Hid (mems [] d (s.drop i) = mems [] d (s.drop q)) := Lib.hid (by rw [mems_eq, mems_eq, HDB.out, key_bl])
      have HS0 : Hid (MmR rb s i d w (s.length + 1) w2) := Lib.hid ⟨[], .nil, none, 0, none, 0, q, wh, HM2.out, List.nodup_nil, rfl, by simp [F.len], hq2, hq1, by omega, HR2.out, by rw [HLO.out, HIB.out, preM_nil]⟩
      clear HR2 HM2 HIB HDB HLO
      go_wp2_with fail
      go_loopg [] (s.length + 1) (fun gk wr => MmR rb s i d w gk wr)
      case atStart => exact HS0.out
      case round =>
        clear HS0
        obtain ⟨ks, f, A, cc, A', cc', j, wh1, hms, hnd, hkl, hfj, hj, hij, hgk, hrb, ho⟩ := hrel
        have HMS := Lib.hid hms
        have HND := Lib.hid hnd
        have HR := Lib.hid hrb
        have HO : Hid (objO d (s.drop i) = (match key ks (s.drop j) with
          | .err no r => .err no r
          | .ok t p => match val (d + 1) p with
            | .err no r => .err no r
            | .ok h k r => match nx 125 r with
              | .err no q => .err no q
              | .fin q => .ok ⟨6, 0, [], [t]⟩ (.cons h k .nil) q
              | .more q => (mems (ks ++ [t]) d q).consM t h k : Out).preM ks f) := Lib.hid (by rw [ho, mems_eq]; rfl)
        have HKL := Lib.hid hkl
        have hkl2 : ks.length ≤ 1099511627776 := by omega
        clear hms hnd hrb ho hkl
        obtain ⟨_, _, c2, _⟩ := HR.out.cells
        have HBL := Lib.hid (blanksR_any rb s j 0 wh1 wr HR.out hj hs)
        go_wp2_with fail
        refine HBL.out.mono ?_
        rintro x w3 ⟨rfl, hr3, hk3⟩
        obtain ⟨hp1, hp2⟩ := blA_ge hj
        have HDB : Hid (key ks (s.drop j) = key ks (s.drop (blA s j))) := Lib.hid (by rw [drop_blA, key_bl])
        have HDN : Hid (bl (s.drop (blA s j)) = s.drop (blA s j)) := Lib.hid (by rw [drop_blA, bl_bl])
        generalize blA s j = p at hr3 hp1 hp2 HDB HDN
        have HR3 := Lib.hid hr3
        have HM3 := Lib.hid (HMS.out.step hk3)
        clear hr3 hk3 HBL HMS HR c2
        obtain ⟨c0, c1, c2, _⟩ := HR3.out.cells
        have HBY : Hid (Calls Tryz.prog 148 #[.pointer (some ⟨rb, 0, none⟩), .string ⟨#[34]⟩] w3 (ByP rb s p [34] w3)) := Lib.hid (byteR_any rb s p wh1 [34] w3 HR3.out hs hp2 (by decide))
        go_wp2_with fail
        refine HBY.out.mono ?_
        rintro x w4 ⟨hk4, hx4⟩
        have HM4 := Lib.hid (HM3.out.step hk4)
        clear hk4 HM3 HR3 HBY c0 c1 c2
        rcases hx4 with ⟨hpe, rfl, hr4⟩ | ⟨hpl, hmem, rfl, wh4, hr4⟩ | ⟨hpl, hmem, rfl, hr4⟩
        · have HR4 := Lib.hid hr4
          have HAG : Hid (AgV rb s w4 (objO d (s.drop i)) (hd6 ks) f) := Lib.hid (.inr ⟨2, [], p, by decide, hp2, by rw [HO.out, HDB.out, List.drop_eq_nil_of_le hpe]; rfl, by rw [List.length_nil, show s.length - 0 = p by omega]; exact hr4⟩)
          clear hr4
          obtain ⟨_, _, c2, _⟩ := HR4.out.cells
          have y0 := HM4.out.b0.cell 0
          have y1 := HM4.out.b0.cell 1
          have y2 := HM4.out.b0.cell 2
          have y3 := HM4.out.b0.cell 3
          have y4 := HM4.out.b0.cell 4
          go_wp2_with (refine wpList_store_row rfl 25 _ _ rfl _ _ rfl rfl 25 _ HM4.out.b1 (by kernel_rfl) rfl (by simp [Value.oneCell']) ?_)
          exact bodyPost_ret (results_row rfl _ _ (w.heap.size + 1) 25 _ (0, 0) _ rfl (setRow_heap _ _ _ _ _ _ HM4.out.b1) Tryz.underlying25 rfl (by kernel_rfl)) rfl (mm_end HM4.out (by omega) (by omega) HAG.out)
        · have h34 : s.getD p 0 = 34 := List.mem_singleton.1 hmem
          have HKEY : Hid (key ks (s.drop j) = match txt (s.drop (p + 1)) with
            | .err no q => .err no q
            | .ok t q => if t ∈ ks then .err 11 (s.drop p) else colon t q) := Lib.hid (by
            rw [HDB.out]
            unfold key
            rw [HDN.out, drop_get hpl]
            simp only
            rw [if_pos h34]
            rfl)
          have HR4 := Lib.hid hr4
          clear hr4 hmem h34 HDB HDN
          obtain ⟨_, _, c2, _⟩ := HR4.out.cells
          have HTX := Lib.hid (textR_any rb s (p + 1) wh4 w4 HR4.out hs (by omega))
          go_wp2_with fail
          refine HTX.out.mono ?_
          rintro x w5 ⟨t, rfl, hk5, hx5⟩
          have HM5 := Lib.hid (HM4.out.step hk5)
          have HX5 := Lib.hid hx5
          clear hk5 hx5 HM4 HR4 HTX c2
          have y4 := HM5.out.b0.cell 4
          have ws5 := HM5.out.size
          go_upto_region 13 with (at_builtin; go_loud (refine wpList_append_any _ rfl _ _ 23 rfl (w.heap.size + 2) 9 i1 (.string .empty) 1 16 Tryz.underlying23 hj0 hy0 hy1 hy2 rfl (by decide) (.slice A' ks.length cc') ks.length (tx ks) rfl (World.ownsRow.alloc HM5.out.kj.keys _) (w5.heap.size + 1) (some ⟨w5.heap.size, 0, none⟩) 1 1 [.string ⟨t.toArray⟩] rfl ((Reads.of_block (heap_alloc_new _ _) rfl).more (by simp)) (by intro u hu; obtain rfl := List.mem_singleton.1 hu; rfl) (by unfold maxLen; omega) (by omega) (by simp; omega) ?_; intro v6 w6 g1 g2 g3; obtain ⟨A6, c6, e6, _⟩ := own_readsN g1; subst e6; have HOW6 := Lib.hid g1; have HGR6 := Lib.hid g2; have HOB6 := Lib.hid g3; have HB6 := Lib.hid (HM5.out.blk0 g2 (fun b e => (HM5.out.off.1 b e).1)); have y4' := HB6.out.cell 4; have f4' := HB6.out.frozen 4; clear g1 g2 g3))
          have HB7 : Hid (Below (w.heap.size + 2) w5 w6) := Lib.hid (HM5.out.grown HGR6.out (fun b e => (HM5.out.off.1 b e).1))
          have HM7 : Hid (MS rb w (w6.setCell ⟨w.heap.size, 4, none⟩ (.slice A6 (ks.length + 1) c6)) (ks ++ [t]) f (.slice A f.len cc) (.slice A6 (ks ++ [t]).length c6)) := Lib.hid (by
            have := HM5.out.key HOW6.out HGR6.out HOB6.out
            rw [List.length_append]
            exact this)
          have HR7 : Hid (∀ i' e' h', Rb w5 rb s i' e' h' → Rb (w6.setCell ⟨w.heap.size, 4, none⟩ (.slice A6 (ks.length + 1) c6)) rb s i' e' h') := Lib.hid (fun i' e' h' h => rb_store HM5.out HB7.out h)
          obtain ⟨ks2, hks2⟩ : ∃ ks2, ks2 = ks ++ [t] := ⟨_, rfl⟩
          rw [← hks2] at HM7
          have HKS := Lib.hid hks2
          have HLK : Hid (ks2.length = ks.length + 1) := Lib.hid (by rw [hks2, List.length_append]; rfl)
          clear hks2
          clear y4 y4' f4' HB6 HB7 HOW6 HGR6 HOB6 HM5 ws5
          rw [← HLK.out]
          rw [← HLK.out] at HM7 HR7
          generalize w6.setCell ⟨w.heap.size, 4, none⟩ (.slice A6 ks2.length c6) = w7 at HM7 HR7 ⊢
          have hlk2 : ks2.length ≤ 1099511627777 := by rw [HLK.out]; omega
          rcases HX5.out with ⟨j1, wh5, hj1, htx, hr5⟩ | ⟨no, r, j5, ht0, hno, hj5, htx, hr5⟩
          · have HR7b := Lib.hid (HR7.out _ _ _ hr5)
            have htl := txt_len _ _ _ _ (Nat.le_refl _) htx
            rw [List.length_drop, List.length_drop] at htl
            have HKEY2 : Hid (key ks (s.drop j) = if t ∈ ks then .err 11 (s.drop p) else colon t (s.drop j1)) := Lib.hid (by rw [HKEY.out, htx])
            clear htx hr5 HX5 HKEY HR7
            obtain ⟨_, _, c2, _⟩ := HR7b.out.cells
            have y4 := HM7.out.b0.cell 4
            have HTW := Lib.hid (twice_any ks2 A6 ks2.length c6 w7 (Reads.of_own HM7.out.kj.keys) (by omega))
            by_cases hmt : t ∈ ks
            · have HDU : Hid (dupL ks2 = true) := Lib.hid (by rw [HKS.out, dupL_new HND.out]; exact decide_eq_true hmt)
              have HOE : Hid (objO d (s.drop i) = .err 11 (s.drop p)) := Lib.hid (by rw [HO.out, HKEY2.out, if_pos hmt]; rfl)
              rw [HDU.out] at HTW
              clear hmt
              go_wp2_with fail
              refine HTW.out.mono ?_
              rintro x w8 ⟨rfl, hb8⟩
              have HM8 := Lib.hid (HM7.out.step (kr_below (kr_refl _ _) hb8))
              have HR8 : Hid (Rb w8 rb s j1 0 wh5) := Lib.hid (Blk.below HR7b.out hb8 (Blk.lt HR7b.out))
              clear hb8 HTW c2 y4 HM7 HR7b
              have HF := Lib.hid (failR_any rb s j1 wh5 11 p w8 HR8.out)
              go_wp2_with fail
              refine HF.out.mono ?_
              rintro x w9 ⟨rfl, hr9, hk9⟩
              have HM9 := Lib.hid (HM8.out.step hk9)
              have HR9 := Lib.hid hr9
              clear hr9 hk9 HF HM8 HR8
              have HBL := Lib.hid (blanksR_any rb s j1 11 p w9 HR9.out hj1 hs)
              go_wp2_with fail
              refine HBL.out.mono ?_
              rintro x w10 ⟨rfl, hr10, hk10⟩
              have HM10 := Lib.hid (HM9.out.step hk10)
              obtain ⟨_, hz2'⟩ := blA_ge hj1
              generalize blA s j1 = p2 at hr10 hz2'
              have HR10 := Lib.hid hr10
              have HAG : Hid (AgV rb s w10 (objO d (s.drop i)) (hd6 ks2) f) := Lib.hid (.inr ⟨11, s.drop p, p2, by decide, hz2', HOE.out, by rw [len_drop hp2]; exact hr10⟩)
              clear hr10 hk10 HBL HM9 HR9
              obtain ⟨_, _, c2, _⟩ := HR10.out.cells
              have y0 := HM10.out.b0.cell 0
              have y1 := HM10.out.b0.cell 1
              have y2 := HM10.out.b0.cell 2
              have y3 := HM10.out.b0.cell 3
              have y4 := HM10.out.b0.cell 4
              go_wp2_with (refine wpList_store_row rfl 25 _ _ rfl _ _ rfl rfl 25 _ HM10.out.b1 (by kernel_rfl) rfl (by simp [Value.oneCell']) ?_)
              exact bodyPost_ret (results_row rfl _ _ (w.heap.size + 1) 25 _ (0, 0) _ rfl (setRow_heap _ _ _ _ _ _ HM10.out.b1) Tryz.underlying25 rfl (by kernel_rfl)) rfl (mm_end HM10.out (by omega) (by omega) HAG.out)
            · have HDU : Hid (dupL ks2 = false) := Lib.hid (by rw [HKS.out, dupL_new HND.out]; exact decide_eq_false hmt)
              have HKEY3 : Hid (key ks (s.drop j) = colon t (s.drop j1)) := Lib.hid (by rw [HKEY2.out, if_neg hmt])
              have HND2 : Hid (ks2.Nodup) := Lib.hid (by
                rw [HKS.out, List.nodup_append]
                exact ⟨HND.out, by simp, fun a ha b hb e => by obtain rfl := List.mem_singleton.1 hb; exact hmt (e ▸ ha)⟩)
              rw [HDU.out] at HTW
              clear hmt HKEY2
              go_wp2_with fail
              refine HTW.out.mono ?_
              rintro x w8 ⟨rfl, hb8⟩
              have HM8 := Lib.hid (HM7.out.step (kr_below (kr_refl _ _) hb8))
              have HR8 : Hid (Rb w8 rb s j1 0 wh5) := Lib.hid (Blk.below HR7b.out hb8 (Blk.lt HR7b.out))
              clear hb8 HTW c2 y4 HM7 HR7b
              have HBL := Lib.hid (blanksR_any rb s j1 0 wh5 w8 HR8.out hj1 hs)
              go_wp2_with fail
              refine HBL.out.mono ?_
              rintro x w9 ⟨rfl, hr9, hk9⟩
              have HM9 := Lib.hid (HM8.out.step hk9)
              obtain ⟨hz1', hz2'⟩ := blA_ge hj1
              have HDB3 : Hid (s.drop (blA s j1) = bl (s.drop j1)) := Lib.hid (drop_blA s j1)
              generalize blA s j1 = p2 at hr9 hz1' hz2' HDB3
              have HR9 := Lib.hid hr9
              clear hr9 hk9 HBL HM8 HR8
              obtain ⟨_, _, c2, _⟩ := HR9.out.cells
              have HBY : Hid (Calls Tryz.prog 148 #[.pointer (some ⟨rb, 0, none⟩), .string ⟨#[58]⟩] w9 (ByP rb s p2 [58] w9)) := Lib.hid (byteR_any rb s p2 wh5 [58] w9 HR9.out hs hz2' (by decide))
              go_wp2_with fail
              refine HBY.out.mono ?_
              rintro x w10 ⟨hk10, hx10⟩
              have HM10 := Lib.hid (HM9.out.step hk10)
              clear hk10 HM9 HR9 HBY c2
              rcases hx10 with ⟨hpe, rfl, hr10⟩ | ⟨hpl2, hmem2, rfl, wh6, hr10⟩ | ⟨hpl2, hmem2, rfl, hr10⟩
              · have HR10 := Lib.hid hr10
                have HAG : Hid (AgV rb s w10 (objO d (s.drop i)) (hd6 ks2) f) := Lib.hid (.inr ⟨2, [], p2, by decide, hz2', by rw [HO.out, HKEY3.out]; unfold colon; rw [← HDB3.out, List.drop_eq_nil_of_le hpe]; rfl, by rw [List.length_nil, show s.length - 0 = p2 by omega]; exact hr10⟩)
                clear hr10
                obtain ⟨_, _, c2, _⟩ := HR10.out.cells
                have y0 := HM10.out.b0.cell 0
                have y1 := HM10.out.b0.cell 1
                have y2 := HM10.out.b0.cell 2
                have y3 := HM10.out.b0.cell 3
                have y4 := HM10.out.b0.cell 4
                go_wp2_with (refine wpList_store_row rfl 25 _ _ rfl _ _ rfl rfl 25 _ HM10.out.b1 (by kernel_rfl) rfl (by simp [Value.oneCell']) ?_)
                exact bodyPost_ret (results_row rfl _ _ (w.heap.size + 1) 25 _ (0, 0) _ rfl (setRow_heap _ _ _ _ _ _ HM10.out.b1) Tryz.underlying25 rfl (by kernel_rfl)) rfl (mm_end HM10.out (by omega) (by omega) HAG.out)
              · have h58 : s.getD p2 0 = 58 := List.mem_singleton.1 hmem2
                have HKEY4 : Hid (key ks (s.drop j) = .ok t (s.drop (p2 + 1))) := Lib.hid (by
                  rw [HKEY3.out]
                  unfold colon
                  rw [← HDB3.out, drop_get hpl2]
                  simp only
                  rw [if_pos h58])
                have HR10 := Lib.hid hr10
                clear hr10 hmem2 h58 HKEY3 HDB3
                obtain ⟨_, _, c2, _⟩ := HR10.out.cells
                have HVC : Hid (Calls Tryz.prog 46 #[.pointer (some ⟨rb, 0, none⟩), .int .i64 ((d : Int) + 1)] w10 (VlP rb s (p2 + 1) (d + 1) w10)) := Lib.hid (by
                  have := HV.out (p2 + 1) (d + 1) wh6 w10 (by omega) (by have := HN.out; omega) (by omega) HR10.out
                  push_cast at this
                  exact this)
                go_wp2_with fail
                refine HVC.out.mono ?_
                rintro x w11 ⟨h0, kk, A1, e1, A2, e2, rfl, htv, hk11, hag⟩
                have HM11 := Lib.hid (HM10.out.step hk11)
                have HTV := Lib.hid htv
                have HAG11 := Lib.hid hag
                have HOF : Hid ((∀ b, Value.ownBlock (.slice A6 ks2.length c6) = some b → b < w10.heap.size) ∧ (∀ b, Value.ownBlock (.slice A f.len cc) = some b → b < w10.heap.size) ∧ w.heap.size + 2 ≤ w10.heap.size ∧ w10.heap.size ≤ w11.heap.size) := Lib.hid ⟨fun b e => (HM10.out.off.1 b e).2, fun b e => (HM10.out.off.2 b e).2, HM10.out.size, kr_size hk11⟩
                clear htv hk11 hag HVC HM10 HR10 c2
                go_upto_region 21 with (refine wpList_store_row rfl 25 _ _ rfl _ _ rfl rfl 25 _ (heap_alloc_new _ _) (by kernel_rfl) rfl rfl ?_)
                obtain ⟨w12, hw12⟩ : ∃ w12, w12 = w11.alloc (.cells #[.int .i64 h0.kind, .int .i64 h0.num, .string ⟨h0.text.toArray⟩, .slice A1 kk.len e1, .slice A2 h0.keys.length e2] 25) := ⟨_, rfl⟩
                have hb12 : Below w11.heap.size w11 w12 := by rw [hw12]; exact (Below.refl _ _).alloc (Nat.le_refl _) _
                have HN12 : Hid (Blk w12 w11.heap.size 25 #[.int .i64 h0.kind, .int .i64 h0.num, .string ⟨h0.text.toArray⟩, .slice A1 kk.len e1, .slice A2 h0.keys.length e2]) := Lib.hid (by rw [hw12]; exact Blk.new _ _ _)
                have HM12 := Lib.hid (HM11.out.step (kr_below (kr_refl _ _) hb12))
                have HTV12 := Lib.hid (HTV.out.kept (w' := w12) fun p hp => hb12.cell hp.2)
                have HAG12 := Lib.hid (agV_at HAG11.out (hb12.block rb (by have := HRB.out; have := HOF.out; omega)))
                have HS12 : Hid (w11.heap.size ≤ w12.heap.size) := Lib.hid hb12.size
                rw [← hw12]
                clear hw12 hb12 HM11 HTV HAG11
                obtain ⟨S6, xs, ho6, ht6, hS6⟩ := HM12.out.kj.items
                have HO6 : Hid (w12.ownsRow (w.heap.size + 2) 25 5 (.slice A f.len cc) f.len xs) := Lib.hid ho6
                have HT6 := Lib.hid ht6
                have HS6 := Lib.hid hS6
                clear ho6 ht6 hS6
                have y0 := HN12.out.cell 0
                have y1 := HN12.out.cell 1
                have y2 := HN12.out.cell 2
                have y3 := HN12.out.cell 3
                have y4 := HN12.out.cell 4
                have z3 := HM12.out.b0.cell 3
                have ws12 := HM12.out.size
                go_upto_region 22 with (at_builtin; go_loud (refine wpList_append_any _ rfl _ _ 22 rfl (w.heap.size + 2) 25 i0 _ 5 80 Tryz.underlying22 hi0 hz0 hz1 hz2 rfl (by decide) (.slice A f.len cc) f.len xs rfl (World.ownsRow.alloc HO6.out _) (w12.heap.size + 1) (some ⟨w12.heap.size, 0, none⟩) 1 1 (jcells h0 (.slice A1 kk.len e1) (.slice A2 h0.keys.length e2)) rfl ((Reads.of_block (heap_alloc_new _ _) rfl).more (by simp)) (encJ.one _ _ _ _ _ _ _) (by unfold maxLen; omega) (by omega) (by simp; omega) ?_; intro v13 w13 g1 g2 g3; obtain ⟨A13, c13, e13, _⟩ := own_readsN g1; subst e13; have HOW13 := Lib.hid g1; have HGR13 := Lib.hid g2; have HOB13 := Lib.hid g3; have HB13 := Lib.hid (HM12.out.blk0 g2 (fun b e => (HM12.out.off.2 b e).1)); have z3' := HB13.out.cell 3; have f3' := HB13.out.frozen 3; clear g1 g2 g3))
                have HB14 : Hid (Below (w.heap.size + 2) w12 w13) := Lib.hid (HM12.out.grown HGR13.out (fun b e => (HM12.out.off.2 b e).1))
                have HM14 : Hid (MS rb w (w13.setCell ⟨w.heap.size, 3, none⟩ (.slice A13 (f.len + 1) c13)) ks2 (f.app (.cons h0 kk .nil)) (.slice A13 (f.len + 1) c13) (.slice A6 ks2.length c6)) := Lib.hid (by
                  have hof := HOF.out
                  have hs12 := HS12.out
                  refine HM12.out.item HT6.out HS6.out HTV12.out.tr (fun b hb => ?_) HOW13.out HGR13.out HOB13.out
                  have h1 := hb.1
                  have h2 := hb.2
                  exact ⟨by omega, by omega, fun e => by have := hof.1 b e; omega, fun e => by have := hof.2.1 b e; omega⟩)
                have HAG14 : Hid (AgV rb s (w13.setCell ⟨w.heap.size, 3, none⟩ (.slice A13 (f.len + 1) c13)) (val (d + 1) (s.drop (p2 + 1))) h0 kk) := Lib.hid (agV_at HAG12.out ((Below.heap_setCell _ _ _ rb (by have := HRB.out; show rb ≠ w.heap.size; omega)).trans (HB14.out.block rb (by have := HRB.out; omega))))
                obtain ⟨f2, hf2⟩ : ∃ f2, f2 = f.app (.cons h0 kk .nil) := ⟨_, rfl⟩
                rw [← hf2] at HM14
                have HFA := Lib.hid hf2
                have HFL : Hid (f2.len = f.len + 1) := Lib.hid (by rw [hf2, F.len_app]; rfl)
                clear hf2 y0 y1 y2 y3 y4 z3 z3' f3' HB13 HB14 HOW13 HGR13 HOB13 HO6 HT6 HS6 HTV12 HAG12 HM12 HN12 ws12 HOF HS12
                rw [← HFL.out]
                rw [← HFL.out] at HM14 HAG14
                generalize w13.setCell ⟨w.heap.size, 3, none⟩ (.slice A13 f2.len c13) = w14 at HM14 HAG14 ⊢
                have hfl2 : f2.len ≤ 1099511627777 := by rw [HFL.out]; omega
                rcases HAG14.out with ⟨j3, wh7, hj3, hval, hr14⟩ | ⟨no, r, j3, hno, hj3, hval, hr14⟩
                · have HR14 := Lib.hid hr14
                  have hjj : p2 + 1 < j3 := by
                    have := val_len hval
                    rw [List.length_drop, List.length_drop] at this
                    omega
                  have HIT : Hid (objO d (s.drop i) = (match nx 125 (s.drop j3) with
                    | .err no q => .err no q
                    | .fin q => .ok ⟨6, 0, [], [t]⟩ (.cons h0 kk .nil) q
                    | .more q => (mems (ks ++ [t]) d q).consM t h0 kk : Out).preM ks f) := Lib.hid (by rw [HO.out, HKEY4.out]; simp only; rw [hval])
                  clear hval hr14 HAG14
                  obtain ⟨_, _, c2, _⟩ := HR14.out.cells
                  have HBL := Lib.hid (blanksR_any rb s j3 0 wh7 w14 HR14.out hj3 hs)
                  go_wp2_with fail
                  refine HBL.out.mono ?_
                  rintro x w15 ⟨rfl, hr15, hk15⟩
                  obtain ⟨hu1, hu2⟩ := blA_ge hj3
                  have HDB5 : Hid (s.drop (blA s j3) = bl (s.drop j3)) := Lib.hid (drop_blA s j3)
                  generalize blA s j3 = p3 at hr15 hu1 hu2 HDB5
                  have HM15 := Lib.hid (HM14.out.step hk15)
                  have HR15 := Lib.hid hr15
                  clear hr15 hk15 HBL HM14 HR14 c2
                  have HNX : Hid (nx 125 (s.drop j3) = match s.drop p3 with
                    | [] => .err 2 []
                    | c :: r => if c = 44 then .more r else if c = 125 then .fin r else .err 4 (c :: r)) := Lib.hid (by rw [HDB5.out]; rfl)
                  obtain ⟨_, _, c2, _⟩ := HR15.out.cells
                  have HBY : Hid (Calls Tryz.prog 148 #[.pointer (some ⟨rb, 0, none⟩), .string ⟨#[44, 125]⟩] w15 (ByP rb s p3 [44, 125] w15)) := Lib.hid (byteR_any rb s p3 wh7 [44, 125] w15 HR15.out hs hu2 (by decide))
                  go_wp2_with fail
                  refine HBY.out.mono ?_
                  rintro x w10 ⟨hk10, hx10⟩
                  have HM10 := Lib.hid (HM15.out.step hk10)
                  clear hk10 HM15 HR15 HBY c2
                  rcases hx10 with ⟨hpe, rfl, hr10⟩ | ⟨hpl3, hmem3, rfl, wh8, hr10⟩ | ⟨hpl3, hmem3, rfl, hr10⟩
                  · have HR10 := Lib.hid hr10
                    have HAG : Hid (AgV rb s w10 (objO d (s.drop i)) (hd6 ks2) f2) := Lib.hid (.inr ⟨2, [], p3, by decide, hu2, by rw [HIT.out, HNX.out, List.drop_eq_nil_of_le hpe]; rfl, by rw [List.length_nil, show s.length - 0 = p3 by omega]; exact hr10⟩)
                    clear hr10
                    obtain ⟨_, _, c2, _⟩ := HR10.out.cells
                    have y0 := HM10.out.b0.cell 0
                    have y1 := HM10.out.b0.cell 1
                    have y2 := HM10.out.b0.cell 2
                    have y3 := HM10.out.b0.cell 3
                    have y4 := HM10.out.b0.cell 4
                    go_wp2_with (refine wpList_store_row rfl 25 _ _ rfl _ _ rfl rfl 25 _ HM10.out.b1 (by kernel_rfl) rfl (by simp [Value.oneCell']) ?_)
                    exact bodyPost_ret (results_row rfl _ _ (w.heap.size + 1) 25 _ (0, 0) _ rfl (setRow_heap _ _ _ _ _ _ HM10.out.b1) Tryz.underlying25 rfl (by kernel_rfl)) rfl (mm_end HM10.out (by omega) (by omega) HAG.out)
                  · rw [drop_get hpl3] at HNX
                    generalize s.getD p3 0 = c9 at hmem3 HNX
                    by_cases h44 : c9 = 44
                    · have q1 : ((c9.toNat : Int) != 44) = false := by unfold bne; rw [show ((c9.toNat : Int) == 44) = true from b8t h44]; rfl
                      have HX : Hid (MmR rb s i d w (gk - 1) w10) := Lib.hid ⟨ks2, f2, A13, c13, A6, c6, p3 + 1, wh8, HM10.out, HND2.out, by rw [HLK.out, HFL.out, HKL.out], by rw [HFL.out]; omega, by omega, by omega, by omega, hr10, by rw [HIT.out, HNX.out]; simp only; rw [if_pos h44]; simp only; rw [preM_consM, ← HKS.out, ← HFA.out]⟩
                      clear hr10 h44
                      go_wp2_with fail
                      go_roundg (gk - 1)
                      case measure => omega
                      case rel => exact HX.out
                    · have h125 : c9 = 125 := by
                        rcases List.mem_cons.1 hmem3 with h | h
                        · exact absurd h h44
                        · exact List.mem_singleton.1 h
                      have q1 : ((c9.toNat : Int) != 44) = true := by unfold bne; rw [show ((c9.toNat : Int) == 44) = false from b8f h44]; rfl
                      have HR10 := Lib.hid hr10
                      have HAG : Hid (AgV rb s w10 (objO d (s.drop i)) (hd6 ks2) f2) := Lib.hid (.inl ⟨p3 + 1, wh8, by omega, by rw [HIT.out, HNX.out]; simp only; rw [if_neg h44, if_pos h125, HKS.out, HFA.out]; rfl, hr10⟩)
                      clear hr10 h44 h125
                      obtain ⟨_, _, c2, _⟩ := HR10.out.cells
                      have y0 := HM10.out.b0.cell 0
                      have y1 := HM10.out.b0.cell 1
                      have y2 := HM10.out.b0.cell 2
                      have y3 := HM10.out.b0.cell 3
                      have y4 := HM10.out.b0.cell 4
                      go_wp2_with (refine wpList_store_row rfl 25 _ _ rfl _ _ rfl rfl 25 _ HM10.out.b1 (by kernel_rfl) rfl (by simp [Value.oneCell']) ?_)
                      exact bodyPost_ret (results_row rfl _ _ (w.heap.size + 1) 25 _ (0, 0) _ rfl (setRow_heap _ _ _ _ _ _ HM10.out.b1) Tryz.underlying25 rfl (by kernel_rfl)) rfl (mm_end HM10.out (by omega) (by omega) HAG.out)
                  · have HR10 := Lib.hid hr10
                    have HAG : Hid (AgV rb s w10 (objO d (s.drop i)) (hd6 ks2) f2) := Lib.hid (.inr ⟨4, s.drop p3, p3, by decide, hu2, by
                      rw [HIT.out, HNX.out, drop_get hpl3]
                      simp only
                      rw [if_neg (fun e => hmem3 (by rw [e]; simp)), if_neg (fun e => hmem3 (by rw [e]; simp))]
                      rfl, by rw [len_drop hu2]; exact hr10⟩)
                    clear hr10
                    obtain ⟨_, _, c2, _⟩ := HR10.out.cells
                    have y0 := HM10.out.b0.cell 0
                    have y1 := HM10.out.b0.cell 1
                    have y2 := HM10.out.b0.cell 2
                    have y3 := HM10.out.b0.cell 3
                    have y4 := HM10.out.b0.cell 4
                    go_wp2_with (refine wpList_store_row rfl 25 _ _ rfl _ _ rfl rfl 25 _ HM10.out.b1 (by kernel_rfl) rfl (by simp [Value.oneCell']) ?_)
                    exact bodyPost_ret (results_row rfl _ _ (w.heap.size + 1) 25 _ (0, 0) _ rfl (setRow_heap _ _ _ _ _ _ HM10.out.b1) Tryz.underlying25 rfl (by kernel_rfl)) rfl (mm_end HM10.out (by omega) (by omega) HAG.out)
                · have HR10 := Lib.hid hr14
                  have HM10 := HM14
                  have e0 : ((no : Int) != 0) = true := by rw [bne_iff_ne]; omega
                  have HAG : Hid (AgV rb s w14 (objO d (s.drop i)) (hd6 ks2) f2) := Lib.hid (.inr ⟨no, r, j3, hno, hj3, by rw [HO.out, HKEY4.out]; simp only; rw [hval]; rfl, hr14⟩)
                  clear hr14 hval HAG14
                  obtain ⟨_, _, c2, _⟩ := HR10.out.cells
                  have y0 := HM10.out.b0.cell 0
                  have y1 := HM10.out.b0.cell 1
                  have y2 := HM10.out.b0.cell 2
                  have y3 := HM10.out.b0.cell 3
                  have y4 := HM10.out.b0.cell 4
                  go_wp2_with (refine wpList_store_row rfl 25 _ _ rfl _ _ rfl rfl 25 _ HM10.out.b1 (by kernel_rfl) rfl (by simp [Value.oneCell']) ?_)
                  exact bodyPost_ret (results_row rfl _ _ (w.heap.size + 1) 25 _ (0, 0) _ rfl (setRow_heap _ _ _ _ _ _ HM10.out.b1) Tryz.underlying25 rfl (by kernel_rfl)) rfl (mm_end HM10.out (by omega) (by omega) HAG.out)
              · have HR10 := Lib.hid hr10
                have HAG : Hid (AgV rb s w10 (objO d (s.drop i)) (hd6 ks2) f) := Lib.hid (.inr ⟨4, s.drop p2, p2, by decide, hz2', by
                  rw [HO.out, HKEY3.out]
                  unfold colon
                  rw [← HDB3.out, drop_get hpl2]
                  simp only
                  rw [if_neg (fun e => hmem2 (by rw [e]; simp))]
                  rfl, by rw [len_drop hz2']; exact hr10⟩)
                clear hr10
                obtain ⟨_, _, c2, _⟩ := HR10.out.cells
                have y0 := HM10.out.b0.cell 0
                have y1 := HM10.out.b0.cell 1
                have y2 := HM10.out.b0.cell 2
                have y3 := HM10.out.b0.cell 3
                have y4 := HM10.out.b0.cell 4
                go_wp2_with (refine wpList_store_row rfl 25 _ _ rfl _ _ rfl rfl 25 _ HM10.out.b1 (by kernel_rfl) rfl (by simp [Value.oneCell']) ?_)
                exact bodyPost_ret (results_row rfl _ _ (w.heap.size + 1) 25 _ (0, 0) _ rfl (setRow_heap _ _ _ _ _ _ HM10.out.b1) Tryz.underlying25 rfl (by kernel_rfl)) rfl (mm_end HM10.out (by omega) (by omega) HAG.out)
          · have HR7b := Lib.hid (HR7.out _ _ _ hr5)
            have HOE : Hid (objO d (s.drop i) = .err no r) := Lib.hid (by rw [HO.out, HKEY.out, htx]; rfl)
            have e0 : ((no : Int) == 0) = false := by rw [beq_eq_false_iff_ne]; omega
            have e1 : ((no : Int) != 0) = true := by rw [bne_iff_ne]; omega
            clear htx hr5 HX5 HKEY HR7
            obtain ⟨_, _, c2, _⟩ := HR7b.out.cells
            have HBL := Lib.hid (blanksR_any rb s j5 no (s.length - r.length) w7 HR7b.out hj5 hs)
            go_wp2_with fail
            refine HBL.out.mono ?_
            rintro x w10 ⟨rfl, hr10, hk10⟩
            have HM10 := Lib.hid (HM7.out.step hk10)
            obtain ⟨_, hz2'⟩ := blA_ge hj5
            generalize blA s j5 = p2 at hr10 hz2'
            have HR10 := Lib.hid hr10
            have HAG : Hid (AgV rb s w10 (objO d (s.drop i)) (hd6 ks2) f) := Lib.hid (.inr ⟨no, r, p2, hno, hz2', HOE.out, hr10⟩)
            clear hr10 hk10 HBL c2 HM7 HR7b
            obtain ⟨_, _, c2, _⟩ := HR10.out.cells
            have y0 := HM10.out.b0.cell 0
            have y1 := HM10.out.b0.cell 1
            have y2 := HM10.out.b0.cell 2
            have y3 := HM10.out.b0.cell 3
            have y4 := HM10.out.b0.cell 4
            go_wp2_with (refine wpList_store_row rfl 25 _ _ rfl _ _ rfl rfl 25 _ HM10.out.b1 (by kernel_rfl) rfl (by simp [Value.oneCell']) ?_)
            exact bodyPost_ret (results_row rfl _ _ (w.heap.size + 1) 25 _ (0, 0) _ rfl (setRow_heap _ _ _ _ _ _ HM10.out.b1) Tryz.underlying25 rfl (by kernel_rfl)) rfl (mm_end HM10.out (by omega) (by omega) HAG.out)
        · have HR4 := Lib.hid hr4
          have HAG : Hid (AgV rb s w4 (objO d (s.drop i)) (hd6 ks) f) := Lib.hid (.inr ⟨4, s.drop p, p, by decide, hp2, by
            rw [HO.out, HDB.out]
            unfold key
            rw [HDN.out, drop_get hpl]
            simp only
            rw [if_neg (fun e => hmem (by rw [e]; simp))]
            rfl, by rw [len_drop hp2]; exact hr4⟩)
          clear hr4
          obtain ⟨_, _, c2, _⟩ := HR4.out.cells
          have y0 := HM4.out.b0.cell 0
          have y1 := HM4.out.b0.cell 1
          have y2 := HM4.out.b0.cell 2
          have y3 := HM4.out.b0.cell 3
          have y4 := HM4.out.b0.cell 4
          go_wp2_with (refine wpList_store_row rfl 25 _ _ rfl _ _ rfl rfl 25 _ HM4.out.b1 (by kernel_rfl) rfl (by simp [Value.oneCell']) ?_)
          exact bodyPost_ret (results_row rfl _ _ (w.heap.size + 1) 25 _ (0, 0) _ rfl (setRow_heap _ _ _ _ _ _ HM4.out.b1) Tryz.underlying25 rfl (by kernel_rfl)) rfl (mm_end HM4.out (by omega) (by omega) HAG.out)
  · have HLO : Hid (objO d (s.drop i) = mems [] d (s.drop i)) := Lib.hid (by
      unfold objO
      rw [opn_bl (by unfold isC; rw [← HDB.out, List.drop_eq_nil_of_le (by omega)])])
    go_upto_region 2 with fail
    refine wp_region_held_drew (S := (fun wy => wy.cell? ⟨rb, 0, none⟩ = some (.string ⟨s.toArray⟩) ∧ wy.cell? ⟨rb, 1, none⟩ = some (.int .i64 (q : Nat)))) (by kernel_rfl) ⟨c0, c1⟩ (fun hHeld => ?_)
    refine tk 0 (h := ?_)
    try simp only [Act.put, List.setIfInBounds_toArray, List.set_cons_zero, List.set_cons_succ]
    refine wpAnyH_ready (rs := [1]) (by kernel_rfl) (by simp) ?_
    refine rdy (fun K hK => ?_) AllReadyH.nil
    rw [if_pos (by rfl)]
    go_simp
    refine (endR_t rb s q 0 wh w1.drew HR1.out (by omega)).mono ?_
    rintro x wn ⟨rfl, nq, rfl⟩
    refine hK.out _ _ ⟨c0, c1⟩ (fun _ => ?_)
    clear hK
    try simp only [Act.put, List.setIfInBounds_toArray, List.set_cons_zero, List.set_cons_succ]
    refine tk 2 (h := ?_)
    try simp only [Act.put, List.setIfInBounds_toArray, List.set_cons_zero, List.set_cons_succ]
    refine tk 3 (h := ?_)
    try simp only [Act.put, List.setIfInBounds_toArray, List.set_cons_zero, List.set_cons_succ]
    refine tks 4 (h := ?_)
    try simp only [Act.put, List.setIfInBounds_toArray, List.set_cons_zero, List.set_cons_succ]
    refine tks 5 (h := ?_)
    try simp only [Act.put, List.setIfInBounds_toArray, List.set_cons_zero, List.set_cons_succ]
    refine tks 6 (h := ?_)
    try simp only [Act.put, List.setIfInBounds_toArray, List.set_cons_zero, List.set_cons_succ]
    refine tks 7 (h := ?_)
    try simp only [Act.put, List.setIfInBounds_toArray, List.set_cons_zero, List.set_cons_succ]
    refine tks 8 (h := ?_)
    try simp only [Act.put, List.setIfInBounds_toArray, List.set_cons_zero, List.set_cons_succ]
    refine tks 9 (h := ?_)
    try simp only [Act.put, List.setIfInBounds_toArray, List.set_cons_zero, List.set_cons_succ]
    refine tks 10 (h := ?_)
    try simp only [Act.put, List.setIfInBounds_toArray, List.set_cons_zero, List.set_cons_succ]
    refine tks 11 (h := ?_)
    try simp only [Act.put, List.setIfInBounds_toArray, List.set_cons_zero, List.set_cons_succ]
    refine tks 12 (h := ?_)
    try simp only [Act.put, List.setIfInBounds_toArray, List.set_cons_zero, List.set_cons_succ]
    refine tks 13 (h := ?_)
    try simp only [Act.put, List.setIfInBounds_toArray, List.set_cons_zero, List.set_cons_succ]
    refine tk 14 (h := ?_)
    try simp only [Act.put, List.setIfInBounds_toArray, List.set_cons_zero, List.set_cons_succ]
    refine wpAnyH_done (by kernel_rfl) ?_ _
    obtain ⟨w2, hw2⟩ : ∃ w2, w2 = w1.drew.drewN nq := ⟨_, rfl⟩
    have HR2 : Hid (Rb w2 rb s q 0 wh) := Lib.hid (by rw [hw2]; exact HR1.out)
    have HM2 : Hid (MS rb w w2 [] .nil (.slice none 0 0) (.slice none 0 0)) := Lib.hid (HM1.out.step (by rw [hw2]; exact (Kp.drew (Kp.refl _ _ _)).drewN _))
    rw [← hw2]
    clear hw2 c0 c1 HR1 HM1 hHeld
    have HIB : Hid (mems [] d (s.drop i) = mems [] d (s.drop q)) := Lib.hid (by rw [mems_eq, mems_eq, HDB.out, key_bl])
    have HS0 : Hid (MmR rb s i d w (s.length + 1) w2) := Lib.hid ⟨[], .nil, none, 0, none, 0, q, wh, HM2.out, List.nodup_nil, rfl, by simp [F.len], hq2, hq1, by omega, HR2.out, by rw [HLO.out, HIB.out, preM_nil]⟩
    clear HR2 HM2 HIB HDB HLO
    go_wp2_with fail
    go_loopg [] (s.length + 1) (fun gk wr => MmR rb s i d w gk wr)
    case atStart => exact HS0.out
    case round =>
      clear HS0
      obtain ⟨ks, f, A, cc, A', cc', j, wh1, hms, hnd, hkl, hfj, hj, hij, hgk, hrb, ho⟩ := hrel
      have HMS := Lib.hid hms
      have HND := Lib.hid hnd
      have HR := Lib.hid hrb
      have HO : Hid (objO d (s.drop i) = (match key ks (s.drop j) with
        | .err no r => .err no r
        | .ok t p => match val (d + 1) p with
          | .err no r => .err no r
          | .ok h k r => match nx 125 r with
            | .err no q => .err no q
            | .fin q => .ok ⟨6, 0, [], [t]⟩ (.cons h k .nil) q
            | .more q => (mems (ks ++ [t]) d q).consM t h k : Out).preM ks f) := Lib.hid (by rw [ho, mems_eq]; rfl)
      have HKL := Lib.hid hkl
      have hkl2 : ks.length ≤ 1099511627776 := by omega
      clear hms hnd hrb ho hkl
      obtain ⟨_, _, c2, _⟩ := HR.out.cells
      have HBL := Lib.hid (blanksR_any rb s j 0 wh1 wr HR.out hj hs)
      go_wp2_with fail
      refine HBL.out.mono ?_
      rintro x w3 ⟨rfl, hr3, hk3⟩
      obtain ⟨hp1, hp2⟩ := blA_ge hj
      have HDB : Hid (key ks (s.drop j) = key ks (s.drop (blA s j))) := Lib.hid (by rw [drop_blA, key_bl])
      have HDN : Hid (bl (s.drop (blA s j)) = s.drop (blA s j)) := Lib.hid (by rw [drop_blA, bl_bl])
      generalize blA s j = p at hr3 hp1 hp2 HDB HDN
      have HR3 := Lib.hid hr3
      have HM3 := Lib.hid (HMS.out.step hk3)
      clear hr3 hk3 HBL HMS HR c2
      obtain ⟨c0, c1, c2, _⟩ := HR3.out.cells
      have HBY : Hid (Calls Tryz.prog 148 #[.pointer (some ⟨rb, 0, none⟩), .string ⟨#[34]⟩] w3 (ByP rb s p [34] w3)) := Lib.hid (byteR_any rb s p wh1 [34] w3 HR3.out hs hp2 (by decide))
      go_wp2_with fail
      refine HBY.out.mono ?_
      rintro x w4 ⟨hk4, hx4⟩
      have HM4 := Lib.hid (HM3.out.step hk4)
      clear hk4 HM3 HR3 HBY c0 c1 c2
      rcases hx4 with ⟨hpe, rfl, hr4⟩ | ⟨hpl, hmem, rfl, wh4, hr4⟩ | ⟨hpl, hmem, rfl, hr4⟩
      · have HR4 := Lib.hid hr4
        have HAG : Hid (AgV rb s w4 (objO d (s.drop i)) (hd6 ks) f) := Lib.hid (.inr ⟨2, [], p, by decide, hp2, by rw [HO.out, HDB.out, List.drop_eq_nil_of_le hpe]; rfl, by rw [List.length_nil, show s.length - 0 = p by omega]; exact hr4⟩)
        clear hr4
        obtain ⟨_, _, c2, _⟩ := HR4.out.cells
        have y0 := HM4.out.b0.cell 0
        have y1 := HM4.out.b0.cell 1
        have y2 := HM4.out.b0.cell 2
        have y3 := HM4.out.b0.cell 3
        have y4 := HM4.out.b0.cell 4
        go_wp2_with (refine wpList_store_row rfl 25 _ _ rfl _ _ rfl rfl 25 _ HM4.out.b1 (by kernel_rfl) rfl (by simp [Value.oneCell']) ?_)
        exact bodyPost_ret (results_row rfl _ _ (w.heap.size + 1) 25 _ (0, 0) _ rfl (setRow_heap _ _ _ _ _ _ HM4.out.b1) Tryz.underlying25 rfl (by kernel_rfl)) rfl (mm_end HM4.out (by omega) (by omega) HAG.out)
      · have h34 : s.getD p 0 = 34 := List.mem_singleton.1 hmem
        have HKEY : Hid (key ks (s.drop j) = match txt (s.drop (p + 1)) with
          | .err no q => .err no q
          | .ok t q => if t ∈ ks then .err 11 (s.drop p) else colon t q) := Lib.hid (by
          rw [HDB.out]
          unfold key
          rw [HDN.out, drop_get hpl]
          simp only
          rw [if_pos h34]
          rfl)
        have HR4 := Lib.hid hr4
        clear hr4 hmem h34 HDB HDN
        obtain ⟨_, _, c2, _⟩ := HR4.out.cells
        have HTX := Lib.hid (textR_any rb s (p + 1) wh4 w4 HR4.out hs (by omega))
        go_wp2_with fail
        refine HTX.out.mono ?_
        rintro x w5 ⟨t, rfl, hk5, hx5⟩
        have HM5 := Lib.hid (HM4.out.step hk5)
        have HX5 := Lib.hid hx5
        clear hk5 hx5 HM4 HR4 HTX c2
        have y4 := HM5.out.b0.cell 4
        have ws5 := HM5.out.size
        go_upto_region 13 with (at_builtin; go_loud (refine wpList_append_any _ rfl _ _ 23 rfl (w.heap.size + 2) 9 i1 (.string .empty) 1 16 Tryz.underlying23 hj0 hy0 hy1 hy2 rfl (by decide) (.slice A' ks.length cc') ks.length (tx ks) rfl (World.ownsRow.alloc HM5.out.kj.keys _) (w5.heap.size + 1) (some ⟨w5.heap.size, 0, none⟩) 1 1 [.string ⟨t.toArray⟩] rfl ((Reads.of_block (heap_alloc_new _ _) rfl).more (by simp)) (by intro u hu; obtain rfl := List.mem_singleton.1 hu; rfl) (by unfold maxLen; omega) (by omega) (by simp; omega) ?_; intro v6 w6 g1 g2 g3; obtain ⟨A6, c6, e6, _⟩ := own_readsN g1; subst e6; have HOW6 := Lib.hid g1; have HGR6 := Lib.hid g2; have HOB6 := Lib.hid g3; have HB6 := Lib.hid (HM5.out.blk0 g2 (fun b e => (HM5.out.off.1 b e).1)); have y4' := HB6.out.cell 4; have f4' := HB6.out.frozen 4; clear g1 g2 g3))
        have HB7 : Hid (Below (w.heap.size + 2) w5 w6) := Lib.hid (HM5.out.grown HGR6.out (fun b e => (HM5.out.off.1 b e).1))
        have HM7 : Hid (MS rb w (w6.setCell ⟨w.heap.size, 4, none⟩ (.slice A6 (ks.length + 1) c6)) (ks ++ [t]) f (.slice A f.len cc) (.slice A6 (ks ++ [t]).length c6)) := Lib.hid (by
          have := HM5.out.key HOW6.out HGR6.out HOB6.out
          rw [List.length_append]
          exact this)
        have HR7 : Hid (∀ i' e' h', Rb w5 rb s i' e' h' → Rb (w6.setCell ⟨w.heap.size, 4, none⟩ (.slice A6 (ks.length + 1) c6)) rb s i' e' h') := Lib.hid (fun i' e' h' h => rb_store HM5.out HB7.out h)
        obtain ⟨ks2, hks2⟩ : ∃ ks2, ks2 = ks ++ [t] := ⟨_, rfl⟩
        rw [← hks2] at HM7
        have HKS := Lib.hid hks2
        have HLK : Hid (ks2.length = ks.length + 1) := Lib.hid (by rw [hks2, List.length_append]; rfl)
        clear hks2
        clear y4 y4' f4' HB6 HB7 HOW6 HGR6 HOB6 HM5 ws5
        rw [← HLK.out]
        rw [← HLK.out] at HM7 HR7
        generalize w6.setCell ⟨w.heap.size, 4, none⟩ (.slice A6 ks2.length c6) = w7 at HM7 HR7 ⊢
        have hlk2 : ks2.length ≤ 1099511627777 := by rw [HLK.out]; omega
        rcases HX5.out with ⟨j1, wh5, hj1, htx, hr5⟩ | ⟨no, r, j5, ht0, hno, hj5, htx, hr5⟩
        · have HR7b := Lib.hid (HR7.out _ _ _ hr5)
          have htl := txt_len _ _ _ _ (Nat.le_refl _) htx
          rw [List.length_drop, List.length_drop] at htl
          have HKEY2 : Hid (key ks (s.drop j) = if t ∈ ks then .err 11 (s.drop p) else colon t (s.drop j1)) := Lib.hid (by rw [HKEY.out, htx])
          clear htx hr5 HX5 HKEY HR7
          obtain ⟨_, _, c2, _⟩ := HR7b.out.cells
          have y4 := HM7.out.b0.cell 4
          have HTW := Lib.hid (twice_any ks2 A6 ks2.length c6 w7 (Reads.of_own HM7.out.kj.keys) (by omega))
          by_cases hmt : t ∈ ks
          · have HDU : Hid (dupL ks2 = true) := Lib.hid (by rw [HKS.out, dupL_new HND.out]; exact decide_eq_true hmt)
            have HOE : Hid (objO d (s.drop i) = .err 11 (s.drop p)) := Lib.hid (by rw [HO.out, HKEY2.out, if_pos hmt]; rfl)
            rw [HDU.out] at HTW
            clear hmt
            go_wp2_with fail
            refine HTW.out.mono ?_
            rintro x w8 ⟨rfl, hb8⟩
            have HM8 := Lib.hid (HM7.out.step (kr_below (kr_refl _ _) hb8))
            have HR8 : Hid (Rb w8 rb s j1 0 wh5) := Lib.hid (Blk.below HR7b.out hb8 (Blk.lt HR7b.out))
            clear hb8 HTW c2 y4 HM7 HR7b
            have HF := Lib.hid (failR_any rb s j1 wh5 11 p w8 HR8.out)
            go_wp2_with fail
            refine HF.out.mono ?_
            rintro x w9 ⟨rfl, hr9, hk9⟩
            have HM9 := Lib.hid (HM8.out.step hk9)
            have HR9 := Lib.hid hr9
            clear hr9 hk9 HF HM8 HR8
            have HBL := Lib.hid (blanksR_any rb s j1 11 p w9 HR9.out hj1 hs)
            go_wp2_with fail
            refine HBL.out.mono ?_
            rintro x w10 ⟨rfl, hr10, hk10⟩
            have HM10 := Lib.hid (HM9.out.step hk10)
            obtain ⟨_, hz2'⟩ := blA_ge hj1
            generalize blA s j1 = p2 at hr10 hz2'
            have HR10 := Lib.hid hr10
            have HAG : Hid (AgV rb s w10 (objO d (s.drop i)) (hd6 ks2) f) := Lib.hid (.inr ⟨11, s.drop p, p2, by decide, hz2', HOE.out, by rw [len_drop hp2]; exact hr10⟩)
            clear hr10 hk10 HBL HM9 HR9
            obtain ⟨_, _, c2, _⟩ := HR10.out.cells
            have y0 := HM10.out.b0.cell 0
            have y1 := HM10.out.b0.cell 1
            have y2 := HM10.out.b0.cell 2
            have y3 := HM10.out.b0.cell 3
            have y4 := HM10.out.b0.cell 4
            go_wp2_with (refine wpList_store_row rfl 25 _ _ rfl _ _ rfl rfl 25 _ HM10.out.b1 (by kernel_rfl) rfl (by simp [Value.oneCell']) ?_)
            exact bodyPost_ret (results_row rfl _ _ (w.heap.size + 1) 25 _ (0, 0) _ rfl (setRow_heap _ _ _ _ _ _ HM10.out.b1) Tryz.underlying25 rfl (by kernel_rfl)) rfl (mm_end HM10.out (by omega) (by omega) HAG.out)
          · have HDU : Hid (dupL ks2 = false) := Lib.hid (by rw [HKS.out, dupL_new HND.out]; exact decide_eq_false hmt)
            have HKEY3 : Hid (key ks (s.drop j) = colon t (s.drop j1)) := Lib.hid (by rw [HKEY2.out, if_neg hmt])
            have HND2 : Hid (ks2.Nodup) := Lib.hid (by
              rw [HKS.out, List.nodup_append]
              exact ⟨HND.out, by simp, fun a ha b hb e => by obtain rfl := List.mem_singleton.1 hb; exact hmt (e ▸ ha)⟩)
            rw [HDU.out] at HTW
            clear hmt HKEY2
            go_wp2_with fail
            refine HTW.out.mono ?_
            rintro x w8 ⟨rfl, hb8⟩
            have HM8 := Lib.hid (HM7.out.step (kr_below (kr_refl _ _) hb8))
            have HR8 : Hid (Rb w8 rb s j1 0 wh5) := Lib.hid (Blk.below HR7b.out hb8 (Blk.lt HR7b.out))
            clear hb8 HTW c2 y4 HM7 HR7b
            have HBL := Lib.hid (blanksR_any rb s j1 0 wh5 w8 HR8.out hj1 hs)
            go_wp2_with fail
            refine HBL.out.mono ?_
            rintro x w9 ⟨rfl, hr9, hk9⟩
            have HM9 := Lib.hid (HM8.out.step hk9)
            obtain ⟨hz1', hz2'⟩ := blA_ge hj1
            have HDB3 : Hid (s.drop (blA s j1) = bl (s.drop j1)) := Lib.hid (drop_blA s j1)
            generalize blA s j1 = p2 at hr9 hz1' hz2' HDB3
            have HR9 := Lib.hid hr9
            clear hr9 hk9 HBL HM8 HR8
            obtain ⟨_, _, c2, _⟩ := HR9.out.cells
            have HBY : Hid (Calls Tryz.prog 148 #[.pointer (some ⟨rb, 0, none⟩), .string ⟨#[58]⟩] w9 (ByP rb s p2 [58] w9)) := Lib.hid (byteR_any rb s p2 wh5 [58] w9 HR9.out hs hz2' (by decide))
            go_wp2_with fail
            refine HBY.out.mono ?_
            rintro x w10 ⟨hk10, hx10⟩
            have HM10 := Lib.hid (HM9.out.step hk10)
            clear hk10 HM9 HR9 HBY c2
            rcases hx10 with ⟨hpe, rfl, hr10⟩ | ⟨hpl2, hmem2, rfl, wh6, hr10⟩ | ⟨hpl2, hmem2, rfl, hr10⟩
            · have HR10 := Lib.hid hr10
              have HAG : Hid (AgV rb s w10 (objO d (s.drop i)) (hd6 ks2) f) := Lib.hid (.inr ⟨2, [], p2, by decide, hz2', by rw [HO.out, HKEY3.out]; unfold colon; rw [← HDB3.out, List.drop_eq_nil_of_le hpe]; rfl, by rw [List.length_nil, show s.length - 0 = p2 by omega]; exact hr10⟩)
              clear hr10
              obtain ⟨_, _, c2, _⟩ := HR10.out.cells
              have y0 := HM10.out.b0.cell 0
              have y1 := HM10.out.b0.cell 1
              have y2 := HM10.out.b0.cell 2
              have y3 := HM10.out.b0.cell 3
              have y4 := HM10.out.b0.cell 4
              go_wp2_with (refine wpList_store_row rfl 25 _ _ rfl _ _ rfl rfl 25 _ HM10.out.b1 (by kernel_rfl) rfl (by simp [Value.oneCell']) ?_)
              exact bodyPost_ret (results_row rfl _ _ (w.heap.size + 1) 25 _ (0, 0) _ rfl (setRow_heap _ _ _ _ _ _ HM10.out.b1) Tryz.underlying25 rfl (by kernel_rfl)) rfl (mm_end HM10.out (by omega) (by omega) HAG.out)
            · have h58 : s.getD p2 0 = 58 := List.mem_singleton.1 hmem2
              have HKEY4 : Hid (key ks (s.drop j) = .ok t (s.drop (p2 + 1))) := Lib.hid (by
                rw [HKEY3.out]
                unfold colon
                rw [← HDB3.out, drop_get hpl2]
                simp only
                rw [if_pos h58])
              have HR10 := Lib.hid hr10
              clear hr10 hmem2 h58 HKEY3 HDB3
              obtain ⟨_, _, c2, _⟩ := HR10.out.cells
              have HVC : Hid (Calls Tryz.prog 46 #[.pointer (some ⟨rb, 0, none⟩), .int .i64 ((d : Int) + 1)] w10 (VlP rb s (p2 + 1) (d + 1) w10)) := Lib.hid (by
                have := HV.out (p2 + 1) (d + 1) wh6 w10 (by omega) (by have := HN.out; omega) (by omega) HR10.out
                push_cast at this
                exact this)
              go_wp2_with fail
              refine HVC.out.mono ?_
              rintro x w11 ⟨h0, kk, A1, e1, A2, e2, rfl, htv, hk11, hag⟩
              have HM11 := Lib.hid (HM10.out.step hk11)
              have HTV := Lib.hid htv
              have HAG11 := Lib.hid hag
              have HOF : Hid ((∀ b, Value.ownBlock (.slice A6 ks2.length c6) = some b → b < w10.heap.size) ∧ (∀ b, Value.ownBlock (.slice A f.len cc) = some b → b < w10.heap.size) ∧ w.heap.size + 2 ≤ w10.heap.size ∧ w10.heap.size ≤ w11.heap.size) := Lib.hid ⟨fun b e => (HM10.out.off.1 b e).2, fun b e => (HM10.out.off.2 b e).2, HM10.out.size, kr_size hk11⟩
              clear htv hk11 hag HVC HM10 HR10 c2
              go_upto_region 21 with (refine wpList_store_row rfl 25 _ _ rfl _ _ rfl rfl 25 _ (heap_alloc_new _ _) (by kernel_rfl) rfl rfl ?_)
              obtain ⟨w12, hw12⟩ : ∃ w12, w12 = w11.alloc (.cells #[.int .i64 h0.kind, .int .i64 h0.num, .string ⟨h0.text.toArray⟩, .slice A1 kk.len e1, .slice A2 h0.keys.length e2] 25) := ⟨_, rfl⟩
              have hb12 : Below w11.heap.size w11 w12 := by rw [hw12]; exact (Below.refl _ _).alloc (Nat.le_refl _) _
              have HN12 : Hid (Blk w12 w11.heap.size 25 #[.int .i64 h0.kind, .int .i64 h0.num, .string ⟨h0.text.toArray⟩, .slice A1 kk.len e1, .slice A2 h0.keys.length e2]) := Lib.hid (by rw [hw12]; exact Blk.new _ _ _)
              have HM12 := Lib.hid (HM11.out.step (kr_below (kr_refl _ _) hb12))
              have HTV12 := Lib.hid (HTV.out.kept (w' := w12) fun p hp => hb12.cell hp.2)
              have HAG12 := Lib.hid (agV_at HAG11.out (hb12.block rb (by have := HRB.out; have := HOF.out; omega)))
              have HS12 : Hid (w11.heap.size ≤ w12.heap.size) := Lib.hid hb12.size
              rw [← hw12]
              clear hw12 hb12 HM11 HTV HAG11
              obtain ⟨S6, xs, ho6, ht6, hS6⟩ := HM12.out.kj.items
              have HO6 : Hid (w12.ownsRow (w.heap.size + 2) 25 5 (.slice A f.len cc) f.len xs) := Lib.hid ho6
              have HT6 := Lib.hid ht6
              have HS6 := Lib.hid hS6
              clear ho6 ht6 hS6
              have y0 := HN12.out.cell 0
              have y1 := HN12.out.cell 1
              have y2 := HN12.out.cell 2
              have y3 := HN12.out.cell 3
              have y4 := HN12.out.cell 4
              have z3 := HM12.out.b0.cell 3
              have ws12 := HM12.out.size
              go_upto_region 22 with (at_builtin; go_loud (refine wpList_append_any _ rfl _ _ 22 rfl (w.heap.size + 2) 25 i0 _ 5 80 Tryz.underlying22 hi0 hz0 hz1 hz2 rfl (by decide) (.slice A f.len cc) f.len xs rfl (World.ownsRow.alloc HO6.out _) (w12.heap.size + 1) (some ⟨w12.heap.size, 0, none⟩) 1 1 (jcells h0 (.slice A1 kk.len e1) (.slice A2 h0.keys.length e2)) rfl ((Reads.of_block (heap_alloc_new _ _) rfl).more (by simp)) (encJ.one _ _ _ _ _ _ _) (by unfold maxLen; omega) (by omega) (by simp; omega) ?_; intro v13 w13 g1 g2 g3; obtain ⟨A13, c13, e13, _⟩ := own_readsN g1; subst e13; have HOW13 := Lib.hid g1; have HGR13 := Lib.hid g2; have HOB13 := Lib.hid g3; have HB13 := Lib.hid (HM12.out.blk0 g2 (fun b e => (HM12.out.off.2 b e).1)); have z3' := HB13.out.cell 3; have f3' := HB13.out.frozen 3; clear g1 g2 g3))
              have HB14 : Hid (Below (w.heap.size + 2) w12 w13) := Lib.hid (HM12.out.grown HGR13.out (fun b e => (HM12.out.off.2 b e).1))
              have HM14 : Hid (MS rb w (w13.setCell ⟨w.heap.size, 3, none⟩ (.slice A13 (f.len + 1) c13)) ks2 (f.app (.cons h0 kk .nil)) (.slice A13 (f.len + 1) c13) (.slice A6 ks2.length c6)) := Lib.hid (by
                have hof := HOF.out
                have hs12 := HS12.out
                refine HM12.out.item HT6.out HS6.out HTV12.out.tr (fun b hb => ?_) HOW13.out HGR13.out HOB13.out
                have h1 := hb.1
                have h2 := hb.2
                exact ⟨by omega, by omega, fun e => by have := hof.1 b e; omega, fun e => by have := hof.2.1 b e; omega⟩)
              have HAG14 : Hid (AgV rb s (w13.setCell ⟨w.heap.size, 3, none⟩ (.slice A13 (f.len + 1) c13)) (val (d + 1) (s.drop (p2 + 1))) h0 kk) := Lib.hid (agV_at HAG12.out ((Below.heap_setCell _ _ _ rb (by have := HRB.out; show rb ≠ w.heap.size; omega)).trans (HB14.out.block rb (by have := HRB.out; omega))))
              obtain ⟨f2, hf2⟩ : ∃ f2, f2 = f.app (.cons h0 kk .nil) := ⟨_, rfl⟩
              rw [← hf2] at HM14
              have HFA := Lib.hid hf2
              have HFL : Hid (f2.len = f.len + 1) := Lib.hid (by rw [hf2, F.len_app]; rfl)
              clear hf2 y0 y1 y2 y3 y4 z3 z3' f3' HB13 HB14 HOW13 HGR13 HOB13 HO6 HT6 HS6 HTV12 HAG12 HM12 HN12 ws12 HOF HS12
              rw [← HFL.out]
              rw [← HFL.out] at HM14 HAG14
              generalize w13.setCell ⟨w.heap.size, 3, none⟩ (.slice A13 f2.len c13) = w14 at HM14 HAG14 ⊢
              have hfl2 : f2.len ≤ 1099511627777 := by rw [HFL.out]; omega
              rcases HAG14.out with ⟨j3, wh7, hj3, hval, hr14⟩ | ⟨no, r, j3, hno, hj3, hval, hr14⟩
              · have HR14 := Lib.hid hr14
                have hjj : p2 + 1 < j3 := by
                  have := val_len hval
                  rw [List.length_drop, List.length_drop] at this
                  omega
                have HIT : Hid (objO d (s.drop i) = (match nx 125 (s.drop j3) with
                  | .err no q => .err no q
                  | .fin q => .ok ⟨6, 0, [], [t]⟩ (.cons h0 kk .nil) q
                  | .more q => (mems (ks ++ [t]) d q).consM t h0 kk : Out).preM ks f) := Lib.hid (by rw [HO.out, HKEY4.out]; simp only; rw [hval])
                clear hval hr14 HAG14
                obtain ⟨_, _, c2, _⟩ := HR14.out.cells
                have HBL := Lib.hid (blanksR_any rb s j3 0 wh7 w14 HR14.out hj3 hs)
                go_wp2_with fail
                refine HBL.out.mono ?_
                rintro x w15 ⟨rfl, hr15, hk15⟩
                obtain ⟨hu1, hu2⟩ := blA_ge hj3
                have HDB5 : Hid (s.drop (blA s j3) = bl (s.drop j3)) := Lib.hid (drop_blA s j3)
                generalize blA s j3 = p3 at hr15 hu1 hu2 HDB5
                have HM15 := Lib.hid (HM14.out.step hk15)
                have HR15 := Lib.hid hr15
                clear hr15 hk15 HBL HM14 HR14 c2
                have HNX : Hid (nx 125 (s.drop j3) = match s.drop p3 with
                  | [] => .err 2 []
                  | c :: r => if c = 44 then .more r else if c = 125 then .fin r else .err 4 (c :: r)) := Lib.hid (by rw [HDB5.out]; rfl)
                obtain ⟨_, _, c2, _⟩ := HR15.out.cells
                have HBY : Hid (Calls Tryz.prog 148 #[.pointer (some ⟨rb, 0, none⟩), .string ⟨#[44, 125]⟩] w15 (ByP rb s p3 [44, 125] w15)) := Lib.hid (byteR_any rb s p3 wh7 [44, 125] w15 HR15.out hs hu2 (by decide))
                go_wp2_with fail
                refine HBY.out.mono ?_
                rintro x w10 ⟨hk10, hx10⟩
                have HM10 := Lib.hid (HM15.out.step hk10)
                clear hk10 HM15 HR15 HBY c2
                rcases hx10 with ⟨hpe, rfl, hr10⟩ | ⟨hpl3, hmem3, rfl, wh8, hr10⟩ | ⟨hpl3, hmem3, rfl, hr10⟩
                · have HR10 := Lib.hid hr10
                  have HAG : Hid (AgV rb s w10 (objO d (s.drop i)) (hd6 ks2) f2) := Lib.hid (.inr ⟨2, [], p3, by decide, hu2, by rw [HIT.out, HNX.out, List.drop_eq_nil_of_le hpe]; rfl, by rw [List.length_nil, show s.length - 0 = p3 by omega]; exact hr10⟩)
                  clear hr10
                  obtain ⟨_, _, c2, _⟩ := HR10.out.cells
                  have y0 := HM10.out.b0.cell 0
                  have y1 := HM10.out.b0.cell 1
                  have y2 := HM10.out.b0.cell 2
                  have y3 := HM10.out.b0.cell 3
                  have y4 := HM10.out.b0.cell 4
                  go_wp2_with (refine wpList_store_row rfl 25 _ _ rfl _ _ rfl rfl 25 _ HM10.out.b1 (by kernel_rfl) rfl (by simp [Value.oneCell']) ?_)
                  exact bodyPost_ret (results_row rfl _ _ (w.heap.size + 1) 25 _ (0, 0) _ rfl (setRow_heap _ _ _ _ _ _ HM10.out.b1) Tryz.underlying25 rfl (by kernel_rfl)) rfl (mm_end HM10.out (by omega) (by omega) HAG.out)
                · rw [drop_get hpl3] at HNX
                  generalize s.getD p3 0 = c9 at hmem3 HNX
                  by_cases h44 : c9 = 44
                  · have q1 : ((c9.toNat : Int) != 44) = false := by unfold bne; rw [show ((c9.toNat : Int) == 44) = true from b8t h44]; rfl
                    have HX : Hid (MmR rb s i d w (gk - 1) w10) := Lib.hid ⟨ks2, f2, A13, c13, A6, c6, p3 + 1, wh8, HM10.out, HND2.out, by rw [HLK.out, HFL.out, HKL.out], by rw [HFL.out]; omega, by omega, by omega, by omega, hr10, by rw [HIT.out, HNX.out]; simp only; rw [if_pos h44]; simp only; rw [preM_consM, ← HKS.out, ← HFA.out]⟩
                    clear hr10 h44
                    go_wp2_with fail
                    go_roundg (gk - 1)
                    case measure => omega
                    case rel => exact HX.out
                  · have h125 : c9 = 125 := by
                      rcases List.mem_cons.1 hmem3 with h | h
                      · exact absurd h h44
                      · exact List.mem_singleton.1 h
                    have q1 : ((c9.toNat : Int) != 44) = true := by unfold bne; rw [show ((c9.toNat : Int) == 44) = false from b8f h44]; rfl
                    have HR10 := Lib.hid hr10
                    have HAG : Hid (AgV rb s w10 (objO d (s.drop i)) (hd6 ks2) f2) := Lib.hid (.inl ⟨p3 + 1, wh8, by omega, by rw [HIT.out, HNX.out]; simp only; rw [if_neg h44, if_pos h125, HKS.out, HFA.out]; rfl, hr10⟩)
                    clear hr10 h44 h125
                    obtain ⟨_, _, c2, _⟩ := HR10.out.cells
                    have y0 := HM10.out.b0.cell 0
                    have y1 := HM10.out.b0.cell 1
                    have y2 := HM10.out.b0.cell 2
                    have y3 := HM10.out.b0.cell 3
                    have y4 := HM10.out.b0.cell 4
                    go_wp2_with (refine wpList_store_row rfl 25 _ _ rfl _ _ rfl rfl 25 _ HM10.out.b1 (by kernel_rfl) rfl (by simp [Value.oneCell']) ?_)
                    exact bodyPost_ret (results_row rfl _ _ (w.heap.size + 1) 25 _ (0, 0) _ rfl (setRow_heap _ _ _ _ _ _ HM10.out.b1) Tryz.underlying25 rfl (by kernel_rfl)) rfl (mm_end HM10.out (by omega) (by omega) HAG.out)
                · have HR10 := Lib.hid hr10
                  have HAG : Hid (AgV rb s w10 (objO d (s.drop i)) (hd6 ks2) f2) := Lib.hid (.inr ⟨4, s.drop p3, p3, by decide, hu2, by
                    rw [HIT.out, HNX.out, drop_get hpl3]
                    simp only
                    rw [if_neg (fun e => hmem3 (by rw [e]; simp)), if_neg (fun e => hmem3 (by rw [e]; simp))]
                    rfl, by rw [len_drop hu2]; exact hr10⟩)
                  clear hr10
                  obtain ⟨_, _, c2, _⟩ := HR10.out.cells
                  have y0 := HM10.out.b0.cell 0
                  have y1 := HM10.out.b0.cell 1
                  have y2 := HM10.out.b0.cell 2
                  have y3 := HM10.out.b0.cell 3
                  have y4 := HM10.out.b0.cell 4
                  go_wp2_with (refine wpList_store_row rfl 25 _ _ rfl _ _ rfl rfl 25 _ HM10.out.b1 (by kernel_rfl) rfl (by simp [Value.oneCell']) ?_)
                  exact bodyPost_ret (results_row rfl _ _ (w.heap.size + 1) 25 _ (0, 0) _ rfl (setRow_heap _ _ _ _ _ _ HM10.out.b1) Tryz.underlying25 rfl (by kernel_rfl)) rfl (mm_end HM10.out (by omega) (by omega) HAG.out)
              · have HR10 := Lib.hid hr14
                have HM10 := HM14
                have e0 : ((no : Int) != 0) = true := by rw [bne_iff_ne]; omega
                have HAG : Hid (AgV rb s w14 (objO d (s.drop i)) (hd6 ks2) f2) := Lib.hid (.inr ⟨no, r, j3, hno, hj3, by rw [HO.out, HKEY4.out]; simp only; rw [hval]; rfl, hr14⟩)
                clear hr14 hval HAG14
                obtain ⟨_, _, c2, _⟩ := HR10.out.cells
                have y0 := HM10.out.b0.cell 0
                have y1 := HM10.out.b0.cell 1
                have y2 := HM10.out.b0.cell 2
                have y3 := HM10.out.b0.cell 3
                have y4 := HM10.out.b0.cell 4
                go_wp2_with (refine wpList_store_row rfl 25 _ _ rfl _ _ rfl rfl 25 _ HM10.out.b1 (by kernel_rfl) rfl (by simp [Value.oneCell']) ?_)
                exact bodyPost_ret (results_row rfl _ _ (w.heap.size + 1) 25 _ (0, 0) _ rfl (setRow_heap _ _ _ _ _ _ HM10.out.b1) Tryz.underlying25 rfl (by kernel_rfl)) rfl (mm_end HM10.out (by omega) (by omega) HAG.out)
            · have HR10 := Lib.hid hr10
              have HAG : Hid (AgV rb s w10 (objO d (s.drop i)) (hd6 ks2) f) := Lib.hid (.inr ⟨4, s.drop p2, p2, by decide, hz2', by
                rw [HO.out, HKEY3.out]
                unfold colon
                rw [← HDB3.out, drop_get hpl2]
                simp only
                rw [if_neg (fun e => hmem2 (by rw [e]; simp))]
                rfl, by rw [len_drop hz2']; exact hr10⟩)
              clear hr10
              obtain ⟨_, _, c2, _⟩ := HR10.out.cells
              have y0 := HM10.out.b0.cell 0
              have y1 := HM10.out.b0.cell 1
              have y2 := HM10.out.b0.cell 2
              have y3 := HM10.out.b0.cell 3
              have y4 := HM10.out.b0.cell 4
              go_wp2_with (refine wpList_store_row rfl 25 _ _ rfl _ _ rfl rfl 25 _ HM10.out.b1 (by kernel_rfl) rfl (by simp [Value.oneCell']) ?_)
              exact bodyPost_ret (results_row rfl _ _ (w.heap.size + 1) 25 _ (0, 0) _ rfl (setRow_heap _ _ _ _ _ _ HM10.out.b1) Tryz.underlying25 rfl (by kernel_rfl)) rfl (mm_end HM10.out (by omega) (by omega) HAG.out)
        · have HR7b := Lib.hid (HR7.out _ _ _ hr5)
          have HOE : Hid (objO d (s.drop i) = .err no r) := Lib.hid (by rw [HO.out, HKEY.out, htx]; rfl)
          have e0 : ((no : Int) == 0) = false := by rw [beq_eq_false_iff_ne]; omega
          have e1 : ((no : Int) != 0) = true := by rw [bne_iff_ne]; omega
          clear htx hr5 HX5 HKEY HR7
          obtain ⟨_, _, c2, _⟩ := HR7b.out.cells
          have HBL := Lib.hid (blanksR_any rb s j5 no (s.length - r.length) w7 HR7b.out hj5 hs)
          go_wp2_with fail
          refine HBL.out.mono ?_
          rintro x w10 ⟨rfl, hr10, hk10⟩
          have HM10 := Lib.hid (HM7.out.step hk10)
          obtain ⟨_, hz2'⟩ := blA_ge hj5
          generalize blA s j5 = p2 at hr10 hz2'
          have HR10 := Lib.hid hr10
          have HAG : Hid (AgV rb s w10 (objO d (s.drop i)) (hd6 ks2) f) := Lib.hid (.inr ⟨no, r, p2, hno, hz2', HOE.out, hr10⟩)
          clear hr10 hk10 HBL c2 HM7 HR7b
          obtain ⟨_, _, c2, _⟩ := HR10.out.cells
          have y0 := HM10.out.b0.cell 0
          have y1 := HM10.out.b0.cell 1
          have y2 := HM10.out.b0.cell 2
          have y3 := HM10.out.b0.cell 3
          have y4 := HM10.out.b0.cell 4
          go_wp2_with (refine wpList_store_row rfl 25 _ _ rfl _ _ rfl rfl 25 _ HM10.out.b1 (by kernel_rfl) rfl (by simp [Value.oneCell']) ?_)
          exact bodyPost_ret (results_row rfl _ _ (w.heap.size + 1) 25 _ (0, 0) _ rfl (setRow_heap _ _ _ _ _ _ HM10.out.b1) Tryz.underlying25 rfl (by kernel_rfl)) rfl (mm_end HM10.out (by omega) (by omega) HAG.out)
      · have HR4 := Lib.hid hr4
        have HAG : Hid (AgV rb s w4 (objO d (s.drop i)) (hd6 ks) f) := Lib.hid (.inr ⟨4, s.drop p, p, by decide, hp2, by
          rw [HO.out, HDB.out]
          unfold key
          rw [HDN.out, drop_get hpl]
          simp only
          rw [if_neg (fun e => hmem (by rw [e]; simp))]
          rfl, by rw [len_drop hp2]; exact hr4⟩)
        clear hr4
        obtain ⟨_, _, c2, _⟩ := HR4.out.cells
        have y0 := HM4.out.b0.cell 0
        have y1 := HM4.out.b0.cell 1
        have y2 := HM4.out.b0.cell 2
        have y3 := HM4.out.b0.cell 3
        have y4 := HM4.out.b0.cell 4
        go_wp2_with (refine wpList_store_row rfl 25 _ _ rfl _ _ rfl rfl 25 _ HM4.out.b1 (by kernel_rfl) rfl (by simp [Value.oneCell']) ?_)
        exact bodyPost_ret (results_row rfl _ _ (w.heap.size + 1) 25 _ (0, 0) _ rfl (setRow_heap _ _ _ _ _ _ HM4.out.b1) Tryz.underlying25 rfl (by kernel_rfl)) rfl (mm_end HM4.out (by omega) (by omega) HAG.out)
-- >
end Js
end Go.Proofs.YtlfeddgpfaigkaaGreatDoor
