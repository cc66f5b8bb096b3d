/-
  The lists of an object that is being read: what they hold while a member is laid behind.
-/
import Derived.Test.YtlfeddgpfaigkaaGreatDoorJsO
import Derived.Test.YtlfeddgpfaigkaaGreatDoorJsB
import Derived.Test.YtlfeddgpfaigkaaGreatDoorQLast
namespace Go.Proofs.YtlfeddgpfaigkaaGreatDoor
open Go.RowKit
section
variable {P : Program} {ops : Array Oper} {Q : Exit → Act → World → Prop} {md : Region.Mode} {S : World → Prop} {z : Nat}
/-- Each of the operations rs may come up next. -/
def AllReadyR (P : Program) (md : Region.Mode) (ops : Array Oper) (Q : Exit → Act → World → Prop) (S : World → Prop) (z : Nat) (fuel : Nat) (listed : Array Bool) (a : Act) (w : World) (rs : List Nat) : Prop :=
  ∀ i ∈ rs, wpOp P ops Q i (fun a' w' => (i ≠ z → S w') ∧ wpAnyR P md ops Q S z fuel (listed.setIfInBounds i true) a' w') a w
theorem AllReadyR.nil {fuel : Nat} {listed : Array Bool} {a : Act} {w : World} : AllReadyR P md ops Q S z fuel listed a w [] := fun _ h => by cases h
theorem AllReadyR.cons {fuel : Nat} {listed : Array Bool} {a : Act} {w : World} {i : Nat} {o : Oper} {rs : List Nat} (ho : ops[i]? = some o)
    (h : ∀ K' : Act → World → Prop, Shut (∀ a w, (i ≠ z → S w) → ((i ≠ z → S w) → wpAnyR P md ops Q S z fuel (listed.setIfInBounds i true) a w) → K' a w) → if Region.wanted o (yielded ops a.tmps) = true then Oper.wp P o a w K' Q else K' (a.put o.dst undef) w)
    (hs : AllReadyR P md ops Q S z fuel listed a w rs) : AllReadyR P md ops Q S z fuel listed a w (i :: rs) := fun j hj => by
  rcases List.mem_cons.1 hj with rfl | hj
  · exact wpOp_step ho (fun K' hK => h K' (fun a w hS hW => hK a w ⟨hS, hW hS⟩))
  · exact hs j hj
theorem wpAnyR_ready {rs : List Nat} {fuel : Nat} {listed : Array Bool} {a : Act} {w : World} (hr : Region.ready md ops listed = rs) (hne : rs ≠ [])
    (h : AllReadyR P md ops Q S z fuel listed a w rs) : wpAnyR P md ops Q S z (fuel + 1) listed a w :=
  ⟨fun h0 => absurd (hr.symm.trans h0) hne, fun j hj => h j (hr ▸ hj)⟩
end
namespace Js
theorem own_own_ne {w : World} {B B' size size' n n' : Nat} {e e' : TypeId} {v v' : Value} {xs xs' : List Value} (h : w.ownsRow B e size v n xs) (h' : w.ownsRow B' e' size' v' n' xs') (hne : e ≠ e') {b : Nat} (hb : v.ownBlock = some b) : v'.ownBlock ≠ some b := by
  intro hb'
  rcases h.2 with ⟨rfl, _⟩ | ⟨g, cap, cur, rfl, _, hg, _⟩
  · simp [Value.ownBlock] at hb
  · rcases h'.2 with ⟨rfl, _⟩ | ⟨g', cap', cur', rfl, _, hg', _⟩
    · simp [Value.ownBlock] at hb'
    · have e1 : g = b := by simpa [Value.ownBlock] using hb
      have e2 : g' = b := by simpa [Value.ownBlock] using hb'
      subst e1 e2
      rw [hg] at hg'
      injection hg' with hg'
      injection hg' with _ ht
      exact hne ht
theorem Seen.setCell {kt : TypeId} {w : World} {bm N : Nat} {ks : List (List UInt8)} (h : Seen kt w bm N ks) {p : Addr} (hp : bm ≠ p.block) (u : Value) : Seen kt (w.setCell p u) bm N ks := h.block (Below.heap_setCell w p u bm hp)
/-- The keys and the items of an object that is being read. -/
structure KI (w : World) (B : Nat) (v1 : Value) (ks : List (List UInt8)) (v2 : Value) (f : F) : Prop where
  keys : w.ownsRow B 9 1 v1 ks.length (tx ks)
  items : ∃ (S : Nat → Prop) (vs : List Value), w.ownsRow B 87 1 v2 f.len vs ∧ TR (encN true) w S f vs ∧ ∀ b, S b → B ≤ b ∧ b < w.heap.size ∧ v1.ownBlock ≠ some b ∧ v2.ownBlock ≠ some b
  size : B ≤ w.heap.size
theorem KI.nil (w : World) (B : Nat) (hB : B ≤ w.heap.size) : KI w B (.slice none 0 0) [] (.slice none 0 0) .nil :=
  ⟨World.ownsRow_nil _ _ _ _, ⟨fun _ => False, [], World.ownsRow_nil _ _ _ _, rfl, fun _ h => h.elim⟩, hB⟩
section
variable {w w' : World} {B : Nat} {v1 v2 : Value} {ks : List (List UInt8)} {f : F}
theorem KI.ne (h : KI w B v1 ks v2 f) {b : Nat} (hb : v1.ownBlock = some b) : v2.ownBlock ≠ some b := by
  obtain ⟨S, vs, ho, _⟩ := h.items
  exact own_own_ne h.keys ho (by decide) hb
theorem KI.kept (h : KI w B v1 ks v2 f) (hk : ∀ b, B ≤ b → b < w.heap.size → w'.heap[b]? = w.heap[b]?) (hs : w.heap.size ≤ w'.heap.size) : KI w' B v1 ks v2 f := by
  obtain ⟨S, vs, ho, hp, hS⟩ := h.items
  refine ⟨own_at h.keys fun b hb => hk b (own_lt h.keys hb).1 (own_lt h.keys hb).2, ⟨S, vs, own_at ho fun b hb => hk b (own_lt ho hb).1 (own_lt ho hb).2, hp.kept fun p hp => World.cell?_of_block (hk _ (hS _ hp).1 (hS _ hp).2.1), fun b hb => ⟨(hS b hb).1, by have := (hS b hb).2.1; omega, (hS b hb).2.2⟩⟩, Nat.le_trans h.size hs⟩
theorem KI.setCell (h : KI w B v1 ks v2 f) {p : Addr} (hp : p.block < B) (u : Value) : KI (w.setCell p u) B v1 ks v2 f := h.kept (fun b h1 _ => Below.heap_setCell w p u b (by omega)) (by simp)
theorem KI.alloc (h : KI w B v1 ks v2 f) (o : Obj) : KI (w.alloc o) B v1 ks v2 f := h.kept (fun b _ hb => Below.heap_alloc w o b hb) (by simp)
theorem KI.kp {X : Nat → Prop} {C : Nat} (h : KI w B v1 ks v2 f) (hk : Kp C X w w') (hC : w.heap.size ≤ C) (hX : ∀ b, B ≤ b → b < w.heap.size → ¬ X b) : KI w' B v1 ks v2 f :=
  h.kept (fun b h1 h2 => hk.block b (by omega) (hX b h1 h2)) hk.size
theorem KI.form1 (h : KI w B v1 ks v2 f) : ∃ A c, v1 = .slice A ks.length c := by
  obtain ⟨A, c, h, _⟩ := own_readsN h.keys
  exact ⟨A, c, h⟩
theorem KI.formn (h : KI w B v1 ks v2 f) : (∃ A n c, v1 = .slice A n c) ∧ ∃ A n c, v2 = .slice A n c := by
  obtain ⟨A, c, e⟩ := h.form1
  obtain ⟨S, vs, ho, _⟩ := h.items
  obtain ⟨A', c', e', _⟩ := own_readsN ho
  exact ⟨⟨_, _, _, e⟩, ⟨_, _, _, e'⟩⟩
theorem KI.form2 (h : KI w B v1 ks v2 f) : ∃ A c, v2 = .slice A f.len c := by
  obtain ⟨S, vs, ho, _⟩ := h.items
  obtain ⟨A, c, h, _⟩ := own_readsN ho
  exact ⟨A, c, h⟩
/-- A block of another kind is none of the two. -/
theorem KI.off1 (h : KI w B v1 ks v2 f) {g : Nat} {t : TypeId} {cs : Array Value} (hg : Blk w g t cs) (h1 : 9 ≠ t) : v1.ownBlock ≠ some g := own_blk_ne h.keys hg h1
theorem KI.off2 (h : KI w B v1 ks v2 f) {g : Nat} {t : TypeId} {cs : Array Value} (hg : Blk w g t cs) (h1 : 87 ≠ t) : v2.ownBlock ≠ some g := by
  obtain ⟨S, vs, ho, _⟩ := h.items
  exact own_blk_ne ho hg h1
/-- A key laid behind. -/
theorem KI.key (h : KI w B v1 ks v2 f) {v1' : Value} {t : List UInt8} (ho' : w'.ownsRow B 9 1 v1' (ks.length + 1) (tx ks ++ [.string ⟨t.toArray⟩])) (hg : w.grownBy w' v1.ownBlock) (hl : v1'.ownBlock = v1.ownBlock ∨ v1'.ownBlock = some w.heap.size) : KI w' B v1' (ks ++ [t]) v2 f := by
  obtain ⟨S, vs, ho, hp, hS⟩ := h.items
  refine ⟨by rw [tx_append, List.length_append]; exact ho', ⟨S, vs, own_at ho fun b hb => hg.block b (own_lt ho hb).2 (fun e => h.ne e.symm hb), hp.kept fun p hp => World.cell?_of_block (hg.block _ (hS _ hp).2.1 (fun e => (hS _ hp).2.2.1 e.symm)), fun b hb => ?_⟩, Nat.le_trans h.size hg.size⟩
  obtain ⟨a1, a2, a3, a4⟩ := hS b hb
  refine ⟨a1, by have := hg.size; omega, fun e => ?_, a4⟩
  rcases hl with hl | hl
  · exact a3 (hl.symm.trans e)
  · rw [hl] at e; cases e; omega
end
/-- A value's node, beside the lists. -/
def TU (w : World) (B : Nat) (v1 v2 : Value) (S2 : Nat → Prop) (h : Hd) (k : F) (u : Value) : Prop := TR (encN true) w S2 (.cons h k .nil) [u] ∧ ∀ b, S2 b → B ≤ b ∧ b < w.heap.size ∧ v1.ownBlock ≠ some b ∧ v2.ownBlock ≠ some b
/-- An item laid behind. -/
theorem KI.item {w w' : World} {B : Nat} {v1 v2 v2' : Value} {ks : List (List UInt8)} {f : F} {S2 : Nat → Prop} {h0 : Hd} {k : F} {u : Value} {S : Nat → Prop} {vs : List Value} (h : KI w B v1 ks v2 f) (hp : TR (encN true) w S f vs) (hS : ∀ b, S b → B ≤ b ∧ b < w.heap.size ∧ v1.ownBlock ≠ some b ∧ v2.ownBlock ≠ some b) (hu : TU w B v1 v2 S2 h0 k u)
    (ho' : w'.ownsRow B 87 1 v2' (f.len + 1) (vs ++ [u])) (hg : w.grownBy w' v2.ownBlock) (hl : v2'.ownBlock = v2.ownBlock ∨ v2'.ownBlock = some w.heap.size) : KI w' B v1 ks v2' (f.app (.cons h0 k .nil)) := by
  have hU : ∀ b, (S b ∨ S2 b) → B ≤ b ∧ b < w.heap.size ∧ v1.ownBlock ≠ some b ∧ v2.ownBlock ≠ some b := fun b hb => hb.elim (hS b) (hu.2 b)
  refine ⟨own_at h.keys fun b hb => hg.block b (own_lt h.keys hb).2 (fun e => h.ne hb e.symm), ⟨fun b => S b ∨ S2 b, vs ++ [u], by rw [F.len_app]; exact ho', ((hp.more fun b h => .inl h).app (hu.1.more fun b h => .inr h)).kept fun p hp => World.cell?_of_block (hg.block _ (hU _ hp).2.1 (fun e => (hU _ hp).2.2.2 e.symm)), fun b hb => ?_⟩, Nat.le_trans h.size hg.size⟩
  obtain ⟨a1, a2, a3, a4⟩ := hU b hb
  refine ⟨a1, by have := hg.size; omega, a3, fun e => ?_⟩
  rcases hl with hl | hl
  · exact a4 (hl.symm.trans e)
  · rw [hl] at e; cases e; omega
/-- The lists as an object's node. -/
theorem KI.node {w : World} {B : Nat} {v1 v2 : Value} {ks : List (List UInt8)} {f : F} (h : KI w B v1 ks v2 f) (hk : ks ≠ []) (hl : ks.length ≤ 4398046511104) (hf : f.len ≤ 4398046511104) :
    ∃ S : Nat → Prop, TV (encN true) w S ⟨6, 0, [], ks⟩ f [.iface 161 (.agg #[v1, v2])] ∧ ∀ b, S b → B ≤ b ∧ b < w.heap.size := by
  obtain ⟨S, vs, ho, hp, hS⟩ := h.items
  have hkk := h.keys
  obtain ⟨A, c, rfl, hr⟩ := RdS.of_own ho
  obtain ⟨A', c', rfl, hr'⟩ := RdS.of_own hkk
  refine ⟨fun b => S b ∨ (Value.slice A f.len c).ownBlock = some b ∨ (Value.slice A' ks.length c').ownBlock = some b, ⟨A, c, A', c', vs, rfl, hf, ⟨hl, fun _ h => absurd h hk⟩, hr.more fun b hb => .inr (.inl hb), hp.more fun b hb => .inl hb, hr'.more fun b hb => .inr (.inr hb)⟩, fun b hb => ?_⟩
  rcases hb with hb | hb | hb
  · exact ⟨(hS b hb).1, (hS b hb).2.1⟩
  · exact own_lt ho hb
  · exact own_lt hkk hb

/-- All that is known while a member is laid: the reader, the struct, the keys seen, the lists, the value's node, the blocks of the two members. -/
structure OB (w0 : World) (X : Nat → Prop) (rb : Nat) (s : List UInt8) (q ob bm N : Nat) (ss : List (List UInt8)) (c1 c2 v1 : Value) (ks : List (List UInt8)) (v2 : Value) (f : F) (S2 : Nat → Prop) (h : Hd) (k : F) (u : Value) (t : List UInt8) (g1 g2 : Option Nat) (w : World) : Prop where
  rd : Rdr w rb s q
  kp : Kp w0.heap.size X w0 w
  ob : Blk w ob 161 #[c1, c2]
  seen : Seen 154 w bm N ss
  li : KI w w0.heap.size v1 ks v2 f
  tu : TU w w0.heap.size v1 v2 S2 h k u
  t1 : ∀ g, g1 = some g → Blk w g 9 #[.string ⟨t.toArray⟩] ∧ v1.ownBlock ≠ some g ∧ v2.ownBlock ≠ some g
  t2 : ∀ g, g2 = some g → Blk w g 87 #[u] ∧ v1.ownBlock ≠ some g ∧ v2.ownBlock ≠ some g
section
variable {w0 w w' : World} {X : Nat → Prop} {rb : Nat} {s : List UInt8} {q ob bm N : Nat} {ss : List (List UInt8)} {c1 c2 v1 : Value} {ks : List (List UInt8)} {v2 : Value} {f : F} {S2 : Nat → Prop} {h : Hd} {k : F} {u : Value} {t : List UInt8} {g1 g2 : Option Nat}
theorem OB.z0 (b : OB w0 X rb s q ob bm N ss c1 c2 v1 ks v2 f S2 h k u t g1 g2 w) : w.cell? ⟨ob, 0, none⟩ = some c1 := b.ob.cell 0
theorem OB.z1 (b : OB w0 X rb s q ob bm N ss c1 c2 v1 ks v2 f S2 h k u t g1 g2 w) : w.cell? ⟨ob, 1, none⟩ = some c2 := b.ob.cell 1
theorem OB.drew (b : OB w0 X rb s q ob bm N ss c1 c2 v1 ks v2 f S2 h k u t g1 g2 w) : OB w0 X rb s q ob bm N ss c1 c2 v1 ks v2 f S2 h k u t g1 g2 w.drew :=
  ⟨b.rd, b.kp.drew, b.ob, b.seen, b.li.kept (fun _ _ _ => rfl) (Nat.le_refl _), ⟨b.tu.1.kept fun _ _ => rfl, b.tu.2⟩, b.t1, b.t2⟩
theorem TU.alloc {B : Nat} (hu : TU w B v1 v2 S2 h k u) (o : Obj) : TU (w.alloc o) B v1 v2 S2 h k u :=
  ⟨hu.1.kept fun p hp => World.cell?_alloc_lt _ _ _ (hu.2 _ hp).2.1, fun b hb => ⟨(hu.2 b hb).1, by have := (hu.2 b hb).2.1; simp; omega, (hu.2 b hb).2.2⟩⟩
theorem OB.alloc (b : OB w0 X rb s q ob bm N ss c1 c2 v1 ks v2 f S2 h k u t g1 g2 w) (o : Obj) : OB w0 X rb s q ob bm N ss c1 c2 v1 ks v2 f S2 h k u t g1 g2 (w.alloc o) :=
  ⟨Blk.alloc b.rd o, b.kp.alloc b.li.size o, b.ob.alloc o, b.seen.alloc o, b.li.alloc o, b.tu.alloc o, fun g e => ⟨(b.t1 g e).1.alloc o, (b.t1 g e).2⟩, fun g e => ⟨(b.t2 g e).1.alloc o, (b.t2 g e).2⟩⟩
theorem KI.off_new {B : Nat} (b : KI w B v1 ks v2 f) : v1.ownBlock ≠ some w.heap.size ∧ v2.ownBlock ≠ some w.heap.size := by
  refine ⟨fun e => ?_, fun e => ?_⟩
  · have := own_lt b.keys e; omega
  · obtain ⟨S, vs, ho, _⟩ := b.items
    have := own_lt ho e; omega
theorem OB.put1 (b : OB w0 X rb s q ob bm N ss c1 c2 v1 ks v2 f S2 h k u t none g2 w) : OB w0 X rb s q ob bm N ss c1 c2 v1 ks v2 f S2 h k u t (some w.heap.size) g2 (w.alloc (.cells #[.string ⟨t.toArray⟩] 9)) :=
  have a := b.alloc (.cells #[.string ⟨t.toArray⟩] 9)
  ⟨a.rd, a.kp, a.ob, a.seen, a.li, a.tu, fun g e => by cases e; exact ⟨Blk.new _ _ _, b.li.off_new⟩, a.t2⟩
theorem OB.put2 (b : OB w0 X rb s q ob bm N ss c1 c2 v1 ks v2 f S2 h k u t g1 none w) : OB w0 X rb s q ob bm N ss c1 c2 v1 ks v2 f S2 h k u t g1 (some w.heap.size) (w.alloc (.cells #[u] 87)) :=
  have a := b.alloc (.cells #[u] 87)
  ⟨a.rd, a.kp, a.ob, a.seen, a.li, a.tu, a.t1, fun g e => by cases e; exact ⟨Blk.new _ _ _, b.li.off_new⟩⟩
theorem Seen.map_ne {kt : TypeId} (hs : Seen kt w bm N ss) {base size n : Nat} {e : TypeId} {v : Value} {xs : List Value} (ho : w.ownsRow base e size v n xs) : v.ownBlock ≠ some bm := by
  obtain ⟨D, ⟨es, clock, hb, _⟩, _⟩ := hs
  rcases ho.2 with ⟨rfl, _⟩ | ⟨g, cap, cur, rfl, _, hg, _⟩
  · simp [Value.ownBlock]
  · intro e1
    have e2 : g = bm := by simpa [Value.ownBlock] using e1
    subst e2
    rw [hb] at hg
    cases hg
theorem step_key {o : Oper} {a : Act} {K : Act → World → Prop} {Q : Exit → Act → World → Prop} (sl x : Operand) (ho : o.op = .call { callee := .builtin .append, args := #[sl, x], argTypes := #[23, 23] }) {g : Nat}
    (b : OB w0 X rb s q ob bm N ss c1 c2 v1 ks v2 f S2 h k u t (some g) g2 w) (hrb : rb < w0.heap.size) (hs : a.eval sl = v1) (hx : a.eval x = .slice (some ⟨g, 0, none⟩) 1 1) (hn : ks.length ≤ 4398046511104)
    (hK : ∀ v1' w', OB w0 X rb s q ob bm N ss c1 c2 v1' (ks ++ [t]) v2 f S2 h k u t none g2 w' → K (a.put o.dst v1') w') : o.wp Tryz.prog a w K Q := by
  obtain ⟨i0, hi, hz0, hz1, hz2⟩ := info_parts infoStr
  obtain ⟨ht1, _, _⟩ := b.t1 g rfl
  refine wp_append_any (P := Tryz.prog) w sl x 23 ho w0.heap.size 9 i0 (.string .empty) 1 16 Tryz.underlying23 hi hz0 hz1 hz2 rfl (by decide) v1 ks.length (tx ks) hs b.li.keys w.heap.size (some ⟨g, 0, none⟩) 1 1 [.string ⟨t.toArray⟩] hx (Reads.one (ht1.cell 0) ht1.lt) (by simp [Value.oneCell']) (by unfold maxLen; omega) (by omega) b.li.size fun v' w' h1 h2 h3 => hK v' w' ?_
  have hob := b.li.off1 b.ob (by decide)
  have hmp := b.seen.map_ne b.li.keys
  have hrr : v1.ownBlock ≠ some rb := fun e => by have := own_lt b.li.keys e; omega
  refine ⟨b.rd.grown h2 (fun e => hrr e.symm), b.kp.grown h2 b.li.size (fun k hk => .inl (own_lt b.li.keys hk).1), b.ob.grown h2 (fun e => hob e.symm), b.seen.kept h2 (fun e => hmp e.symm), b.li.key h1 h2 h3, ⟨b.tu.1.kept fun p hp => World.cell?_of_block (h2.block _ (b.tu.2 _ hp).2.1 (fun e => (b.tu.2 _ hp).2.2.1 e.symm)), fun b' hb => ?_⟩, (fun g e => by cases e), fun g' e => ?_⟩
  · obtain ⟨a1, a2, a3, a4⟩ := b.tu.2 b' hb
    refine ⟨a1, by have := h2.size; omega, fun e => ?_, a4⟩
    rcases h3 with hl | hl
    · exact a3 (hl.symm.trans e)
    · rw [hl] at e; cases e; omega
  · obtain ⟨d1, d2, d3⟩ := b.t2 g' e
    refine ⟨d1.grown h2 (fun e => d2 e.symm), fun e => ?_, d3⟩
    rcases h3 with hl | hl
    · exact d2 (hl.symm.trans e)
    · rw [hl] at e; cases e; have := d1.lt; omega
theorem step_item {o : Oper} {a : Act} {K : Act → World → Prop} {Q : Exit → Act → World → Prop} (sl x : Operand) (ho : o.op = .call { callee := .builtin .append, args := #[sl, x], argTypes := #[155, 155] }) {g : Nat}
    (b : OB w0 X rb s q ob bm N ss c1 c2 v1 ks v2 f S2 h k u t none (some g) w) (hrb : rb < w0.heap.size) (hs : a.eval sl = v2) (hx : a.eval x = .slice (some ⟨g, 0, none⟩) 1 1) (hn : f.len ≤ 4398046511104)
    (hK : ∀ v2' w', Rdr w' rb s q → Kp w0.heap.size X w0 w' → Blk w' ob 161 #[c1, c2] → Seen 154 w' bm N ss → KI w' w0.heap.size v1 ks v2' (f.app (.cons h k .nil)) → K (a.put o.dst v2') w') : o.wp Tryz.prog a w K Q := by
  obtain ⟨i0, hi, hz0, hz1, hz2⟩ := info_parts infoNode
  obtain ⟨ht1, _, _⟩ := b.t2 g rfl
  obtain ⟨S, vs, hown, hp, hS⟩ := b.li.items
  refine wp_append_any (P := Tryz.prog) w sl x 155 ho w0.heap.size 87 i0 .nilIface 1 16 Tryz.underlying155 hi hz0 hz1 hz2 rfl (by decide) v2 f.len vs hs hown w.heap.size (some ⟨g, 0, none⟩) 1 1 [u] hx (Reads.one (ht1.cell 0) ht1.lt) b.tu.1.one (by unfold maxLen; omega) (by omega) b.li.size fun v' w' h1 h2 h3 => ?_
  have hob := b.li.off2 b.ob (by decide)
  have hmp := b.seen.map_ne hown
  have hrr : v2.ownBlock ≠ some rb := fun e => by have := own_lt hown e; omega
  exact hK v' w' (b.rd.grown h2 (fun e => hrr e.symm)) (b.kp.grown h2 b.li.size (fun k hk => .inl (own_lt hown hk).1)) (b.ob.grown h2 (fun e => hob e.symm)) (b.seen.kept h2 (fun e => hmp e.symm)) (b.li.item hp hS b.tu h1 h2 h3)
end
end Js
end Go.Proofs.YtlfeddgpfaigkaaGreatDoor
