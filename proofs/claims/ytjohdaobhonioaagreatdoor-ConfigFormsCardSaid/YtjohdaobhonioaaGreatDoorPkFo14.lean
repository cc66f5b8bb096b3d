/-
  Parts of the proof: CfB.
-/
import Derived.Test.YtjohdaobhonioaaGreatDoorPkFo13
import Derived.Test.YtjohdaobhonioaaGreatDoorPkFo8
import Derived.Laws.CopyOwn
import Derived.Deep.MidRow
namespace Go.Proofs.YtjohdaobhonioaaGreatDoor
open Go.RowKit
namespace Js.Cf
structure KJ (w : World) (B : Nat) (Q : Nat -> Prop) (v1 : Value) (ks : List (List UInt8)) (v2 : Value) (f : F) : Prop where
 keys : w.ownsRow B 9 1 v1 ks.length (tx ks)
 items : ∃ (S : Nat -> Prop) (vs : List Value), w.ownsRow B 54 5 v2 f.len vs /\ TR encJ w S f vs /\ ∀ b, S b -> Q b /\ b < w.heap.size /\ v1.ownBlock ≠ some b /\ v2.ownBlock ≠ some b
 size : B ≤ w.heap.size
theorem KJ.nil (w : World) (B : Nat) (Q : Nat -> Prop) (hB : B ≤ w.heap.size) : KJ w B Q (.slice none 0 0) [] (.slice none 0 0) .nil :=
 ⟨World.ownsRow_nil _ _ _ _, ⟨fun _ => False, [], World.ownsRow_nil _ _ _ _, rfl, fun _ h => h.elim⟩, hB⟩
section
variable {w w' : World} {B : Nat} {Q : Nat -> Prop} {v1 v2 : Value} {ks : List (List UInt8)} {f : F}
theorem KJ.ne (h : KJ w B Q v1 ks v2 f) {b : Nat} (hb : v1.ownBlock = some b) : v2.ownBlock ≠ some b := by
 obtain ⟨S, vs, ho, _⟩ := h.items
 exact own_own_ne h.keys ho (by decide) hb
theorem KJ.kept (h : KJ w B Q v1 ks v2 f) (hk : ∀ b, (B ≤ b ∨ Q b) -> b < w.heap.size -> w'.heap[b]? = w.heap[b]?) (hs : w.heap.size ≤ w'.heap.size) : KJ w' B Q v1 ks v2 f := by
 obtain ⟨S, vs, ho, hp, hS⟩ := h.items
 refine ⟨own_at h.keys fun b hb => hk b (.inl (own_lt h.keys hb).1) (own_lt h.keys hb).2, ⟨S, vs, own_at ho fun b hb => hk b (.inl (own_lt ho hb).1) (own_lt ho hb).2, hp.kept fun p hp => World.cell?_of_block (hk _ (.inr (hS _ hp).1) (hS _ hp).2.1), fun b hb => ⟨(hS b hb).1, by have := (hS b hb).2.1; omega, (hS b hb).2.2⟩⟩, Nat.le_trans h.size hs⟩
theorem KJ.form1 (h : KJ w B Q v1 ks v2 f) : ∃ A c, v1 = .slice A ks.length c := by
 obtain ⟨A, c, h, _⟩ := own_readsN h.keys
 exact ⟨A, c, h⟩
theorem KJ.form2 (h : KJ w B Q v1 ks v2 f) : ∃ A c, v2 = .slice A f.len c := by
 obtain ⟨S, vs, ho, _⟩ := h.items
 obtain ⟨A, c, h, _⟩ := own_readsN ho
 exact ⟨A, c, h⟩
theorem KJ.key (h : KJ w B Q v1 ks v2 f) {v1' : Value} {t : List UInt8} (ho' : w'.ownsRow B 9 1 v1' (ks.length + 1) (tx ks ++ [.string ⟨t.toArray⟩])) (hg : w.grownBy w' v1.ownBlock) (hl : v1'.ownBlock = v1.ownBlock ∨ v1'.ownBlock = some w.heap.size) : KJ w' B Q v1' (ks ++ [t]) v2 f := by
 obtain ⟨S, vs, ho, hp, hS⟩ := h.items
 refine ⟨by rw [tx_append, List.length_append]; exact ho', ⟨S, vs, own_at ho fun b hb => hg.block b (own_lt ho hb).2 (fun e => h.ne e.symm hb), hp.kept fun p hp => World.cell?_of_block (hg.block _ (hS _ hp).2.1 (fun e => (hS _ hp).2.2.1 e.symm)), fun b hb => ?_⟩, Nat.le_trans h.size hg.size⟩
 obtain ⟨a1, a2, a3, a4⟩ := hS b hb
 refine ⟨a1, by have := hg.size; omega, fun e => ?_, a4⟩
 rcases hl with hl | hl
 . exact a3 (hl.symm.trans e)
 . rw [hl] at e; cases e; omega
theorem KJ.item {v2' : Value} {S2 : Nat -> Prop} {h0 : Hd} {k : F} {S : Nat -> Prop} {vs us : List Value} (h : KJ w B Q v1 ks v2 f) (hp : TR encJ w S f vs) (hS : ∀ b, S b -> Q b /\ b < w.heap.size /\ v1.ownBlock ≠ some b /\ v2.ownBlock ≠ some b) (hu : TR encJ w S2 (.cons h0 k .nil) us) (hS2 : ∀ b, S2 b -> Q b /\ b < w.heap.size /\ v1.ownBlock ≠ some b /\ v2.ownBlock ≠ some b)
   (ho' : w'.ownsRow B 54 5 v2' (f.len + 1) (vs ++ us)) (hg : w.grownBy w' v2.ownBlock) (hl : v2'.ownBlock = v2.ownBlock ∨ v2'.ownBlock = some w.heap.size) : KJ w' B Q v1 ks v2' (f.app (.cons h0 k .nil)) := by
 have hU : ∀ b, (S b ∨ S2 b) -> Q b /\ b < w.heap.size /\ v1.ownBlock ≠ some b /\ v2.ownBlock ≠ some b := fun b hb => hb.elim (hS b) (hS2 b)
 refine ⟨own_at h.keys fun b hb => hg.block b (own_lt h.keys hb).2 (fun e => h.ne hb e.symm), ⟨fun b => S b ∨ S2 b, vs ++ us, by rw [F.len_app]; exact ho', ((hp.more fun b h => .inl h).app (hu.more fun b h => .inr h)).kept fun p hp => World.cell?_of_block (hg.block _ (hU _ hp).2.1 (fun e => (hU _ hp).2.2.2 e.symm)), fun b hb => ?_⟩, Nat.le_trans h.size hg.size⟩
 obtain ⟨a1, a2, a3, a4⟩ := hU b hb
 refine ⟨a1, by have := hg.size; omega, a3, fun e => ?_⟩
 rcases hl with hl | hl
 . exact a4 (hl.symm.trans e)
 . rw [hl] at e; cases e; omega
end
def VT (w : World) (B' : Nat) (v : V) (c : Array Value) : Prop := ∃ iv kv S, c = (jcells v.1 iv kv).toArray /\ TV encJ w S v.1 v.2 (jcells v.1 iv kv) /\ ∀ b, S b -> B' ≤ b /\ b < w.heap.size
theorem VT.kept {w w' : World} {B' : Nat} {v : V} {c : Array Value} (h : VT w B' v c) (hk : ∀ b, B' ≤ b -> b < w.heap.size -> w'.heap[b]? = w.heap[b]?) (hs : w.heap.size ≤ w'.heap.size) : VT w' B' v c := by
 obtain ⟨iv, kv, S, e, ht, hS⟩ := h
 exact ⟨iv, kv, S, e, ht.kept fun p hp => World.cell?_of_block (hk _ (hS _ hp).1 (hS _ hp).2), fun b hb => ⟨(hS b hb).1, by have := (hS b hb).2; omega⟩⟩
theorem VT.below {w w' : World} {B' : Nat} {v : V} {c : Array Value} (h : VT w B' v c) (hb : Below w.heap.size w w') : VT w' B' v c := h.kept (fun b _ h2 => hb.block b h2) hb.size
theorem VT.less {w : World} {B1 B2 : Nat} {v : V} {c : Array Value} (h : VT w B1 v c) (hB : B2 ≤ B1) : VT w B2 v c := by
 obtain ⟨iv, kv, S, e, ht, hS⟩ := h
 exact ⟨iv, kv, S, e, ht, fun b hb => ⟨by have := (hS b hb).1; omega, (hS b hb).2⟩⟩
theorem VT.text (w : World) (B' : Nat) (s : B) : VT w B' (tT s) #[.int .i64 4, .int .i64 0, .string ⟨s.toArray⟩, .slice none 0 0, .slice none 0 0] :=
 ⟨.slice none 0 0, .slice none 0 0, fun _ => False, rfl, ⟨none, 0, none, 0, [], rfl, by simp [tT, F.len], ⟨by simp [tT], fun h => by cases h⟩, RdS.none_, rfl, RdS.none_⟩, fun _ h => h.elim⟩
theorem VT.obj {w : World} {B' B0 : Nat} {Q : Nat -> Prop} {l : List (B × V)} {iv kv : Value} (hB : B0 ≤ B') (hQ : ∀ b, Q b -> B0 ≤ b) (h : KJ w B' Q kv (l.map Prod.fst) iv (ofL (l.map Prod.snd))) (hl : l.length ≤ 4398046511104) : VT w B0 (tO l) #[.int .i64 6, .int .i64 0, .string ⟨#[]⟩, iv, kv] := by
 obtain ⟨S, vs, ho, hp, hS⟩ := h.items
 have hk := h.keys
 obtain ⟨A1, c1, e1, r1⟩ := RdS.of_own hk
 obtain ⟨A2, c2, e2, r2⟩ := RdS.of_own ho
 refine ⟨iv, kv, fun b => S b ∨ (kv.ownBlock = some b ∨ iv.ownBlock = some b), rfl, ⟨A2, c2, A1, c1, vs, ?_, ?_, ⟨?_, fun h => by cases h⟩, r2.more fun b hb => .inr (.inr hb), hp.more fun b hb => .inl hb, r1.more fun b hb => .inr (.inl hb)⟩, fun b hb => ?_⟩
 . rw [e1, e2]; rfl
 . show (ofL (l.map Prod.snd)).len ≤ _
   rw [ofL_len, List.length_map]; exact hl
 . show (l.map Prod.fst).length ≤ _
   rw [List.length_map]; exact hl
 . rcases hb with hb | hb | hb
   . exact ⟨hQ b (hS b hb).1, (hS b hb).2.1⟩
   . exact ⟨Nat.le_trans hB (own_lt hk hb).1, (own_lt hk hb).2⟩
   . exact ⟨Nat.le_trans hB (own_lt ho hb).1, (own_lt ho hb).2⟩
theorem VT.list {w : World} {B' : Nat} {l : List V} {iv : Value} {S : Nat -> Prop} {vs : List Value} (ho : w.ownsRow B' 54 5 iv l.length vs) (hp : TR encJ w S (ofL l) vs) (hS : ∀ b, S b -> B' ≤ b /\ b < w.heap.size) (hl : l.length ≤ 4398046511104) :
   VT w B' (tL l) #[.int .i64 5, .int .i64 0, .string ⟨#[]⟩, iv, .slice none 0 0] := by
 obtain ⟨A2, c2, e2, r2⟩ := RdS.of_own ho
 have el : (ofL l).len = l.length := ofL_len l
 refine ⟨iv, .slice none 0 0, fun b => S b ∨ iv.ownBlock = some b, rfl, ⟨A2, c2, none, 0, vs, ?_, ?_, ⟨?_, fun h => by cases h⟩, ?_, hp.more fun b hb => .inl hb, RdS.none_⟩, fun b hb => ?_⟩
 . rw [e2]
   show jcells (plainH 5) _ _ = jcells (plainH 5) (.slice A2 (ofL l).len c2) _
   rw [el]; rfl
 . show (ofL l).len ≤ _
   rw [el]; exact hl
 . exact Nat.zero_le _
 . show RdS w _ encJ.sz A2 (ofL l).len vs
   rw [el]; exact r2.more fun b hb => .inr hb
 . rcases hb with hb | hb
   . exact hS b hb
   . exact own_lt ho hb
theorem ofL_snoc (l : List V) (v : V) : ofL (l ++ [v]) = (ofL l).app (.cons v.1 v.2 .nil) := by
 induction l with
 | nil => rfl
 | cons p r ih => simp only [List.cons_append, ofL, F.app, ih]
theorem own_tail {base n size cap g : Nat} {e : TypeId} : ∀ (new : List Value) (w : World) (xs old : List Value), w.ownsRow base e size (.slice (some ⟨g, 0, none⟩) n cap) n (xs ++ old) -> new.length = old.length ->
  (w.setCells g xs.length new).ownsRow base e size (.slice (some ⟨g, 0, none⟩) n cap) n (xs ++ new) /\ w.grownBy (w.setCells g xs.length new) (some g)
 | [], w, xs, [], h, _ => ⟨h, ⟨rfl, rfl, rfl, Nat.le_refl _, fun _ _ _ => rfl⟩⟩
 | [], w, xs, o :: r, h, hl => by simp at hl
 | v :: r, w, xs, [], h, hl => by simp at hl
 | v :: r, w, xs, o :: s, h, hl => by
  have h1 := h.stored xs.length v
  rw [show (xs ++ o :: s).set xs.length v = (xs ++ [v]) ++ s by simp] at h1
  have h2 := own_tail r _ (xs ++ [v]) s h1.1 (by simpa using hl)
  rw [show (xs ++ [v]).length = xs.length + 1 by simp, show (xs ++ [v]) ++ r = xs ++ v :: r by simp] at h2
  have g1 := h1.2
  have g2 := h2.2
  refine ⟨h2.1, ⟨g2.os.trans g1.os, g2.tape.trans g1.tape, g2.output.trans g1.output, Nat.le_trans g1.size g2.size, fun k hk hx => (g2.block k (Nat.lt_of_lt_of_le hk g1.size) hx).trans (g1.block k hk hx)⟩⟩
theorem own_there {w : World} {base n size cap g : Nat} {e : TypeId} {xs old : List Value} (h : w.ownsRow base e size (.slice (some ⟨g, 0, none⟩) n cap) n (xs ++ old)) : w.there g xs.length old.length := fun j hj => by
 refine ⟨?_, h.frozenAt _⟩
 have hc := h.cells (g := g) rfl (xs.length + j) (old[j]) (by rw [List.getElem?_append_right (by omega), Nat.add_sub_cancel_left]; exact List.getElem?_eq_getElem hj)
 have hadd : (⟨g, 0, none⟩ : Addr).add (xs.length + j) = ⟨g, xs.length + j, none⟩ := by rw [Addr.add_mid]; simp
 rw [hadd] at hc
 rw [hc]; rfl
end Js.Cf
end Go.Proofs.YtjohdaobhonioaaGreatDoor
