/-
  Parts of the proof: Apa.
-/
import Derived.Test.YtjohdaobhonioaaGreatDoorPkFo1
import Derived.Maps.AppendAt
import Derived.Laws.OwnMore
namespace Go.Proofs.YtjohdaobhonioaaGreatDoor
open Go.RowKit
section
variable {P : Program} (w : World)
end
theorem results_row {P : Program} {fn : Func} {p : Tmp} {ty : TypeId} (h : fn.results = #[.cell p ty]) (tmps : Array Value) (w : World) (g : Nat) (t : TypeId) (cs : Array Value) (fr : Nat × Nat) (d : TypeDesc)
  (hp : tmps.getD p undef = .pointer (some ⟨g, 0, none⟩)) (hg : w.heap[g]? = some (.cells cs t fr))
  (hu : P.underlying ty = some d) (hd : (match d with | .struct _ | .array _ _ => true | _ => false) = true) (hi : (P.info? ty).map (·.size) = some cs.size) :
  (results fn tmps).run P w = .ok (.agg cs) w := by
 have hp' : tmps[p]?.getD undef = .pointer (some ⟨g, 0, none⟩) := by simpa using hp
 simp only [results, h]
 simp [hp', asAddr, run_loadVar_row w g t ty cs fr d hg hu hd hi]
structure Rws (w : World) (B : Nat) (e : TypeId) (size m : Nat) (V : Nat -> Value) (N : Nat -> Nat) (X : Nat -> List Value) : Prop where
 own : ∀ k, k < m -> w.ownsRow B e size (V k) (N k) (X k)
 apart : ∀ i j, i < m -> j < m -> i ≠ j -> (V i).ownBlock = none ∨ (V i).ownBlock ≠ (V j).ownBlock
section
variable {w w' : World} {B : Nat} {e : TypeId} {size m : Nat} {V : Nat -> Value} {N : Nat -> Nat} {X X' : Nat -> List Value}
theorem Rws.below (h : Rws w B e size m V N X) (hb : Below w.heap.size w w') : Rws w' B e size m V N X := ⟨fun k hk => own_kept (h.own k hk) hb, h.apart⟩
theorem Rws.alloc (h : Rws w B e size m V N X) (o : Obj) : Rws (w.alloc o) B e size m V N X := ⟨fun k hk => (h.own k hk).alloc o, h.apart⟩
theorem Rws.turn (h : Rws w B e size m V N X) {k : Nat} (hk : k < m) {xs : List Value} (ho : w'.ownsRow B e size (V k) (N k) xs) (hg : w.grownBy w' (V k).ownBlock) (hX : ∀ j, X' j = if j = k then xs else X j) : Rws w' B e size m V N X' := by
 refine ⟨fun j hj => ?_, h.apart⟩
 rw [hX]
 by_cases hjk : j = k
 . subst hjk; rw [if_pos rfl]; exact ho
 . rw [if_neg hjk]; exact (h.own j hj).kept hg (h.apart j k hj hk hjk)
theorem Rws.grown (h : Rws w B e size m V N X) {k : Nat} (hk : k < m) (ho : w'.ownsRow B e size (V k) (N k) (X k)) (hg : w.grownBy w' (V k).ownBlock) : Rws w' B e size m V N X :=
 h.turn hk ho hg (fun j => by by_cases e : j = k <;> simp [e])
end
def marks (mk : Nat -> Nat -> List Value) (k n : Nat) : List Value := (List.range n).flatMap (mk k)
section
variable {mk : Nat -> Nat -> List Value} {size k n i : Nat}
theorem marks_succ (mk : Nat -> Nat -> List Value) (k n : Nat) : marks mk k (n + 1) = marks mk k n ++ mk k n := by
 unfold marks; rw [List.range_succ, List.flatMap_append]; simp
theorem marks_more (mk : Nat -> Nat -> List Value) (k n d : Nat) : ∃ r, marks mk k (n + d) = marks mk k n ++ r := by
 induction d with
 | zero => exact ⟨[], by simp⟩
 | succ d ih =>
  obtain ⟨r, hr⟩ := ih
  exact ⟨r ++ mk k (n + d), by rw [show n + (d + 1) = (n + d) + 1 by omega, marks_succ, hr, List.append_assoc]⟩
def pre (mk : Nat -> Nat -> List Value) (size k i : Nat) (X : List Value) : List Value := marks mk k i ++ X.drop (i * size)
end
theorem own_own_ne {w : World} {B B' size size' n n' : Nat} {e e' : TypeId} {v v' : Value} {xs xs' : List Value} (h : w.ownsRow B e size v n xs) (h' : w.ownsRow B' e' size' v' n' xs') (hne : e ≠ e') : v.ownBlock = none ∨ v.ownBlock ≠ v'.ownBlock := by
 rcases h.2 with ⟨rfl, rfl⟩ | ⟨g, cap, cur, rfl, _, hg, _⟩
 . exact .inl rfl
 . rcases h'.2 with ⟨rfl, rfl⟩ | ⟨g', cap', cur', rfl, _, hg', _⟩
   . exact .inr (by simp [Value.ownBlock])
   . refine .inr fun e => ?_
     simp [Value.ownBlock] at e
     subst e
     rw [hg] at hg'
     injection hg' with h1
     injection h1 with _ h2 _
     exact hne h2
theorem Reads.kept {w w' : World} {B size n : Nat} {A : Option Addr} {xs : List Value} {row : Option Nat} (h : Reads w B size A n xs) (hg : w.grownBy w' row) (hB : B ≤ w.heap.size) (hne : ∀ ad, A = some ad -> some ad.block ≠ row) : Reads w' B size A n xs :=
 ⟨h.1, fun hn => by
  obtain ⟨ad, e, hb, hc⟩ := h.2 hn
  exact ⟨ad, e, hb, fun j u hu => (World.cell?_of_block (hg.block (ad.add j).block (by rw [block_of_add]; omega) (by rw [block_of_add]; exact hne ad e))).trans (hc j u hu)⟩⟩
structure Grow (w0 w : World) (B : Nat) (e : TypeId) (size : Nat) (mk : Nat -> Nat -> List Value) (k : Nat) (A : Option Addr) (n c i : Nat) (g : Value) : Prop where
 own : w.ownsRow B e size g (n + i) (marks mk k (n + i))
 gr : w0.grownBy w (Value.slice A n c).ownBlock
 lies : g.ownBlock = (Value.slice A n c).ownBlock ∨ ∃ b, w0.heap.size ≤ b /\ g.ownBlock = some b
 old : Reads w w.heap.size size A n (marks mk k n)
 form : ∀ ad, A = some ad -> ∃ b, ad = ⟨b, 0, none⟩
section
variable {w0 w w' : World} {B : Nat} {e : TypeId} {size : Nat} {mk : Nat -> Nat -> List Value} {k : Nat} {A : Option Addr} {n c i : Nat} {g g' : Value}
theorem Grow.start (h : w0.ownsRow B e size (.slice A n c) n (marks mk k n)) : Grow w0 w0 B e size mk k A n c 0 (.slice A n c) :=
 ⟨h, World.grownBy.refl _ _, .inl rfl, Reads.of_own h, fun ad hA => by
  rcases h.2 with ⟨h0, _⟩ | ⟨g, cap, cur, h0, _⟩
  . injection h0 with h1; rw [hA] at h1; cases h1
  . injection h0 with h1; rw [hA] at h1; exact ⟨g, Option.some.inj h1⟩⟩
theorem Grow.below (h : Grow w0 w B e size mk k A n c i g) (hb : Below w.heap.size w w') : Grow w0 w' B e size mk k A n c i g :=
 ⟨own_kept h.own hb, ⟨hb.os.trans h.gr.os, hb.tape.trans h.gr.tape, hb.output.trans h.gr.output, Nat.le_trans h.gr.size hb.size, fun b hb1 hne => (hb.block b (Nat.lt_of_lt_of_le hb1 h.gr.size)).trans (h.gr.block b hb1 hne)⟩, h.lies, h.old.step (Nat.le_refl _) hb, h.form⟩
theorem Grow.step (h : Grow w0 w B e size mk k A n c i g) (ho : w'.ownsRow B e size g' (n + i + 1) (marks mk k (n + i) ++ mk k (n + i))) (hg : w.grownBy w' g.ownBlock)
   (hk : w'.ownsRow B e size g (n + i) (marks mk k (n + i))) (hl : g'.ownBlock = g.ownBlock ∨ g'.ownBlock = some w.heap.size) : Grow w0 w' B e size mk k A n c (i + 1) g' := by
 refine ⟨?_, ⟨hg.os.trans h.gr.os, hg.tape.trans h.gr.tape, hg.output.trans h.gr.output, Nat.le_trans h.gr.size hg.size, fun b hb hne => ?_⟩, ?_, ?_, h.form⟩
 . rw [show n + (i + 1) = n + i + 1 by omega, marks_succ]; exact ho
 . refine (hg.block b (Nat.lt_of_lt_of_le hb h.gr.size) ?_).trans (h.gr.block b hb hne)
   rcases h.lies with e | ⟨b', hb', e⟩
   . rw [e]; exact hne
   . rw [e]; intro e2; injection e2 with e2; omega
 . rcases hl with e | e
   . rw [e]; exact h.lies
   . exact .inr ⟨_, h.gr.size, e⟩
 . refine ⟨h.old.1, fun hn => ?_⟩
   obtain ⟨ad, hA, hb, hc⟩ := h.old.2 hn
   by_cases hs : some ad.block = g.ownBlock
   . obtain ⟨gb, cap, rfl, _, hlt⟩ := hk.form (by omega)
     obtain ⟨b, rfl⟩ := h.form ad hA
     have hgb : b = gb := by simpa [Value.ownBlock] using hs
     subst hgb
     have hsz := hg.size
     refine ⟨_, hA, by simp only; omega, fun j u hu => ?_⟩
     obtain ⟨r, hr⟩ := marks_more mk k n i
     exact hk.cells (g := b) rfl j u (by rw [hr, List.getElem?_append_left (List.getElem?_eq_some_iff.1 hu).1]; exact hu)
   . have hsz := hg.size
     exact ⟨ad, hA, by omega, fun j u hu => (World.cell?_of_block (hg.block (ad.add j).block (by rw [block_of_add]; exact hb) (by rw [block_of_add]; exact hs))).trans (hc j u hu)⟩
end
structure St2 (w : World) (B : Nat) (e T : TypeId) (size m : Nat) (mk : Nat -> Nat -> List Value) (V : Nat -> Value) (N : Nat -> Nat) (k : Nat) (vgs : Value) (G : Nat -> Value) : Prop where
 gs : w.ownsRow B T 1 vgs k ((List.range k).map G)
 later : ∀ j, k ≤ j -> j < m -> w.ownsRow B e size (V j) (N j) (marks mk j (N j))
 oldr : ∀ j, j < k -> ∃ A c, V j = .slice A (N j) c /\ Reads w w.heap.size size A (N j) (marks mk j (N j))
 newr : ∀ j, j < k -> w.ownsRow B e size (G j) (N j + 64) (marks mk j (N j + 64))
 ap : ∀ j j', j < k -> k ≤ j' -> j' < m -> (G j).ownBlock ≠ (V j').ownBlock
 vlt : ∀ j, j < m -> ∀ b, (V j).ownBlock = some b -> b < w.heap.size
 vgap : ∀ j, j < m -> vgs.ownBlock = none ∨ vgs.ownBlock ≠ (V j).ownBlock
theorem St2.start {w : World} {B : Nat} {e T : TypeId} {size m : Nat} {mk : Nat -> Nat -> List Value} {V : Nat -> Value} {N : Nat -> Nat} (h : ∀ j, j < m -> w.ownsRow B e size (V j) (N j) (marks mk j (N j))) :
  St2 w B e T size m mk V N 0 (.slice none 0 0) (fun _ => .nilIface) :=
 ⟨World.ownsRow_nil _ _ _ _, fun j _ hj => h j hj, fun j hj => absurd hj (by omega), fun j hj => absurd hj (by omega), fun j _ hj => absurd hj (by omega), fun j hj b hb => ((h j hj).lt b hb).2, fun _ _ => .inl rfl⟩
theorem slice_block {A : Option Addr} {n c : Nat} {ad : Addr} (h : A = some ad) : (Value.slice A n c).ownBlock = some ad.block := by subst h; rfl
theorem St2.step {w w1 w2 : World} {B : Nat} {e T : TypeId} {size m : Nat} {mk : Nat -> Nat -> List Value} {V : Nat -> Value} {N : Nat -> Nat} {k : Nat} {vgs vgs' : Value} {G : Nat -> Value} (hT : T ≠ e) (hk : k < m)
   (hap : ∀ i j, i < m -> j < m -> i ≠ j -> (V i).ownBlock = none ∨ (V i).ownBlock ≠ (V j).ownBlock) (h : St2 w B e T size m mk V N k vgs G)
   {A : Option Addr} {n c : Nat} (hV : V k = .slice A n c) (hN : N k = n) {g : Value} (hg : Grow w w1 B e size mk k A n c 64 g)
   (ho : w2.ownsRow B T 1 vgs' (k + 1) ((List.range k).map G ++ [g])) (hw : w1.grownBy w2 vgs.ownBlock) (hl : vgs'.ownBlock = vgs.ownBlock ∨ vgs'.ownBlock = some w1.heap.size) :
   St2 w2 B e T size m mk V N (k + 1) vgs' (fun j => if j = k then g else G j) := by
 have hgr : w.grownBy w1 (V k).ownBlock := by rw [hV]; exact hg.gr
 have hgb : ∃ b, g.ownBlock = some b := by
   obtain ⟨b, _, rfl, _⟩ := hg.own.form (by omega)
   exact ⟨b, rfl⟩
 have hgl : g.ownBlock = (V k).ownBlock ∨ ∃ b, w.heap.size ≤ b /\ g.ownBlock = some b := by rw [hV]; exact hg.lies
 have gs1 : w1.ownsRow B T 1 vgs k ((List.range k).map G) := h.gs.kept hgr (own_own_ne h.gs (h.later k (Nat.le_refl _) hk) hT)
 have later1 : ∀ j, k < j -> j < m -> w1.ownsRow B e size (V j) (N j) (marks mk j (N j)) := fun j h1 h2 => (h.later j (by omega) h2).kept hgr (hap j k h2 hk (by omega))
 have newr1 : ∀ j, j < k -> w1.ownsRow B e size (G j) (N j + 64) (marks mk j (N j + 64)) := fun j hj => (h.newr j hj).kept hgr (.inr (h.ap j k hj (Nat.le_refl _) hk))
 have own2 : ∀ {v : Value} {n : Nat} {xs : List Value}, w1.ownsRow B e size v n xs -> w2.ownsRow B e size v n xs := fun hv => hv.kept hw (own_own_ne hv gs1 (fun e => hT e.symm))
 have hsz1 := hgr.size
 have hsz2 := hw.size
 refine ⟨?_, fun j h1 h2 => own2 (later1 j (by omega) h2), fun j hj => ?_, fun j hj => ?_, fun j j' hj h1 h2 => ?_, fun j hj b hb => by have := h.vlt j hj b hb; omega, fun j hj => ?_⟩
 . have : (List.range (k + 1)).map (fun j => if j = k then g else G j) = (List.range k).map G ++ [g] := by
     rw [List.range_succ, List.map_append]
     congr 1
     . exact List.map_congr_left fun j hj => by rw [if_neg (by have := List.mem_range.1 hj; omega)]
     . simp
   rw [this]; exact ho
 . by_cases hjk : j = k
   . subst hjk
     refine ⟨A, c, by rw [hV, hN], ?_⟩
     rw [hN]
     refine (hg.old.kept hw (Nat.le_refl _) fun ad hA => ?_).more hsz2
     have h1 := h.vgap j hk
     rw [hV, slice_block hA] at h1
     rcases h1 with h1 | h1
     . rw [h1]; exact fun e => by cases e
     . exact fun e => h1 e.symm
   . obtain ⟨A', c', hV', hr'⟩ := h.oldr j (by omega)
     refine ⟨A', c', hV', ?_⟩
     have hr1 : Reads w1 w.heap.size size A' (N j) (marks mk j (N j)) := hr'.kept hgr (Nat.le_refl _) fun ad hA => by
       have h1 := hap j k (by omega) hk hjk
       rw [hV', slice_block hA] at h1
       rcases h1 with h1 | h1
       . cases h1
       . exact h1
     refine (hr1.kept hw hsz1 fun ad hA => ?_).more (by omega)
     have h1 := h.vgap j (by omega)
     rw [hV', slice_block hA] at h1
     rcases h1 with h1 | h1
     . rw [h1]; exact fun e => by cases e
     . exact fun e => h1 e.symm
 . by_cases hjk : j = k
   . subst hjk; simp only [if_pos]; rw [hN]; exact own2 hg.own
   . simp only [if_neg hjk]; exact own2 (newr1 j (by omega))
 . by_cases hjk : j = k
   . subst hjk
     simp only [if_pos]
     obtain ⟨b, hb⟩ := hgb
     rcases hgl with e1 | ⟨b', hb', e1⟩
     . have h3 := hap j j' hk h2 (by omega)
       rw [<- e1, hb] at h3
       rcases h3 with h3 | h3
       . cases h3
       . rw [hb]; exact h3
     . intro e2
       have h3 := h.vlt j' h2 b' (by rw [<- e2, e1])
       omega
   . simp only [if_neg hjk]; exact h.ap j j' (by omega) (by omega) h2
 . rcases hl with e1 | e1
   . rw [e1]; exact h.vgap j hj
   . refine .inr fun e2 => ?_
     have h3 := h.vlt j hj w1.heap.size (by rw [<- e2, e1])
     omega
end Go.Proofs.YtjohdaobhonioaaGreatDoor
